/-
  The law FnExactLessString returns true, whatever the strings. No condition.
-/
import Derived.Test.YtegpbgdmehipnaaBase
namespace Go.Proofs.Ytegpbgdmehipnaa
open Go.RowKit
set_option linter.unusedVariables false


set_option maxHeartbeats 400000 in
theorem walkFnExactLessString (a b : ByteArray) (w : World) (wa : a.size ≤ maxLen) (wb : b.size ≤ maxLen) :
    Calls Try.prog 4 #[.string a, .string b] w fun e w' => e = .returned (.bool true) ∧ Below w.heap.size w w' := by
  unfold maxLen at wa wb
  by_cases h1 : a.size ≤ 1048576 <;> by_cases h2 : b.size ≤ 1048576
  all_goals (go_enter Try.func4, Try.ntmps4)
  all_goals go_wp2
  all_goals go_ret
  all_goals exact ⟨rfl, Below.refl _ _⟩

end Go.Proofs.Ytegpbgdmehipnaa
