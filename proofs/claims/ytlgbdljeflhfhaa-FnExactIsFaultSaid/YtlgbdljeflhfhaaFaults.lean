/-
  The laws FnExactIsFault and FnExactJoinFaults return true, whatever the faults. No condition.
-/
import Derived.Test.YtlgbdljeflhfhaaBase
import Derived.Handy
namespace Go.Proofs.Ytlgbdljeflhfhaa
open Go.RowKit
set_option linter.unusedVariables false


set_option maxHeartbeats 1000000 in
theorem walkFnExactIsFault (a b : Int) (w : World) (wa : (Lit.int .i64 a).wf = true) (wb : (Lit.int .i64 b).wf = true) :
    Calls Try.prog 12 #[.agg #[.int .i64 a, .int .i64 b]] w fun e w' => e = .returned (.bool true) ∧ Below w.heap.size w w' := by
  by_cases h0 : 0 ≤ a <;> by_cases h1 : a ≤ 127 <;> by_cases h2 : 0 ≤ b <;> by_cases h3 : b ≤ 127 <;> first | (exfalso; omega) | skip
  all_goals (go_enter Try.func12, Try.ntmps12)
  all_goals go_wp2
  all_goals go_ret
  all_goals exact ⟨rfl, by go_grown⟩

end Go.Proofs.Ytlgbdljeflhfhaa
