/-
  The law FnExactIsCell returns true, whatever the number. No condition.
-/
import Derived.Test.YtlgbdljeflhfhaaBase
namespace Go.Proofs.Ytlgbdljeflhfhaa
open Go.RowKit

set_option linter.unusedVariables false in
set_option maxHeartbeats 400000 in
theorem walkFnExactIsCell (c : Int) (w : World) (wc : (Lit.int .i64 c).wf = true) :
    Calls Try.prog 3 #[.int .i64 c] w fun e w' => e = .returned (.bool true) ∧ Below w.heap.size w w' := by
  by_cases h0 : 0 ≤ c <;> by_cases h1 : c ≤ 127 <;> (
    go_enter Try.func3, Try.ntmps3
    go_wp2
    go_ret
    exact ⟨rfl, Below.refl _ _⟩)

end Go.Proofs.Ytlgbdljeflhfhaa
