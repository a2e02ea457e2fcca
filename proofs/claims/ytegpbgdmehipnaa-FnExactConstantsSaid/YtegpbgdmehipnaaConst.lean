/-
  The law FnExactConstants returns true. No condition.
-/
import Derived.Test.YtegpbgdmehipnaaBase
namespace Go.Proofs.Ytegpbgdmehipnaa
open Go.RowKit
set_option linter.unusedVariables false


set_option maxHeartbeats 400000 in
theorem walkFnExactConstants (w : World) :
    Calls Try.prog 3 #[] w fun e w' => e = .returned (.bool true) ∧ Below w.heap.size w w' := by
  go_enter Try.func3, Try.ntmps3
  go_wp2
  go_ret
  exact ⟨rfl, Below.refl _ _⟩

end Go.Proofs.Ytegpbgdmehipnaa
