/-
  What the listed tables give the walks: the powers of ten that strconv reads. No condition.
-/
import Derived.Test.YthgjghgkjhkbbaaGreatDoorBase
import Derived.Test.YthgjghgkjhkbbaaGreatDoorRows
import Derived.Lib.LaidTab
import Derived.Lib.ItoaNum
import Derived.Stop.LaidErr
import Derived.MakeChecks
import Derived.Lib.SmallJoins
namespace Go.Proofs.YthgjghgkjhkbbaaGreatDoor
open Go.RowKit
set_option linter.unusedVariables false
set_option maxRecDepth 20000


def Facts (W : World) : Prop := Lib.TabIs Tryz.prog W "internal/strconv.uint64pow10" .u64 Lib.pow10Tab
theorem gPow : Tryz.prog.globalNamed "internal/strconv.uint64pow10" = some 1 := by kernel_rfl
theorem gPowType : (Tryz.prog.globals[1]?).map (·.type) = some 101 := by kernel_rfl
theorem cellsP : Tryz.prog.cellsOf 101 = 20 := by kernel_rfl
theorem cellsU : Tryz.prog.cellsOf 40 = 1 := by kernel_rfl
theorem pow_is : (Rows.laid_internal_strconv_uint64pow10 : DataW Unit) = Lib.tabData .u64 Lib.pow10Tab := by kernel_rfl
theorem facts_of {W : World} {a b : String × DataW Unit} (h : laidMet Tryz.prog [a, b, ("internal/strconv.uint64pow10", Rows.laid_internal_strconv_uint64pow10)] W) : Facts W := by
  have h3 := h.tail.tail
  rw [pow_is] at h3
  exact Lib.tabIs_of_head (rest := []) gPow gPowType Tryz.underlying101 Tryz.underlying40 cellsU cellsP h3
theorem facts_keep {W W' : World} (h : Facts W) (hb : Below W.heap.size W W') : Facts W' := Go.Joins.tab_stays gPow h hb (Nat.le_refl _)

end Go.Proofs.YthgjghgkjhkbbaaGreatDoor
