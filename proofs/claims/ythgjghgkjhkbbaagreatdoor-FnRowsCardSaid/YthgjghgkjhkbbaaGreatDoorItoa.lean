/-
  Contract: strconv.Itoa. Condition: the table of the powers of ten lies as the program lays it.
-/
import Derived.Test.YthgjghgkjhkbbaaGreatDoorFacts
import Derived.Test.YthgjghgkjhkbbaaGreatDoorShelf
import Derived.Lib.AppendIntMem
namespace Go.Proofs.YthgjghgkjhkbbaaGreatDoor
open Go.RowKit
set_option linter.unusedVariables false
set_option maxRecDepth 20000


theorem itoaL_any (n : Int) (w : World) (h0 : -9223372036854775808 ≤ n) (h1 : n ≤ 9223372036854775807) (hF : Facts w) :
    Calls Tryz.prog 63 #[.int .i64 n] w fun e w' => e = .returned (.string ⟨(Lib.itoa n).toArray⟩) ∧ Below w.heap.size w w' := by
  refine (Tryz.strconv_Itoa n h0 h1 w hF).mono ?_
  rintro e w' ⟨rfl, k, os, rfl⟩
  exact ⟨rfl, Lib.below_grow _ w (Nat.le_refl _) k os⟩

end Go.Proofs.YthgjghgkjhkbbaaGreatDoor
