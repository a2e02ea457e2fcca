/-
  Contracts of the law file's helpers on slices of integers: equal, marked, held. No condition but the bounds on lengths.
-/
import Derived.Test.YthgjghgkjhkbbaaGreatDoorOwn
import Derived.Lib.Hide
import Derived.Deep.QuietTactic
import Derived.BigQuiet
namespace Go.Proofs.YthgjghgkjhkbbaaGreatDoor
open Go.RowKit
set_option linter.unusedVariables false
set_option maxRecDepth 20000


/-- n numbers one by one, from k on. -/
def mkL (k : Int) (n : Nat) : List Int := (List.range n).map fun i : Nat => k + (i : Int)
theorem mkL_len (k : Int) (n : Nat) : (mkL k n).length = n := by simp [mkL]
theorem mkL_at (k : Int) (n j : Nat) (h : j < n) : (mkL k n).getD j 0 = k + j := by simp [mkL, List.getD, h]
theorem mkL_step (k : Int) (xs : List Int) (i : Nat) (h : i < xs.length) : (mkL k i ++ xs.drop i).set i (k + i) = mkL k (i + 1) ++ xs.drop (i + 1) := by
  rw [List.set_append_right _ _ (by rw [mkL_len]; exact Nat.le_refl _), mkL_len, Nat.sub_self]
  have e : mkL k (i + 1) = mkL k i ++ [k + i] := by simp [mkL, List.range_succ]
  rw [e, List.append_assoc, List.drop_eq_getElem_cons h]
  rfl
theorem mkL_mid (k : Int) (xs : List Int) (i : Nat) (h : i ≤ xs.length) : (mkL k i ++ xs.drop i).length = xs.length := by
  rw [List.length_append, mkL_len, List.length_drop]; omega

end Go.Proofs.YthgjghgkjhkbbaaGreatDoor
