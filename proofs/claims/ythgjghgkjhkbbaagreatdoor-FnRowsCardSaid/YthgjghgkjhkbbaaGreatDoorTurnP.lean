/-
  A number's row is a row, turned too: plain facts.
-/
import Derived.Test.YthgjghgkjhkbbaaGreatDoorRowN
import Derived.Test.YthgjghgkjhkbbaaGreatDoorRow
import Derived.Test.YthgjghgkjhkbbaaGreatDoorTurn
namespace Go.Proofs.YthgjghgkjhkbbaaGreatDoor
open Go.RowKit
set_option linter.unusedVariables false
set_option maxRecDepth 20000


theorem turnC_lt : ∀ n : Nat, n < 128 → turnFrom n 7 < 128 := by decide +kernel
theorem isRow_c (n : Nat) : isRow (cRow n (nd n)) = true := by
  refine isRow_good _ (by rw [cRow_len]; exact (nd_rng n).2) fun j hj => ?_
  rw [cRow_len] at hj
  have := cRow_at n (nd n) j hj
  exact decide_eq_true this
theorem isRow_turn (xs : List Int) (h : isRow xs = true) : isRow (tRow turnFrom xs) = true := by
  have hl := isRow_len xs h
  have hlen : (tRow turnFrom xs).length = xs.length := by simp [tRow]
  unfold isRow
  rw [hlen, decide_eq_true hl, Bool.true_and, List.all_eq_true]
  intro c hc
  unfold tRow at hc
  rw [List.mem_reverse, List.mem_map] at hc
  obtain ⟨x, hx, rfl⟩ := hc
  obtain ⟨i, hi⟩ := List.mem_iff_getElem?.1 hx
  obtain ⟨h1, h2⟩ := List.getElem?_eq_some_iff.1 hi
  have h3 := isRow_cell xs h i h1
  rw [show xs.getD i 0 = x by simp [List.getD, hi]] at h3
  have := turnC_lt x.toNat (by omega)
  exact decide_eq_true (by omega)
theorem tRow_len (xs : List Int) : (tRow turnFrom xs).length = xs.length := by simp [tRow]

end Go.Proofs.YthgjghgkjhkbbaaGreatDoor
