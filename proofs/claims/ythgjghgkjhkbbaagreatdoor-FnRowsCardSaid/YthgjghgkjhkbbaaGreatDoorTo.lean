/-
  The copy of a slice of integers that came in, as the law file makes it. Condition: at most 2^20 elements.
-/
import Derived.Test.YthgjghgkjhkbbaaGreatDoorSl
namespace Go.Proofs.YthgjghgkjhkbbaaGreatDoor
open Go.RowKit
set_option linter.unusedVariables false
set_option maxRecDepth 20000


theorem info_int : (Tryz.prog.info? 3).map (fun i => (i.zero, i.size, i.bytes)) = some (some (.int .i64 0), 1, 8) := by kernel_rfl

theorem take_step (zs : List Int) (len i : Nat) (x : Int) (hl : len ≤ zs.length) (h : i < len) (hx : zs.getD i 0 = x) :
    (zs.take i ++ List.replicate (len - i) 0).set i x = zs.take (i + 1) ++ List.replicate (len - (i + 1)) 0 := by
  have h1 : (zs.take i).length = i := by rw [List.length_take]; omega
  rw [List.set_append_right _ _ (by rw [h1]; exact Nat.le_refl _), h1, Nat.sub_self]
  rw [show len - i = (len - (i + 1)) + 1 by omega, List.replicate_succ, List.set_cons_zero]
  rw [List.take_succ_eq_append_getElem (by omega), List.append_assoc]
  have : zs[i]'(by omega) = x := by rw [← hx]; simp [List.getD, List.getElem?_eq_getElem (show i < zs.length by omega)]
  rw [this]; rfl

theorem inRow_cells {w : World} {a : Option Addr} {len cap : Nat} {zs : List Int} (h : InRow .i64 w a len cap zs) (hl : 0 < len) :
    ∃ b o, a = some ⟨b, o, none⟩ ∧ b < w.heap.size ∧ len ≤ zs.length ∧ ∀ j, j < len → w.cell? ⟨b, o + j, none⟩ = some (.int .i64 (zs.getD j 0)) := by
  rcases h with ⟨rfl, rfl, rfl, rfl⟩ | ⟨x, rfl, hlc, hm, hz, hc, hw⟩
  · omega
  · obtain ⟨b, off, spot⟩ := x
    have h0 := hc 0 (by omega)
    have hspot : spot = none := by simpa [Addr.add] using World.cell?_spot h0
    subst hspot
    refine ⟨b, off, rfl, World.block_lt_of_cell? w _ (by simpa [Addr.add] using h0), by omega, fun j hj => ?_⟩
    have := hc j (by omega)
    by_cases hj0 : j = 0
    · subst hj0; simpa [Addr.add] using this
    · simpa [Addr.add, hj0] using this

end Go.Proofs.YthgjghgkjhkbbaaGreatDoor
