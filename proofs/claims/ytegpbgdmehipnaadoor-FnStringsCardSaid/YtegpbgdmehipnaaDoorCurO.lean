/-
  Contracts of the draws of one of some texts. Condition: at most a million draws.
-/
import Derived.Test.YtegpbgdmehipnaaDoorCurS
import Derived.Test.YtegpbgdmehipnaaDoorStr
namespace Go.Proofs.YtegpbgdmehipnaaDoor
open Go.RowKit
set_option linter.unusedVariables false

set_option maxHeartbeats 1000000 in
theorem of_s (N M g S h0 n : Nat) (w : World) (h : CurS N M w g) (hM : M ≤ 900000) (n0 : 1 ≤ n) (n1 : n ≤ 1000) (hg : h0 ≠ g) (hx : ∀ j, j < n → ∃ x : ByteArray, w.cell? ⟨h0, j, none⟩ = some (.string x) ∧ x.size ≤ S) :
    Calls Tryd.prog 52 #[.pointer (some ⟨g, 0, none⟩), .slice (some ⟨h0, 0, none⟩) n n] w fun e w' => ∃ x : ByteArray, e = .returned (.string x) ∧ x.size ≤ S ∧ CurS N (M + 2) w' g ∧ Below N w w' ∧ KB g w w' := by
  have H1 := Lib.hid (pick_s N M g n w h hM (by omega))
  have HX := Lib.hid hx
  clear h hx
  go_enter Tryd.func52, Tryd.ntmps52
  go_wp2_with fail
  refine H1.out.mono ?_
  rintro e w1 ⟨r, rfl, p0, p1, p2, hc1, hb1, hk1⟩
  obtain ⟨j, rfl⟩ := Int.eq_ofNat_of_zero_le p0
  have hj : (j : Int) < (n : Int) := p1 (by omega)
  obtain ⟨x, hx1, hx2⟩ := HX.out j (by omega)
  have hlt : h0 < w.heap.size := World.block_lt_of_cell? w _ hx1
  have hcell : w1.cell? ⟨h0, j, none⟩ = some (.string x) := (World.cell?_of_block (hk1.2 h0 hlt hg)).trans hx1
  clear hx1
  go_wp2
  go_ret
  exact ⟨x, rfl, hx2, hc1, hb1, hk1⟩

theorem nine (j : Nat) (h : j < 9) : j = 0 ∨ j = 1 ∨ j = 2 ∨ j = 3 ∨ j = 4 ∨ j = 5 ∨ j = 6 ∨ j = 7 ∨ j = 8 := by omega
theorem five (j : Nat) (h : j < 5) : j = 0 ∨ j = 1 ∨ j = 2 ∨ j = 3 ∨ j = 4 := by omega
set_option maxHeartbeats 2000000 in
theorem any1_s (N M g : Nat) (w : World) (h : CurS N M w g) (hM : M ≤ 900000) :
    Calls Tryd.prog 53 #[.pointer (some ⟨g, 0, none⟩)] w fun e w' => ∃ x : ByteArray, e = .returned (.string x) ∧ x.size ≤ 100 ∧ CurS N (M + 2) w' g ∧ Below N w w' ∧ KB g w w' := by
  have hg := curS_lt h
  have hNg : N ≤ g := by obtain ⟨_, _, _, _, _, _, _, _, _, hh⟩ := h; exact hh
  have HC := Lib.hid h
  clear h
  go_enter Tryd.func53, Tryd.ntmps53
  go_wp2_with fail
  refine (of_s N M g 100 w.heap.size 9 _ (curS_keep HC.out ((Below.refl _ _).alloc (Nat.le_refl _) _)) hM (by omega) (by omega) (by omega) (fun j hj => ?_)).mono ?_
  · rcases nine j hj with rfl | rfl | rfl | rfl | rfl | rfl | rfl | rfl | rfl <;> exact ⟨_, by simp; rfl, by decide⟩
  rintro e w1 ⟨x, rfl, hx, hc1, hb1, hk1⟩
  go_wp2
  go_ret
  exact ⟨x, rfl, hx, hc1, ((Below.refl _ _).alloc (by omega) _).trans hb1, (KB.alloc w _).trans hk1⟩

end Go.Proofs.YtegpbgdmehipnaaDoor
