/-
  Contract of the draw of one of some numbers. Condition: at most a million draws.
-/
import Derived.Test.YthgjghgkjhkbbaaGreatDoorCurS
namespace Go.Proofs.YthgjghgkjhkbbaaGreatDoor
open Go.RowKit
set_option linter.unusedVariables false
set_option maxRecDepth 20000


set_option maxHeartbeats 1000000 in
theorem among_s (N M g h0 n : Nat) (P : Int → Prop) (w : World) (h : CurS N M w g) (hM : M ≤ 900000) (n0 : 1 ≤ n) (n1 : n ≤ 1000) (hg : h0 ≠ g) (hx : ∀ j, j < n → ∃ x : Int, w.cell? ⟨h0, j, none⟩ = some (.int .i64 x) ∧ P x) :
    Calls Tryz.prog 49 #[.pointer (some ⟨g, 0, none⟩), .slice (some ⟨h0, 0, none⟩) n n] w fun e w' => ∃ x : Int, e = .returned (.int .i64 x) ∧ P x ∧ CurS N (M + 2) w' g ∧ Below N w w' ∧ KB g w w' := by
  have H1 := Lib.hid (pick_s N M g n w h hM (by omega))
  have HX := Lib.hid hx
  clear h hx
  go_enter Tryz.func49, Tryz.ntmps49
  go_wp2_with fail
  refine H1.out.mono ?_
  rintro e w1 ⟨r, rfl, p0, p1, p2, hc1, hb1, hk1⟩
  obtain ⟨j, rfl⟩ := Int.eq_ofNat_of_zero_le p0
  have hj : (j : Int) < (n : Int) := p1 (by omega)
  obtain ⟨x, hx1, hx2⟩ := HX.out j (by omega)
  have hlt : h0 < w.heap.size := World.block_lt_of_cell? w _ hx1
  have hcell : w1.cell? ⟨h0, j, none⟩ = some (.int .i64 x) := (World.cell?_of_block (hk1.2 h0 hlt hg)).trans hx1
  clear hx1
  go_wp2
  go_ret
  exact ⟨x, rfl, hx2, hc1, hb1, hk1⟩

end Go.Proofs.YthgjghgkjhkbbaaGreatDoor
