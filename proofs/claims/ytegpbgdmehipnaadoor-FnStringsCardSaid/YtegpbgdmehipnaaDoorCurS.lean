/-
  Contracts of the draws of the reference: a number, once in n times, one of some texts. Condition: at most a million draws.
-/
import Derived.Test.YtegpbgdmehipnaaDoorCur
namespace Go.Proofs.YtegpbgdmehipnaaDoor
open Go.RowKit
set_option linter.unusedVariables false


/-- A cursor in the block g over bytes below N, at most M bytes on. -/
def CurS (N M : Nat) (w : World) (g : Nat) : Prop := ∃ a len cap at_ seed, CurF w g a len cap at_ seed ∧ Bytes N w a len ∧ len ≤ 65536 ∧ at_ ≤ M ∧ N ≤ g
/-- Of what was there only the block g may have turned. -/
def KB (g : Nat) (w w' : World) : Prop := w.heap.size ≤ w'.heap.size ∧ ∀ k, k < w.heap.size → k ≠ g → w'.heap[k]? = w.heap[k]?
theorem KB.trans {g : Nat} {a b c : World} (h : KB g a b) (k : KB g b c) : KB g a c := ⟨Nat.le_trans h.1 k.1, fun i hi hg => (k.2 i (Nat.lt_of_lt_of_le hi h.1) hg).trans (h.2 i hi hg)⟩
theorem KB.alloc {g : Nat} (w : World) (o : Obj) : KB g w (w.alloc o) := ⟨by simp, fun k hk _ => heap_alloc_old w o hk⟩
theorem curS_lt {N M g : Nat} {w : World} (h : CurS N M w g) : g < w.heap.size := by obtain ⟨_, _, _, _, _, hc, _⟩ := h; exact hc.2.2.2.2.1
theorem curS_more {N M M' g : Nat} {w : World} (h : CurS N M w g) (hM : M ≤ M') : CurS N M' w g := by
  obtain ⟨a, len, cap, at_, seed, h1, h2, h3, h4, h5⟩ := h
  exact ⟨a, len, cap, at_, seed, h1, h2, h3, Nat.le_trans h4 hM, h5⟩
/-- A new block behind it, or what keeps all that was there. -/
theorem curS_keep {N M g : Nat} {w w' : World} (h : CurS N M w g) (hb : Below w.heap.size w w') : CurS N M w' g := by
  obtain ⟨a, len, cap, at_, seed, ⟨c0, c1, c2, hf, hg, s0, s1⟩, h2, h3, h4, h5⟩ := h
  exact ⟨a, len, cap, at_, seed, ⟨(hb.cell (p := ⟨g, 0, none⟩) hg).trans c0, (hb.cell (p := ⟨g, 1, none⟩) hg).trans c1, (hb.cell (p := ⟨g, 2, none⟩) hg).trans c2, fun j => (hb.frozen (p := ⟨g, j, none⟩) hg).trans (hf j), Nat.lt_of_lt_of_le hg hb.size, s0, s1⟩, bytes_keep h2 (hb.mono (Nat.le_trans h5 (Nat.le_of_lt hg))), h3, h4, h5⟩

theorem next_s (N M g : Nat) (w : World) (h : CurS N M w g) (hM : M ≤ 1000000) :
    Calls Tryd.prog 63 #[.pointer (some ⟨g, 0, none⟩)] w fun e w' => ∃ b : Int, e = .returned (.int .i64 b) ∧ 0 ≤ b ∧ b ≤ 255 ∧ CurS N (M + 1) w' g ∧ Below N w w' ∧ KB g w w' := by
  obtain ⟨a, len, cap, at_, seed, h1, h2, h3, h4, h5⟩ := h
  refine (next_any g a len cap at_ seed w N h5 h1 h2 h3 (by omega)).mono ?_
  rintro e w' ⟨b, seed', rfl, b0, b1, hc, hb, hz, hk⟩
  exact ⟨b, rfl, b0, b1, ⟨a, len, cap, at_ + 1, seed', hc, bytes_keep h2 hb, h3, by omega, h5⟩, hb, Nat.le_of_eq hz, fun k _ hg => hk k hg⟩

theorem emod_le' (x n : Int) (hx : 0 ≤ x) (hn : 0 ≤ n) : x % n ≤ x := by
  have h1 := Int.mul_ediv_add_emod x n
  have h2 := Int.mul_nonneg hn (Int.ediv_nonneg hx hn)
  omega
set_option maxHeartbeats 1000000 in
theorem pick_s (N M g : Nat) (n : Int) (w : World) (h : CurS N M w g) (hM : M ≤ 900000) (n1 : n ≤ 1000000000) :
    Calls Tryd.prog 50 #[.pointer (some ⟨g, 0, none⟩), .int .i64 n] w fun e w' => ∃ r : Int, e = .returned (.int .i64 r) ∧ 0 ≤ r ∧ (1 ≤ n → r < n) ∧ r ≤ 65535 ∧ CurS N (M + 2) w' g ∧ Below N w w' ∧ KB g w w' := by
  by_cases hn : n ≤ 1
  · go_enter Tryd.func50, Tryd.ntmps50
    go_wp2
    go_ret
    exact ⟨0, rfl, by omega, fun _ => by omega, by omega, curS_more h (by omega), Below.refl _ _, Nat.le_refl _, fun _ _ _ => rfl⟩
  · have H1 := Lib.hid (next_s N M g w h (by omega))
    have H2 := Lib.hid (fun w1 h1 => next_s N (M + 1) g w1 h1 (by omega))
    have hn1 : decide (n ≤ 1) = false := decide_eq_false hn
    clear h
    by_cases h200 : 200 < n
    · go_enter Tryd.func50, Tryd.ntmps50
      go_wp2_with fail
      refine H1.out.mono ?_
      rintro e w1 ⟨b1, rfl, p0, p1, hc1, hb1, hk1⟩
      go_wp2_with fail
      refine (H2.out _ hc1).mono ?_
      rintro e w2 ⟨b2, rfl, q0, q1, hc2, hb2, hk2⟩
      have hm : (b1 * 256 + b2) % n < n := Int.emod_lt_of_pos _ (by omega)
      have hm0 : 0 ≤ (b1 * 256 + b2) % n := Int.emod_nonneg _ (by omega)
      have hm1 : (b1 * 256 + b2) % n ≤ b1 * 256 + b2 := emod_le' _ _ (by omega) (by omega)
      go_wp2
      go_ret
      exact ⟨_, rfl, by first | exact hm0 | go_num, fun _ => by first | exact hm | go_num, by omega, curS_more hc2 (by omega), hb1.trans hb2, hk1.trans hk2⟩
    · go_enter Tryd.func50, Tryd.ntmps50
      go_wp2_with fail
      refine H1.out.mono ?_
      rintro e w1 ⟨b1, rfl, p0, p1, hc1, hb1, hk1⟩
      have hm : b1 % n < n := Int.emod_lt_of_pos _ (by omega)
      have hm0 : 0 ≤ b1 % n := Int.emod_nonneg _ (by omega)
      have hm1 : b1 % n ≤ b1 := emod_le' _ _ (by omega) (by omega)
      go_wp2
      go_ret
      exact ⟨_, rfl, hm0, fun _ => hm, by omega, curS_more hc1 (by omega), hb1, hk1⟩

set_option maxHeartbeats 1000000 in
theorem one_s (N M g : Nat) (n : Int) (w : World) (h : CurS N M w g) (hM : M ≤ 900000) (n1 : n ≤ 1000000000) :
    Calls Tryd.prog 51 #[.pointer (some ⟨g, 0, none⟩), .int .i64 n] w fun e w' => ∃ r : Bool, e = .returned (.bool r) ∧ CurS N (M + 2) w' g ∧ Below N w w' ∧ KB g w w' := by
  have H1 := Lib.hid (pick_s N M g n w h hM n1)
  clear h
  go_enter Tryd.func51, Tryd.ntmps51
  go_wp2_with fail
  refine H1.out.mono ?_
  rintro e w1 ⟨r, rfl, p0, p1, p2, hc1, hb1, hk1⟩
  go_wp2
  go_ret
  exact ⟨_, rfl, hc1, hb1, hk1⟩

end Go.Proofs.YtegpbgdmehipnaaDoor
