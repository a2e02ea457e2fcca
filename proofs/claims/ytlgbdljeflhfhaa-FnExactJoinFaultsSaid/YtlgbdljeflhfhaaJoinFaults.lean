/-
  The law FnExactJoinFaults returns true, whatever the faults. No condition.
-/
import Derived.Test.YtlgbdljeflhfhaaJoin
import Derived.Deep.RegionWith
import Derived.Deep.DeepMust
import Derived.Deep.RegionHeld3
import Derived.Deep.DrawnRows
import Derived.Deep.DeepCutAuto
namespace Go.Proofs.Ytlgbdljeflhfhaa
open Go.RowKit
set_option linter.unusedVariables false


theorem toFault_ex (a b : Int) (w : World) :
    Calls Try.prog 34 #[.agg #[.int .i64 a, .int .i64 b]] w fun e w' => e = .returned (.agg #[.int .i64 a, .int .i64 b]) ∧ ((w.alloc (.cells #[.int .i64 a, .int .i64 b] 32)).alloc (.cells #[.int .i64 a, .int .i64 b] 34)).alloc (.cells #[.int .i64 a, .int .i64 b] 34) = w' := by
  go_enter Try.func34, Try.ntmps34
  go_wp2
  refine bodyPost_ret (v := .agg #[.int .i64 a, .int .i64 b]) (by simp [results, Try.results34, go_sem]) rfl ⟨rfl, rfl⟩

theorem eqFault_any (a b : Int) (w : World) :
    Calls Try.prog 38 #[.agg #[.int .i64 a, .int .i64 b], .agg #[.int .i64 a, .int .i64 b]] w fun e w' => e = .returned (.bool true) ∧ Below w.heap.size w w' := by
  go_enter Try.func38, Try.ntmps38
  go_wp2
  go_ret
  exact ⟨rfl, by go_grown⟩


attribute [local go_sem ↓] Go.wp_at_zero Go.wp_at_succ
theorem below_drew1 (w : World) : Below w.heap.size w w.drew := ⟨rfl, rfl, rfl, Nat.le_refl _, fun _ _ => rfl⟩
theorem initF (w : World) (A B C D : Value) (t t' : TypeId) : ((w.alloc (.cells #[A, B] t)).alloc (.cells #[C, D] t')).cell? ⟨w.heap.size, 0, none⟩ = some A ∧ ((w.alloc (.cells #[A, B] t)).alloc (.cells #[C, D] t')).cell? ⟨w.heap.size, 1, none⟩ = some B ∧ ((w.alloc (.cells #[A, B] t)).alloc (.cells #[C, D] t')).cell? ⟨w.heap.size + 1, 0, none⟩ = some C ∧ ((w.alloc (.cells #[A, B] t)).alloc (.cells #[C, D] t')).cell? ⟨w.heap.size + 1, 1, none⟩ = some D ∧ w.heap.size + 2 ≤ ((w.alloc (.cells #[A, B] t)).alloc (.cells #[C, D] t')).heap.size ∧ Below w.heap.size w ((w.alloc (.cells #[A, B] t)).alloc (.cells #[C, D] t')) := by
  have e1 : (w.alloc (.cells #[A, B] t)).heap.size = w.heap.size + 1 := by simp
  have n1 : w.heap.size < (w.alloc (.cells #[A, B] t)).heap.size := by omega
  refine ⟨?_, ?_, ?_, ?_, by simp, by go_grown⟩
  · rw [World.cell?_alloc_past _ _ _ n1, World.cell?_alloc_at _ _ _ _ rfl]; rfl
  · rw [World.cell?_alloc_past _ _ _ n1, World.cell?_alloc_at _ _ _ _ rfl]; rfl
  · rw [World.cell?_alloc_at _ _ _ _ e1.symm]; rfl
  · rw [World.cell?_alloc_at _ _ _ _ e1.symm]; rfl
/-- The four cells of two boxes, and that of what lay below N nothing has turned. -/
theorem mkS {p q N : Nat} {w0 W : World} {A B C D : Value} (hp : p < N) (hq : q < N) (h : w0.cell? ⟨p, 0, none⟩ = some A ∧ w0.cell? ⟨p, 1, none⟩ = some B ∧ w0.cell? ⟨q, 0, none⟩ = some C ∧ w0.cell? ⟨q, 1, none⟩ = some D ∧ N ≤ w0.heap.size ∧ Below N w0 w0) (hz : N ≤ W.heap.size) (hb : Below N w0 W) : W.cell? ⟨p, 0, none⟩ = some A ∧ W.cell? ⟨p, 1, none⟩ = some B ∧ W.cell? ⟨q, 0, none⟩ = some C ∧ W.cell? ⟨q, 1, none⟩ = some D ∧ N ≤ W.heap.size ∧ Below N w0 W := by
  obtain ⟨h1, h2, h3, h4, h5, h6⟩ := h
  refine ⟨?_, ?_, ?_, ?_, hz, hb⟩
  · rw [hb.cell (p := ⟨p, 0, none⟩) hp]; exact h1
  · rw [hb.cell (p := ⟨p, 1, none⟩) hp]; exact h2
  · rw [hb.cell (p := ⟨q, 0, none⟩) hq]; exact h3
  · rw [hb.cell (p := ⟨q, 1, none⟩) hq]; exact h4
theorem set2 {N k : Nat} {w0 W : World} {u v : Value} (hb : Below N w0 W) (hk : N ≤ k) : Below N w0 ((W.setCell ⟨k, 0, none⟩ u).setCell ⟨k, 1, none⟩ v) :=
  Below.setCell (Below.setCell hb (show N ≤ (⟨k, 0, none⟩ : Addr).block from hk) u) (show N ≤ (⟨k, 1, none⟩ : Addr).block from hk) v
theorem set2c {k : Nat} {W : World} {u v x y : Value} (h0 : W.cell? ⟨k, 0, none⟩ = some x) (h1 : W.cell? ⟨k, 1, none⟩ = some y) : ((W.setCell ⟨k, 0, none⟩ u).setCell ⟨k, 1, none⟩ v).cell? ⟨k, 0, none⟩ = some u ∧ ((W.setCell ⟨k, 0, none⟩ u).setCell ⟨k, 1, none⟩ v).cell? ⟨k, 1, none⟩ = some v := by
  constructor <;> simp [go_sem, h0, h1]
theorem below_drewx {N : Nat} {w0 W : World} (hz : N ≤ W.heap.size) (h : Below N w0 W) : Below N w0 W.drew := h.trans ((below_drew1 W).mono hz)
theorem belowT {N : Nat} {w0 W W1 : World} (h : N ≤ W.heap.size ∧ Below N w0 W) (hb : Below W.heap.size W W1) : Below N w0 W1 := h.2.trans (hb.mono h.1)

set_option maxHeartbeats 8000000 in
theorem walkFnExactJoinFaults (a b c d : Int) (w : World) (wa : (Lit.int .i64 a).wf = true) (wb : (Lit.int .i64 b).wf = true) (wc : (Lit.int .i64 c).wf = true) (wd : (Lit.int .i64 d).wf = true) :
    Calls Try.prog 13 #[.agg #[.int .i64 a, .int .i64 b], .agg #[.int .i64 c, .int .i64 d]] w fun e w' => e = .returned (.bool true) ∧ Below w.heap.size w w' := by
  have H1 := Lib.hid (specJoin_any a b c d)
  have H2 := Lib.hid (implJoin_any a b c d)
  generalize (jf a b c d).1 = r1 at H1 H2
  generalize (jf a b c d).2.1 = r2 at H1 H2
  generalize (jf a b c d).2.2 = r3 at H1 H2
  go_enter Try.func13, Try.ntmps13
  go_wp2_with fail
  have S0 := initF w (.int .i64 a) (.int .i64 b) (.int .i64 c) (.int .i64 d) 32 32
  generalize (w.alloc (.cells #[.int .i64 a, .int .i64 b] 32)).alloc (.cells #[.int .i64 c, .int .i64 d] 32) = W0 at S0 ⊢
  have hz0 : w.heap.size + 2 ≤ W0.heap.size := S0.2.2.2.2.1
  have hBW : Below w.heap.size w W0 := S0.2.2.2.2.2
  have HS0 : Hid (W0.cell? ⟨w.heap.size, 0, none⟩ = some (.int .i64 a) ∧ W0.cell? ⟨w.heap.size, 1, none⟩ = some (.int .i64 b) ∧ W0.cell? ⟨(w.heap.size + 1), 0, none⟩ = some (.int .i64 c) ∧ W0.cell? ⟨(w.heap.size + 1), 1, none⟩ = some (.int .i64 d) ∧ W0.heap.size ≤ W0.heap.size ∧ Below W0.heap.size W0 W0) := ⟨S0.1, S0.2.1, S0.2.2.1, S0.2.2.2.1, Nat.le_refl _, Below.refl _ _⟩
  have hp : w.heap.size < W0.heap.size := by omega
  have hq : w.heap.size + 1 < W0.heap.size := by omega
  have HBW := Lib.hid hBW
  clear S0 hBW
  go_cut [5, 6] (fun s5 s6 wx => ∃ g : Nat, s5 = .pointer (some ⟨g, 0, none⟩) ∧ s6 = .bool r3 ∧ wx.cell? ⟨g, 0, none⟩ = some (.int .i64 r1) ∧ wx.cell? ⟨g, 1, none⟩ = some (.int .i64 r2) ∧ W0.heap.size ≤ g ∧ g < wx.heap.size ∧ Below W0.heap.size W0 wx)
  case first =>
    go_region_held3 (fun w' => w'.cell? ⟨w.heap.size, 0, none⟩ = some (.int .i64 a) ∧ w'.cell? ⟨w.heap.size, 1, none⟩ = some (.int .i64 b) ∧ w'.cell? ⟨(w.heap.size + 1), 0, none⟩ = some (.int .i64 c) ∧ w'.cell? ⟨(w.heap.size + 1), 1, none⟩ = some (.int .i64 d) ∧ W0.heap.size ≤ w'.heap.size ∧ Below W0.heap.size W0 w') (first | exact HS0.out | exact mkS hp hq HS0.out hz1 hB1 | exact mkS hp hq HS0.out (Nat.le_refl _) (below_drew1 _) | exact mkS hp hq HS0.out (by simp; omega) (hB1.alloc hz1 _) | exact mkS hp hq HS0.out (by simpa using hz1) (set2 hB1 (by first | assumption | exact Nat.le_refl _ | omega)) | exact mkS hp hq HS0.out (by simp) (below_drewx (by simp) ((Below.refl _ _).alloc (Nat.le_refl _) _))) (first | (go_at_call 34; refine (toFault_any _ _ _).mono ?_; rintro e w1 ⟨rfl, hb1⟩; have hz1 : W0.heap.size ≤ w1.heap.size := (by have hsz := hb1.size; (try simp at hsz); omega); have hB1 : Below W0.heap.size W0 w1 := belowT (by constructor <;> first | assumption | exact below_drew1 _ | exact Nat.le_refl _ | (simp only [*]; done) | (simp; omega)) hb1; have hcx := (bcell hb1).1; have hfx := (bcell hb1).2; have hlx : ∀ n, n < _ → n < w1.heap.size := (fun n h => Nat.lt_of_lt_of_le h hb1.size); try (have hlq : W0.heap.size < w1.heap.size := (by have hsz := hb1.size; (try simp at hsz); omega))) | (go_at_call 36; refine (H1.out _).mono ?_; rintro e w1 ⟨rfl, hb1⟩; have hz1 : W0.heap.size ≤ w1.heap.size := (by have hsz := hb1.size; (try simp at hsz); omega); have hB1 : Below W0.heap.size W0 w1 := belowT (by constructor <;> first | assumption | exact below_drew1 _ | exact Nat.le_refl _ | (simp only [*]; done) | (simp; omega)) hb1; have hcx := (bcell hb1).1; have hfx := (bcell hb1).2; have hlx : ∀ n, n < _ → n < w1.heap.size := (fun n h => Nat.lt_of_lt_of_le h hb1.size); try (have hlq : W0.heap.size < w1.heap.size := (by have hsz := hb1.size; (try simp at hsz); omega))))
    all_goals (go_wp2_with fail; go_meet)
    all_goals first | exact ⟨_, rfl, rfl, by simp, by simp, hz1, by simp, hB1.alloc hz1 _⟩ | exact ⟨_, rfl, rfl, (set2c (x := .int .i64 0) (y := .int .i64 0) (by simp [*]) (by simp [*])).1, (set2c (x := .int .i64 0) (y := .int .i64 0) (by simp [*]) (by simp [*])).2, by first | assumption | exact Nat.le_refl _ | omega, by simp [*], set2 hB1 (by first | assumption | exact Nat.le_refl _ | omega)⟩
  case rest =>
    obtain ⟨g, rfl, rfl, hg0, hg1, hgN, hgl, hbx⟩ := hcut
    have hzx : W0.heap.size ≤ wc.heap.size := hbx.size
    have HS1 : Hid (wc.cell? ⟨w.heap.size, 0, none⟩ = some (.int .i64 a) ∧ wc.cell? ⟨w.heap.size, 1, none⟩ = some (.int .i64 b) ∧ wc.cell? ⟨(w.heap.size + 1), 0, none⟩ = some (.int .i64 c) ∧ wc.cell? ⟨(w.heap.size + 1), 1, none⟩ = some (.int .i64 d) ∧ wc.heap.size ≤ wc.heap.size ∧ Below wc.heap.size wc wc) := (let t := mkS hp hq HS0.out hzx hbx; ⟨t.1, t.2.1, t.2.2.1, t.2.2.2.1, Nat.le_refl _, Below.refl _ _⟩)
    have hp1 : w.heap.size < wc.heap.size := by omega
    have hq1 : w.heap.size + 1 < wc.heap.size := by omega
    have HBC := Lib.hid (HBW.out.trans (hbx.mono (by omega)))
    have HG0 := Lib.hid hg0
    have HG1 := Lib.hid hg1
    clear HS0 hbx hp hq hg0 hg1 hgN HBW hzx hz0
    go_wp2_with fail
    go_cut [7, 8] (fun s7 s8 wx => ∃ k : Nat, s7 = .pointer (some ⟨k, 0, none⟩) ∧ s8 = .bool r3 ∧ wx.cell? ⟨k, 0, none⟩ = some (.int .i64 r1) ∧ wx.cell? ⟨k, 1, none⟩ = some (.int .i64 r2) ∧ wc.heap.size ≤ k ∧ k < wx.heap.size ∧ Below wc.heap.size wc wx)
    case first =>
      go_region_held3 (fun w' => w'.cell? ⟨w.heap.size, 0, none⟩ = some (.int .i64 a) ∧ w'.cell? ⟨w.heap.size, 1, none⟩ = some (.int .i64 b) ∧ w'.cell? ⟨(w.heap.size + 1), 0, none⟩ = some (.int .i64 c) ∧ w'.cell? ⟨(w.heap.size + 1), 1, none⟩ = some (.int .i64 d) ∧ wc.heap.size ≤ w'.heap.size ∧ Below wc.heap.size wc w') (first | exact HS1.out | exact mkS hp1 hq1 HS1.out hz1 hB1 | exact mkS hp1 hq1 HS1.out (Nat.le_refl _) (below_drew1 _) | exact mkS hp1 hq1 HS1.out (by simp; omega) (hB1.alloc hz1 _) | exact mkS hp1 hq1 HS1.out (by simpa using hz1) (set2 hB1 (by first | assumption | exact Nat.le_refl _ | omega)) | exact mkS hp1 hq1 HS1.out (by simp) (below_drewx (by simp) ((Below.refl _ _).alloc (Nat.le_refl _) _))) (first | (go_at_call 34; refine (toFault_any _ _ _).mono ?_; rintro e w1 ⟨rfl, hb1⟩; have hz1 : wc.heap.size ≤ w1.heap.size := (by have hsz := hb1.size; (try simp at hsz); omega); have hB1 : Below wc.heap.size wc w1 := belowT (by constructor <;> first | assumption | exact below_drew1 _ | exact Nat.le_refl _ | (simp only [*]; done) | (simp; omega)) hb1; have hcx := (bcell hb1).1; have hfx := (bcell hb1).2; have hlx : ∀ n, n < _ → n < w1.heap.size := (fun n h => Nat.lt_of_lt_of_le h hb1.size); try (have hlq : wc.heap.size < w1.heap.size := (by have hsz := hb1.size; (try simp at hsz); omega))) | (go_at_call 37; refine (H2.out _).mono ?_; rintro e w1 ⟨rfl, hb1⟩; have hz1 : wc.heap.size ≤ w1.heap.size := (by have hsz := hb1.size; (try simp at hsz); omega); have hB1 : Below wc.heap.size wc w1 := belowT (by constructor <;> first | assumption | exact below_drew1 _ | exact Nat.le_refl _ | (simp only [*]; done) | (simp; omega)) hb1; have hcx := (bcell hb1).1; have hfx := (bcell hb1).2; have hlx : ∀ n, n < _ → n < w1.heap.size := (fun n h => Nat.lt_of_lt_of_le h hb1.size); try (have hlq : wc.heap.size < w1.heap.size := (by have hsz := hb1.size; (try simp at hsz); omega))))
      all_goals (go_wp2_with fail; go_meet)
      all_goals first | exact ⟨_, rfl, rfl, by simp, by simp, hz1, by simp, hB1.alloc hz1 _⟩ | exact ⟨_, rfl, rfl, (set2c (x := .int .i64 0) (y := .int .i64 0) (by simp [*]) (by simp [*])).1, (set2c (x := .int .i64 0) (y := .int .i64 0) (by simp [*]) (by simp [*])).2, by first | assumption | exact Nat.le_refl _ | omega, by simp [*], set2 hB1 (by first | assumption | exact Nat.le_refl _ | omega)⟩
    case rest =>
      obtain ⟨k, rfl, rfl, hk0, hk1, hkN, hkl, hbk⟩ := hcut
      have hg0' := (hbk.cell (p := ⟨g, 0, none⟩) hgl).trans HG0.out
      have hg1' := (hbk.cell (p := ⟨g, 1, none⟩) hgl).trans HG1.out
      have HBB := Lib.hid (bt HBC.out hbk)
      clear hbk
      go_wp2_with ((go_at_call 38; refine (eqFault_any r1 r2 _).mono ?_; rintro e w9 ⟨rfl, hb9⟩))
      go_ret
      exact ⟨rfl, bt HBB.out hb9⟩

end Go.Proofs.Ytlgbdljeflhfhaa
