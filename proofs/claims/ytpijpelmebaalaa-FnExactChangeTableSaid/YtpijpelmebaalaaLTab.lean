/-
  The law FnExactChangeTable returns true. No condition.
-/
import Derived.Test.YtpijpelmebaalaaTabC
import Derived.Deep.QuietTactic
import Derived.BigQuiet
import Derived.StillTailTactics
namespace Go.Proofs.Ytpijpelmebaalaa
open Go.RowKit
set_option linter.unusedVariables false


theorem ownT_pair2 (T : TypeId) (w : World) (cs : Array Value) (xs : List Int) (hx : xs.length ≤ maxLen) (h : cs.toList = xs.map (Value.int .i64)) :
    OwnT T w.heap.size ((w.alloc (.cells cs T)).alloc (.cells cs T)) w.heap.size xs ∧ OwnT T w.heap.size ((w.alloc (.cells cs T)).alloc (.cells cs T)) (w.heap.size + 1) xs ∧ Below w.heap.size w ((w.alloc (.cells cs T)).alloc (.cells cs T)) := ownT_two T w cs xs hx h

set_option maxHeartbeats 1000000 in
theorem eqIntA10_any (C : Array Value) (xs : List Int) (w : World) (hx : xs.length = 10) (hC : C.toList = xs.map (Value.int .i64)) :
    Calls Try.prog 70 #[.agg C, .agg C] w fun e w' => e = .returned (.bool true) ∧ Below w.heap.size w w' := by
  obtain ⟨hO0, hO1, hBW⟩ := ownT_two 40 w C xs (by rw [hx]; decide) hC
  have H0 := Lib.hid hO0
  have H1 := Lib.hid hO1
  have HBW := Lib.hid hBW
  have HX := Lib.hid hx
  clear hO0 hO1 hBW hx hC
  go_enter Try.func70, Try.ntmps70
  go_wp2
  generalize (w.alloc (.cells C 40)).alloc (.cells C 40) = W0 at H0 H1 HBW ⊢
  have hg0 := (ownT_lt H0.out).2
  have hg1 := (ownT_lt H1.out).2
  have HX0 := Lib.hid (fun j (h : j < 10) => ownT_cell H0.out j (by rw [HX.out]; exact h))
  have HX1 := Lib.hid (fun j (h : j < 10) => ownT_cell H1.out j (by rw [HX.out]; exact h))
  go_loopw [5] (fun iv wr => ∃ i : Nat, i ≤ 10 ∧ iv = .int .i64 i ∧ Below W0.heap.size W0 wr) (fun iv _ => 10 - (intOf iv).toNat)
  case atStart => exact ⟨0, by omega, rfl, Below.refl _ _⟩
  case round =>
    obtain ⟨i, hi, rfl, hb⟩ := hrel
    have HB := Lib.hid hb
    by_cases hlt : i < 10
    · have hcx : wr.cell? ⟨w.heap.size, i, none⟩ = some (.int .i64 (xs.getD i 0)) := by rw [hb.cell (p := ⟨w.heap.size, i, none⟩) hg0]; exact HX0.out i hlt
      have hcy : wr.cell? ⟨w.heap.size + 1, i, none⟩ = some (.int .i64 (xs.getD i 0)) := by rw [hb.cell (p := ⟨w.heap.size + 1, i, none⟩) hg1]; exact HX1.out i hlt
      generalize xs.getD i 0 = x at hcx hcy
      have hi0 : (i : Int) < 10 := by omega
      have hb1 : (x != x) = false := by simp
      clear hb
      go_wp2
      go_quiet (fail)
      go_wp2
      go_roundw
      case rel => exact ⟨i + 1, by omega, by go_num, bt HB.out (below_drewN _ _)⟩
      case measure => simp [intOf]; omega
    · obtain rfl : i = 10 := by omega
      clear hb
      go_wp2
      go_ret
      exact ⟨rfl, bt HBW.out HB.out⟩

set_option maxHeartbeats 2000000 in
theorem eqIntA10A10_any (w : World) :
    Calls Try.prog 35 #[.agg tabC, .agg tabC] w fun e w' => e = .returned (.bool true) ∧ Below w.heap.size w w' := by
  obtain ⟨hO0, hO1, hBW⟩ := ownT_two 41 w tabC (tabL 100) (by rw [tabL_len]; decide) (by simp [tabC])
  have H0 := Lib.hid hO0
  have H1 := Lib.hid hO1
  have HBW := Lib.hid hBW
  clear hO0 hO1 hBW
  go_enter Try.func35, Try.ntmps35
  go_wp2
  generalize (w.alloc (.cells tabC 41)).alloc (.cells tabC 41) = W0 at H0 H1 HBW ⊢
  have hg0 := (ownT_lt H0.out).2
  have hg1 := (ownT_lt H1.out).2
  go_loopw [5] (fun iv wr => ∃ i : Nat, i ≤ 10 ∧ iv = .int .i64 i ∧ Below W0.heap.size W0 wr) (fun iv _ => 10 - (intOf iv).toNat)
  case atStart => exact ⟨0, by omega, rfl, Below.refl _ _⟩
  case round =>
    obtain ⟨i, hi, rfl, hb⟩ := hrel
    have HB := Lib.hid hb
    by_cases hlt : i < 10
    · have hA : ∀ j, j < 10 → wr.cell? ⟨w.heap.size, i * 10 + j, none⟩ = some (.int .i64 ((tabL 100).getD (i * 10 + j) 0)) := fun j hj => by rw [hb.cell (p := ⟨w.heap.size, i * 10 + j, none⟩) hg0]; exact ownT_cell H0.out (i * 10 + j) (by rw [tabL_len]; omega)
      have hB' : ∀ j, j < 10 → wr.cell? ⟨w.heap.size + 1, i * 10 + j, none⟩ = some (.int .i64 ((tabL 100).getD (i * 10 + j) 0)) := fun j hj => by rw [hb.cell (p := ⟨w.heap.size + 1, i * 10 + j, none⟩) hg1]; exact ownT_cell H1.out (i * 10 + j) (by rw [tabL_len]; omega)
      obtain ⟨v0, hv0⟩ : ∃ v, (tabL 100).getD (i * 10 + 0) 0 = v := ⟨_, rfl⟩
      obtain ⟨v1, hv1⟩ : ∃ v, (tabL 100).getD (i * 10 + 1) 0 = v := ⟨_, rfl⟩
      obtain ⟨v2, hv2⟩ : ∃ v, (tabL 100).getD (i * 10 + 2) 0 = v := ⟨_, rfl⟩
      obtain ⟨v3, hv3⟩ : ∃ v, (tabL 100).getD (i * 10 + 3) 0 = v := ⟨_, rfl⟩
      obtain ⟨v4, hv4⟩ : ∃ v, (tabL 100).getD (i * 10 + 4) 0 = v := ⟨_, rfl⟩
      obtain ⟨v5, hv5⟩ : ∃ v, (tabL 100).getD (i * 10 + 5) 0 = v := ⟨_, rfl⟩
      obtain ⟨v6, hv6⟩ : ∃ v, (tabL 100).getD (i * 10 + 6) 0 = v := ⟨_, rfl⟩
      obtain ⟨v7, hv7⟩ : ∃ v, (tabL 100).getD (i * 10 + 7) 0 = v := ⟨_, rfl⟩
      obtain ⟨v8, hv8⟩ : ∃ v, (tabL 100).getD (i * 10 + 8) 0 = v := ⟨_, rfl⟩
      obtain ⟨v9, hv9⟩ : ∃ v, (tabL 100).getD (i * 10 + 9) 0 = v := ⟨_, rfl⟩
      have hx0 : wr.cell? ⟨w.heap.size, i * 10, none⟩ = some (.int .i64 v0) := by rw [← hv0]; exact hA 0 (by omega)
      have hy0 : wr.cell? ⟨w.heap.size + 1, i * 10, none⟩ = some (.int .i64 v0) := by rw [← hv0]; exact hB' 0 (by omega)
      have hx1 : wr.cell? ⟨w.heap.size, i * 10 + 1, none⟩ = some (.int .i64 v1) := by rw [← hv1]; exact hA 1 (by omega)
      have hy1 : wr.cell? ⟨w.heap.size + 1, i * 10 + 1, none⟩ = some (.int .i64 v1) := by rw [← hv1]; exact hB' 1 (by omega)
      have hx2 : wr.cell? ⟨w.heap.size, i * 10 + 2, none⟩ = some (.int .i64 v2) := by rw [← hv2]; exact hA 2 (by omega)
      have hy2 : wr.cell? ⟨w.heap.size + 1, i * 10 + 2, none⟩ = some (.int .i64 v2) := by rw [← hv2]; exact hB' 2 (by omega)
      have hx3 : wr.cell? ⟨w.heap.size, i * 10 + 3, none⟩ = some (.int .i64 v3) := by rw [← hv3]; exact hA 3 (by omega)
      have hy3 : wr.cell? ⟨w.heap.size + 1, i * 10 + 3, none⟩ = some (.int .i64 v3) := by rw [← hv3]; exact hB' 3 (by omega)
      have hx4 : wr.cell? ⟨w.heap.size, i * 10 + 4, none⟩ = some (.int .i64 v4) := by rw [← hv4]; exact hA 4 (by omega)
      have hy4 : wr.cell? ⟨w.heap.size + 1, i * 10 + 4, none⟩ = some (.int .i64 v4) := by rw [← hv4]; exact hB' 4 (by omega)
      have hx5 : wr.cell? ⟨w.heap.size, i * 10 + 5, none⟩ = some (.int .i64 v5) := by rw [← hv5]; exact hA 5 (by omega)
      have hy5 : wr.cell? ⟨w.heap.size + 1, i * 10 + 5, none⟩ = some (.int .i64 v5) := by rw [← hv5]; exact hB' 5 (by omega)
      have hx6 : wr.cell? ⟨w.heap.size, i * 10 + 6, none⟩ = some (.int .i64 v6) := by rw [← hv6]; exact hA 6 (by omega)
      have hy6 : wr.cell? ⟨w.heap.size + 1, i * 10 + 6, none⟩ = some (.int .i64 v6) := by rw [← hv6]; exact hB' 6 (by omega)
      have hx7 : wr.cell? ⟨w.heap.size, i * 10 + 7, none⟩ = some (.int .i64 v7) := by rw [← hv7]; exact hA 7 (by omega)
      have hy7 : wr.cell? ⟨w.heap.size + 1, i * 10 + 7, none⟩ = some (.int .i64 v7) := by rw [← hv7]; exact hB' 7 (by omega)
      have hx8 : wr.cell? ⟨w.heap.size, i * 10 + 8, none⟩ = some (.int .i64 v8) := by rw [← hv8]; exact hA 8 (by omega)
      have hy8 : wr.cell? ⟨w.heap.size + 1, i * 10 + 8, none⟩ = some (.int .i64 v8) := by rw [← hv8]; exact hB' 8 (by omega)
      have hx9 : wr.cell? ⟨w.heap.size, i * 10 + 9, none⟩ = some (.int .i64 v9) := by rw [← hv9]; exact hA 9 (by omega)
      have hy9 : wr.cell? ⟨w.heap.size + 1, i * 10 + 9, none⟩ = some (.int .i64 v9) := by rw [← hv9]; exact hB' 9 (by omega)
      clear hv0 hv1 hv2 hv3 hv4 hv5 hv6 hv7 hv8 hv9 hA hB' hb
      have HE := Lib.hid (fun w => eqIntA10_any #[.int .i64 v0, .int .i64 v1, .int .i64 v2, .int .i64 v3, .int .i64 v4, .int .i64 v5, .int .i64 v6, .int .i64 v7, .int .i64 v8, .int .i64 v9] [v0, v1, v2, v3, v4, v5, v6, v7, v8, v9] w rfl rfl)
      have hi0 : (i : Int) < 10 := by omega
      go_wp2
      go_still_tail 6, (by kernel_rfl)
      change wpList _ _ _ _ _ wr.drew
      go_wp2_with ((go_at_call 70; refine (HE.out _).mono ?_; rintro e w3 ⟨rfl, hb3⟩))
      go_roundw
      case rel => exact ⟨i + 1, by omega, by go_num, bt HB.out ((below_drew1 wr).trans hb3)⟩
      case measure => simp [intOf]; omega
    · obtain rfl : i = 10 := by omega
      clear hb
      go_wp2
      go_ret
      exact ⟨rfl, bt HBW.out HB.out⟩

theorem box41 (w : World) : (w.alloc (.cells Try.zeroCells41 41)).there w.heap.size 0 tabC.size ∧ ((w.alloc (.cells Try.zeroCells41 41)).setCells w.heap.size 0 tabC.toList).heap[w.heap.size]? = some (.cells tabC 41 (0, 0)) ∧ Below w.heap.size w ((w.alloc (.cells Try.zeroCells41 41)).setCells w.heap.size 0 tabC.toList) ∧ w.heap.size < ((w.alloc (.cells Try.zeroCells41 41)).setCells w.heap.size 0 tabC.toList).heap.size := by
  have hO : OwnT 41 w.heap.size (w.alloc (.cells Try.zeroCells41 41)) w.heap.size (tabL 0) := ownT_new w Try.zeroCells41 (tabL 0) (Nat.le_refl _) (by rw [tabL_len]; decide) (by rw [zero41])
  have hl0 : 0 + (tabL 100).length = (tabL 0).length := by rw [tabL_len, tabL_len]
  have hR := ownT_setCells (tabL 100) 0 _ (tabL 0) hl0 hO
  rw [List.take_zero, List.nil_append] at hR
  have hCl : tabC.toList = (tabL 100).map (Value.int .i64) := by simp [tabC]
  rw [← hCl] at hR
  refine ⟨by rw [tabC_size]; exact ownT_there hO (tabL_len 0), ?_, below_setCellsN (Nat.le_refl _) _ _ _ ((Below.refl _ _).alloc (Nat.le_refl _) _), (ownT_lt hR).2⟩
  have := ownT_heap hR
  rw [this]
  rfl

set_option maxRecDepth 100000 in
set_option maxHeartbeats 2000000 in
theorem walkFnExactChangeTable (w : World) :
    Calls Try.prog 9 #[] w fun e w' => e = .returned (.bool true) ∧ Below w.heap.size w w' := by
  have H1 := Lib.hid specTab_any
  have H2 := Lib.hid implTab_any
  have H3 := Lib.hid eqIntA10A10_any
  have hCs := tabC_size
  have h1 : tabC.all (·.oneCell') = true := ones_all _
  have HI : Hid ((Try.prog.info? 41).map (·.size) = some tabC.size) := by rw [hCs]; exact info41
  have HX := Lib.hid box41
  generalize tabC = C at H1 H2 H3 HI h1 HX
  have H1C := Lib.hid h1
  clear h1 hCs
  go_enter Try.func9, Try.ntmps9
  go_wp2_with fail
  refine (H1.out _).mono ?_
  rintro e w1 ⟨rfl, hb1⟩
  obtain ⟨b1, b2, b3, b4⟩ := HX.out w1
  have B1 := Lib.hid b1
  have B2 := Lib.hid b2
  have B3 := Lib.hid (bt hb1 b3)
  clear b1 b2 b3 hb1
  go_wp2_with ((refine wpList_store_mid rfl 41 _ _ rfl w1.heap.size 0 C rfl rfl B1.out HI.out H1C.out ?_))
  generalize (w1.alloc (.cells Try.zeroCells41 41)).setCells w1.heap.size 0 C.toList = W1 at B2 B3 b4 ⊢
  refine (H2.out _).mono ?_
  rintro e w2 ⟨rfl, hb2⟩
  obtain ⟨c1, c2, c3, c4⟩ := HX.out w2
  have hg : W1.heap.size ≤ w2.heap.size := hb2.size
  have D1 : Hid (((w2.alloc (.cells Try.zeroCells41 41)).setCells w2.heap.size 0 C.toList).heap[w1.heap.size]? = some (.cells C 41 (0, 0))) := by
    rw [c3.block w1.heap.size (by omega), hb2.block w1.heap.size b4]; exact B2.out
  have C1 := Lib.hid c1
  have C2 := Lib.hid c2
  have C3 := Lib.hid (bt (bt B3.out hb2) c3)
  clear c1 c2 c3 c4 hb2 hg
  go_wp2_with (first | (refine wpList_store_mid rfl 41 _ _ rfl w2.heap.size 0 C rfl rfl C1.out HI.out H1C.out ?_) | (refine wpList_load_row rfl 41 _ rfl w1.heap.size rfl 41 C (0, 0) _ D1.out Try.underlying41 rfl HI.out ?_) | (refine wpList_load_row rfl 41 _ rfl w2.heap.size rfl 41 C (0, 0) _ C2.out Try.underlying41 rfl HI.out ?_) | (go_at_call 35; refine (H3.out _).mono ?_; rintro e w3 ⟨rfl, hb3⟩))
  go_ret
  exact ⟨rfl, bt C3.out hb3⟩

end Go.Proofs.Ytpijpelmebaalaa
