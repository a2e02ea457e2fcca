/-
  Contracts: the table of changes (the reference and the program). No condition.
-/
import Derived.Test.YtfdhmijofpbkjaaCtrD
import Derived.Test.YtfdhmijofpbkjaaTab
import Derived.Deep.RegionWith
namespace Go.Proofs.Ytfdhmijofpbkjaa
open Go.RowKit
set_option linter.unusedVariables false


theorem l4Digits_any (a b : Nat) (w : World) (ha : a < 10) (hb : b < 10) :
    Calls Try.prog 21 #[.int .i64 (a : Int), .int .i64 (b : Int)] w fun e w' => e = .returned (.int .i64 (farT a b : Nat)) ∧ Below w.heap.size w w' := by
  have HA := Lib.hid (fun w => l2Digit_any a w ha)
  have HB := Lib.hid (fun w => l2Digit_any b w hb)
  obtain ⟨e1, l1⟩ := dgN_is a ha
  obtain ⟨e2, l2⟩ := dgN_is b hb
  rw [e1] at HA
  rw [e2] at HB
  have HF := Lib.hid (fun w => l2Far_any (dgN a) (dgN b) w l1 l2)
  have HT : Hid (farT a b = cnt (dgN a ^^^ dgN b) 7) := rfl
  generalize dgN a = x at HA HF HT
  generalize dgN b = y at HB HF HT
  clear e1 e2 l1 l2
  go_enter Try.func21, Try.ntmps21
  go_wp2_with fail
  refine (HA.out _).mono ?_
  rintro e w1 ⟨rfl, hb1⟩
  go_wp2_with fail
  refine (HB.out _).mono ?_
  rintro e w2 ⟨rfl, hb2⟩
  go_wp2_with fail
  refine (HF.out _).mono ?_
  rintro e w3 ⟨rfl, rfl⟩
  go_wp2
  go_ret
  exact ⟨by rw [HT.out]; rfl, bt hb1 hb2⟩

theorem zero41 : Try.zeroCells44 = ((tabL 0).map (Value.int .i64)).toArray := by kernel_rfl
theorem info41 : (Try.prog.info? 44).map (·.size) = some 100 := by kernel_rfl

set_option maxRecDepth 100000 in
set_option maxHeartbeats 2000000 in
theorem implTab_any (w : World) :
    Calls Try.prog 25 #[] w fun e w' => e = .returned (.agg tabC) ∧ Below w.heap.size w w' := by
  have HT : Hid (tabC = ((tabL 100).map (Value.int .i64)).toArray) := rfl
  obtain ⟨C, hC⟩ : ∃ C, tabC = C := ⟨_, rfl⟩
  rw [hC] at HT ⊢
  clear hC
  go_enter Try.func25, Try.ntmps25
  go_wp2_with fail
  have hz : Try.zeroCells44.toList = (tabL 0).map (Value.int .i64) := by rw [zero41]
  obtain ⟨hO0, hO1, hBW⟩ := ownT_two 44 w Try.zeroCells44 (tabL 0) (by rw [tabL_len]; decide) hz
  clear hz
  generalize ((w.alloc (.cells Try.zeroCells44 44)).alloc (.cells Try.zeroCells44 44)) = Wa at hO0 hO1 hBW ⊢
  refine (digitCells_any _).mono ?_
  rintro e w1 ⟨rfl, hb1⟩
  have hO1a := hO1
  have hO0 := ownT_keep (ownT_keep hO0 hb1) ((Below.refl _ _).alloc (Nat.le_refl _) (.cells #[.int .i64 63, .int .i64 6, .int .i64 91, .int .i64 79, .int .i64 102, .int .i64 109, .int .i64 125, .int .i64 7, .int .i64 127, .int .i64 111] 38))
  have hO1 := ownT_keep (ownT_keep hO1 hb1) ((Below.refl _ _).alloc (Nat.le_refl _) (.cells #[.int .i64 63, .int .i64 6, .int .i64 91, .int .i64 79, .int .i64 102, .int .i64 109, .int .i64 125, .int .i64 7, .int .i64 127, .int .i64 111] 38))
  have hBW := bt (bt hBW hb1) ((Below.refl _ _).alloc (Nat.le_refl _) (.cells #[.int .i64 63, .int .i64 6, .int .i64 91, .int .i64 79, .int .i64 102, .int .i64 109, .int .i64 125, .int .i64 7, .int .i64 127, .int .i64 111] 38))
  have H0 := Lib.hid hO0
  have H1 := Lib.hid hO1
  have HBW := Lib.hid hBW
  have HG1 : Hid (w.heap.size + 1 < w1.heap.size) := Nat.lt_of_lt_of_le (ownT_lt hO1a).2 hb1.size
  clear hO0 hO1 hBW hb1 hO1a
  go_wp2
  have hown : (w1.alloc (.cells #[.int .i64 63, .int .i64 6, .int .i64 91, .int .i64 79, .int .i64 102, .int .i64 109, .int .i64 125, .int .i64 7, .int .i64 127, .int .i64 111] 38)).heap[w1.heap.size]? = some (.cells #[.int .i64 63, .int .i64 6, .int .i64 91, .int .i64 79, .int .i64 102, .int .i64 109, .int .i64 125, .int .i64 7, .int .i64 127, .int .i64 111] 38 (0, 0)) := heap_alloc_new w1 _
  have hgn : w1.heap.size ≠ w.heap.size + 1 := by have := HG1.out; omega
  generalize w1.alloc (.cells #[.int .i64 63, .int .i64 6, .int .i64 91, .int .i64 79, .int .i64 102, .int .i64 109, .int .i64 125, .int .i64 7, .int .i64 127, .int .i64 111] 38) = W0 at H0 H1 HBW hown ⊢
  generalize w1.heap.size = g at hown hgn ⊢
  have HOWN := Lib.hid hown
  have HGN := Lib.hid hgn
  clear hown hgn HG1
  go_loopw [9] (fun av wr => ∃ a : Nat, a ≤ 10 ∧ av = .int .i64 a ∧ OwnT 44 w.heap.size wr (w.heap.size + 1) (tabL (a * 10)) ∧ Below (w.heap.size + 1) W0 wr ∧ wr.heap[g]? = some (.cells #[.int .i64 63, .int .i64 6, .int .i64 91, .int .i64 79, .int .i64 102, .int .i64 109, .int .i64 125, .int .i64 7, .int .i64 127, .int .i64 111] 38 (0, 0))) (fun av _ => 10 - (intOf av).toNat)
  case atStart => exact ⟨0, by omega, rfl, H1.out, Below.refl _ _, HOWN.out⟩
  case round =>
    obtain ⟨a, ha, rfl, ho, hb, hgg⟩ := hrel
    have HGG := Lib.hid hgg
    clear hgg
    have HO := Lib.hid ho
    have HB := Lib.hid hb
    clear ho hb
    by_cases hlt : a < 10
    · have hixa := dig_at a hlt
      obtain ⟨e1, l1⟩ := dgN_is a hlt
      rw [e1] at hixa
      obtain ⟨ca, hca⟩ : ∃ c, dgN a = c := ⟨_, rfl⟩
      rw [hca] at hixa l1
      have HCA := Lib.hid hca
      clear e1 hca
      have hd10 : decide ((a : Int) < 10) = true := decide_eq_true (by omega)
      go_wp2_with ((refine wpList_load_row rfl 38 _ rfl g rfl 38 #[.int .i64 63, .int .i64 6, .int .i64 91, .int .i64 79, .int .i64 102, .int .i64 109, .int .i64 125, .int .i64 7, .int .i64 127, .int .i64 111] (0, 0) _ HGG.out Try.underlying38 rfl (by kernel_rfl) ?_))
      obtain ⟨wo, rfl⟩ : ∃ wo : World, wo = wr := ⟨_, rfl⟩
      go_loopw [14] (fun bv wr => ∃ b : Nat, b ≤ 10 ∧ bv = .int .i64 b ∧ OwnT 44 w.heap.size wr (w.heap.size + 1) (tabL (a * 10 + b)) ∧ Below (w.heap.size + 1) W0 wr ∧ wr.heap[g]? = some (.cells #[.int .i64 63, .int .i64 6, .int .i64 91, .int .i64 79, .int .i64 102, .int .i64 109, .int .i64 125, .int .i64 7, .int .i64 127, .int .i64 111] 38 (0, 0))) (fun bv _ => 10 - (intOf bv).toNat)
      case atStart => exact ⟨0, by omega, rfl, HO.out, HB.out, HGG.out⟩
      case round =>
        obtain ⟨b, hbn, rfl, ho, hb, hgg⟩ := hrel
        have HGQ := Lib.hid hgg
        clear hgg
        have HO2 := Lib.hid ho
        have HB2 := Lib.hid hb
        have hOB := (ownT_lt ho).2
        have hwz : w.heap.size + 1 ≤ wr.heap.size := Nat.le_of_lt hOB
        by_cases hbl : b < 10
        · have hcell := ownT_cell ho (a * 10 + b) (by rw [tabL_len]; omega)
          have hfree := ownT_free ho (a * 10 + b)
          have HS := Lib.hid (tabL_set a hlt b hbl)
          have hixb := dig_at b hbl
          obtain ⟨e2, l2⟩ := dgN_is b hbl
          rw [e2] at hixb
          obtain ⟨cb, hcb⟩ : ∃ c, dgN b = c := ⟨_, rfl⟩
          rw [hcb] at hixb l2
          have HF : Hid (farT a b = cnt (ca ^^^ cb) 7) := by show farT a b = _; rw [← HCA.out, ← hcb]; rfl
          clear e2 hcb
          have hxr : bits .xor .i64 (ca : Int) (cb : Int) = ((ca ^^^ cb : Nat) : Int) := i64_xor ca cb (by omega) (by omega)
          have hn : ca ^^^ cb < 128 := Nat.xor_lt_two_pow (n := 7) (by omega) (by omega)
          have HD := Lib.hid (fun w => count_any (ca ^^^ cb) w hn)
          have hf7 := cnt_le (ca ^^^ cb) 7
          rw [HF.out] at HS
          generalize (tabL (a * 10 + b)).getD (a * 10 + b) 0 = x at hcell
          generalize cnt (ca ^^^ cb) 7 = z at HS HD hf7
          have hbi0 : (b : Int) < 10 := by omega
          have hai0 : (a : Int) < 10 := by omega
          clear ho hb
          go_wp2
          go_region_with ((go_at_call 35; refine (HD.out _).mono ?_; rintro e w3 ⟨rfl, rfl⟩))
          all_goals
            go_wp2
            go_roundw
            case rel => exact ⟨b + 1, by omega, by go_num, by rw [← Nat.add_assoc, ← HS.out]; exact ownT_set (ownT_keep HO2.out (below_drew1 wr)) (a * 10 + b) z, (HB2.out.trans ((below_drew1 wr).mono hwz)).setCell (Nat.le_refl _) _, (heap_setCell_other wr.drew ⟨w.heap.size + 1, a * 10 + b, none⟩ g _ HGN.out).trans HGQ.out⟩
            case measure => simp [intOf]; omega
        · obtain rfl : b = 10 := by omega
          have HS := Lib.hid (tabL_next a)
          clear ho hb
          go_wp2
          go_roundw
          case rel => exact ⟨a + 1, by omega, by go_num, by rw [← HS.out]; exact HO2.out, HB2.out, HGQ.out⟩
          case measure => simp [intOf]; omega
    · obtain rfl : a = 10 := by omega
      have HG : Hid (wr.heap[w.heap.size + 1]? = some (.cells C 44 (0, 0))) := by rw [HT.out]; exact ownT_heap HO.out
      have hZ := ownT_keepC H0.out HB.out (Nat.lt_succ_self _)
      have hCs : C.size = 100 := by rw [HT.out]; simp [tabL_len]
      have HTH : Hid (wr.there w.heap.size 0 C.size) := by rw [hCs]; exact ownT_there hZ (tabL_len 0)
      have HI : Hid ((Try.prog.info? 44).map (·.size) = some C.size) := by rw [hCs]; exact info41
      have H1C : Hid (C.all (·.oneCell') = true) := by rw [HT.out]; exact ones_all _
      have hl0 : 0 + (tabL 100).length = (tabL 0).length := by rw [tabL_len, tabL_len]
      have hR := ownT_setCells (tabL 100) 0 wr (tabL 0) hl0 hZ
      rw [List.take_zero, List.nil_append] at hR
      have hCl : C.toList = (tabL 100).map (Value.int .i64) := by rw [HT.out]
      rw [← hCl] at hR
      have HR := Lib.hid hR
      have hBE : Below w.heap.size w (wr.setCells w.heap.size 0 C.toList) := below_setCellsN (Nat.le_refl _) _ _ _ (HBW.out.trans (HB.out.mono (Nat.le_succ _)))
      have HBE := Lib.hid hBE
      clear hZ hCs hl0 hR hCl hBE
      go_wp2_with (first | (refine wpList_load_row rfl 44 _ rfl (w.heap.size + 1) rfl 44 C (0, 0) _ HG.out Try.underlying44 rfl HI.out ?_) | (refine wpList_store_mid rfl 44 _ _ rfl w.heap.size 0 C rfl rfl HTH.out HI.out H1C.out ?_))
      have hG9 : (wr.setCells w.heap.size 0 C.toList).heap[w.heap.size]? = some (.cells C 44 (0, 0)) := by rw [ownT_heap HR.out, HT.out]
      refine bodyPost_ret (v := .agg C) (results_cell_row (p := 0) (by kernel_rfl) _ _ w.heap.size 44 C (0, 0) _ rfl hG9 Try.underlying44 rfl HI.out) rfl ⟨rfl, HBE.out⟩

end Go.Proofs.Ytfdhmijofpbkjaa
