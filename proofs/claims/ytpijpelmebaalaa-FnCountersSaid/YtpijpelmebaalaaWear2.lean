/-
  Contract: the wear of a run (the program).
-/
import Derived.Test.YtpijpelmebaalaaWear
namespace Go.Proofs.Ytpijpelmebaalaa
open Go.RowKit
set_option linter.unusedVariables false


set_option maxHeartbeats 8000000 in
theorem implWearOf_any (f s k : Int) (w : World) (wf : (Lit.int .i64 f).wf = true) (ws : (Lit.int .i64 s).wf = true) (wk : (Lit.int .i64 k).wf = true) :
    Calls Try.prog 25 #[.int .i64 f, .int .i64 s, .int .i64 k] w fun e w' => ∃ u, e = .returned (.tuple #[u, .bool (wearI f s k).2.2]) ∧ OwnR w.heap.size w' u (wearI f s k).1 (wearI f s k).2.1 ∧ Below w.heap.size w w' := by
  have H1 := Lib.hid (isCounter_any f k w)
  have H2 := Lib.hid (withinSt_any s)
  by_cases hg : (isCtr f k && isSt s) = true
  · have e : wearI f s k = (k.toNat, wRun k.toNat f.toNat s.toNat, true) := if_pos hg
    rw [e]
    have hgs := hg
    simp only [Bool.and_eq_true] at hgs
    have HC1 := Lib.hid hgs.1
    have HC2 := Lib.hid hgs.2
    clear hgs
    rw [HC1.out] at H1
    rw [HC2.out] at H2
    have hg' := hg
    simp only [Bool.and_eq_true] at hg'
    obtain ⟨m, j, rfl, rfl, h1, h6, hm⟩ := ctr_nat hg'.1
    obtain ⟨n, rfl, hn⟩ := st_nat hg'.2
    clear e hg hg' wf ws wk
    simp only [Int.toNat_natCast]
    obtain ⟨i0, hi, hz0, hz1, hz2⟩ := info_parts info_arr7
    have hp := pw_le j h6
    obtain ⟨p, hpe⟩ : ∃ p, pw j = p := ⟨_, rfl⟩
    have HPE := Lib.hid hpe
    rw [hpe] at hp hm
    have HR := Lib.hid (fun n w (h : n < pw j) => counterRow_any n j w h1 h6 h)
    have HP := Lib.hid (fun w => power_any j w h6)
    rw [hpe] at HR HP
    clear hpe
    have HR0 := Lib.hid (fun w => HR.out m w hm)
    go_enter Try.func25, Try.ntmps25
    go_wp2_with (first | (go_at_call 56; refine H1.out.mono ?_; rintro e w1 ⟨rfl, rfl⟩) | (go_at_call 61; refine (H2.out _).mono ?_; rintro e w1 ⟨rfl, rfl⟩) | (at_make; refine wpList_make_full _ rfl _ _ 32 rfl w.heap.size 58 i0 (.agg #[.int .i64 0, .int .i64 0, .int .i64 0, .int .i64 0, .int .i64 0, .int .i64 0, .int .i64 0]) 7 Try.underlying32 hi hz0 hz1 _ _ _ _ j rfl rfl rfl rfl (by rw [hz2]; omega) (by unfold maxLen; omega) (Nat.le_refl _) ?_))
    intro w1 hown hgr
    have hst : OwnR w.heap.size w1 (.slice (some ⟨w.heap.size, 0, none⟩) j j) j (wRun j m 0) := by
      unfold OwnR
      have e : (madeCells #[Value.int .i64 0, .int .i64 0, .int .i64 0, .int .i64 0, .int .i64 0, .int .i64 0, .int .i64 0] (j * 7)).toList = (wRun j m 0).map (Value.int .i64) := by
        rw [made7]; simp [wRun, List.map_replicate]
      rw [← e]
      exact hown
    have HST := Lib.hid hst
    have hB : Below w.heap.size w w1 := (Below.refl _ _).grown hgr (Nat.le_refl _) (fun k hk => by cases hk)
    have HB1 := Lib.hid hB
    clear hown hst hgr hi hz0 hz1 hz2 hB
    go_wp2_with fail
    refine (HR0.out _).mono ?_
    rintro e w2 ⟨u2, rfl, ho2, hb2⟩
    have HO2 := Lib.hid ho2
    have HST2 := Lib.hid (ownR_keep HST.out hb2)
    have HB2 := Lib.hid (bt0 HB1.out hb2 (ownR_lt HST.out _ rfl).2)
    have hz2 : w.heap.size + 1 ≤ w1.heap.size := (ownR_lt HST.out _ rfl).2
    clear ho2 hb2
    go_wp2
    go_loopw [9, 30] (fun rv iv wr => ∃ i : Nat, i ≤ n ∧ iv = .int .i64 i ∧ OwnR w.heap.size wr (.slice (some ⟨w.heap.size, 0, none⟩) j j) j (wRun j m i) ∧ Below w.heap.size w wr ∧ Own (w.heap.size + 1) wr rv (cRow ((m + i) % p) j)) (fun _ iv _ => n - (intOf iv).toNat)
    case atStart => exact ⟨0, by omega, rfl, HST2.out, HB2.out, by rw [show (m + 0) % p = m from Nat.mod_eq_of_lt hm]; exact own_mono HO2.out hz2⟩
    case round =>
      obtain ⟨i, hi, rfl, ho, hb, hor⟩ := hrel
      have HO := Lib.hid ho
      have HB := Lib.hid hb
      have HOR := Lib.hid hor
      have hbz := hb.size
      have HWZ : Hid (w.heap.size < wr.heap.size) := Lib.hid (ownR_lt ho _ rfl).2
      clear ho hb hor
      by_cases hlt : i < n
      · have hm2 : ((m : Int) + (i : Int) + 1) % (p : Int) = (((m + i + 1) % p : Nat) : Int) := by simp
        have hl2 : (m + i + 1) % p < p := Nat.mod_lt _ (by omega)
        have HX := Lib.hid (fun i h => cRow_at ((m + i) % p) j i h)
        have HX : Hid (∀ t, t < j → 0 ≤ (cRow ((m + i) % p) j).getD t 0 ∧ (cRow ((m + i) % p) j).getD t 0 ≤ 127) := Lib.hid (fun t h => cRow_at ((m + i) % p) j t h)
        have HY : Hid (∀ t, t < j → 0 ≤ (cRow ((m + i + 1) % p) j).getD t 0 ∧ (cRow ((m + i + 1) % p) j).getD t 0 ≤ 127) := Lib.hid (fun t h => cRow_at ((m + i + 1) % p) j t h)
        have HXL : Hid ((cRow ((m + i) % p) j).length = j) := Lib.hid (cRow_len _ _)
        have HYL : Hid ((cRow ((m + i + 1) % p) j).length = j) := Lib.hid (cRow_len _ _)
        have HWR : Hid (wRun j m (i + 1) = wCell (cRow ((m + i) % p) j) (cRow ((m + i + 1) % p) j) (wRun j m i) j) := Lib.hid (by rw [wRun, HPE.out])
        have HYr := Lib.hid (fun w => HR.out ((m + i + 1) % p) w hl2)
        have HU := Lib.hid (wRun_to j m h6 i)
        have HWL := Lib.hid (wRun_len j m i)
        generalize cRow ((m + i) % p) j = xs at HX HXL HWR HOR
        generalize hys : cRow ((m + i + 1) % p) j = ys at HY HYL HWR HYr
        have HYE : Hid (cRow ((m + (i + 1)) % p) j = ys) := Lib.hid hys
        clear hys
        generalize wRun j m i = W at HO HWR HU HWL
        generalize (m + i + 1) % p = q2 at hm2 hl2 HYr
        go_wp2_with fail
        refine (HP.out _).mono ?_
        rintro e w4 ⟨rfl, rfl⟩
        go_wp2_with fail
        refine (HYr.out _).mono ?_
        rintro e w5 ⟨u5, rfl, ho5, hb5⟩
        have hWZ := HWZ.out
        have hBw5 := hb5
        have hj1 : 0 < j := h1
        have hlx : xs.length = j := HXL.out
        have hly : ys.length = j := HYL.out
        rcases own_cases (own_keep HOR.out hb5) with ⟨_, he⟩ | ⟨g3, cap3, rfl, hg31, hg32, _, _, hg3c, _⟩
        · exact absurd hlx (by rw [he]; simp; omega)
        rcases own_cases ho5 with ⟨_, he⟩ | ⟨g5, cap5, rfl, hg51, hg52, _, _, hg5c, _⟩
        · exact absurd hly (by rw [he]; simp; omega)
        rw [hlx] at hg3c ⊢
        rw [hly] at hg5c ⊢
        have hn3 : g3 ≠ w.heap.size := by omega
        have hn5 : g5 ≠ w.heap.size := by omega
        have HG3 := Lib.hid hg3c
        have HG5 := Lib.hid hg5c
        have HN3 := Lib.hid hn3
        have HN5 := Lib.hid hn5
        have HO5 := Lib.hid (ownR_keep HO.out hBw5)
        have HB5 := Lib.hid (bt0 HB.out hBw5 HWZ.out)
        have HO55 := Lib.hid ho5
        rw [hly] at HO55
        clear hg3c hg5c hn3 hn5 ho5 hb5 hBw5 hg31 hg32 hg51 hg52 hlx hly hm2 hl2
        go_wp2
        obtain ⟨wo, rfl⟩ : ∃ wo : World, wo = w5 := ⟨_, rfl⟩
        go_loopw [44] (fun xv wr => ∃ x : Nat, x ≤ j ∧ xv = .int .i64 x ∧ OwnR w.heap.size wr (.slice (some ⟨w.heap.size, 0, none⟩) j j) j (wCell xs ys W x) ∧ Below w.heap.size w wr ∧ Only (.slice (some ⟨w.heap.size, 0, none⟩) j j) wo wr) (fun xv _ => j - (intOf xv).toNat)
        case atStart => exact ⟨0, by omega, rfl, HO5.out, HB5.out, only_refl _ _⟩
        case round =>
          obtain ⟨x, hx, rfl, ho, hb, hon⟩ := hrel
          have HOx := Lib.hid ho
          have HBx := Lib.hid hb
          have HNx := Lib.hid hon
          clear ho hb hon
          by_cases hxl : x < j
          · obtain ⟨hx0, hx1⟩ := HX.out x hxl
            obtain ⟨hy0, hy1⟩ := HY.out x hxl
            have hcx : wo.cell? ⟨g3, x, none⟩ = some (.int .i64 (xs.getD x 0)) := HG3.out x hxl
            have hcy : wo.cell? ⟨g5, x, none⟩ = some (.int .i64 (ys.getD x 0)) := HG5.out x hxl
            obtain ⟨xn, hxn⟩ : ∃ xn : Nat, xs.getD x 0 = (xn : Int) := Int.eq_ofNat_of_zero_le hx0
            obtain ⟨yn, hyn⟩ : ∃ yn : Nat, ys.getD x 0 = (yn : Int) := Int.eq_ofNat_of_zero_le hy0
            have HWC : Hid (wCell xs ys W (x + 1) = wBar (xn ^^^ yn) x (wCell xs ys W x) 7) := Lib.hid (by rw [wCell, hxn, hyn]; rfl)
            have HUx := Lib.hid (wCell_to (xs := xs) (ys := ys) HU.out x)
            rw [hxn] at hcx hx1
            rw [hyn] at hcy hy1
            have hxor : bits .xor .i64 (xn : Int) (yn : Int) = ((xn ^^^ yn : Nat) : Int) := i64_xor _ _ (by omega) (by omega)
            have hc7 : xn ^^^ yn < 128 := Nat.xor_lt_two_pow (n := 7) (by omega) (by omega)
            have HVL : Hid ((wCell xs ys W x).length = j * 7) := Lib.hid (by rw [wCell_len, HWL.out])
            generalize wCell xs ys W x = V at HOx HWC HUx HVL
            generalize xn ^^^ yn = c at hxor hc7 HWC
            have hcx0 : wr.cell? ⟨g3, x, none⟩ = some (.int .i64 (xn : Int)) := (World.cell?_of_block (HNx.out g3 (by intro e; exact HN3.out (by injection e with e; exact e.symm)))).trans hcx
            have HCX := Lib.hid hcx
            have HCY := Lib.hid hcy
            have hx00 : (x : Int) < (j : Int) := by omega
            clear hx0 hy0 hxn hyn hcx hcy
            go_wp2
            obtain ⟨wi, rfl⟩ : ∃ wi : World, wi = wr := ⟨_, rfl⟩
            clear hcx0
            go_loopw [49] (fun bv wr => ∃ b : Nat, b ≤ 7 ∧ bv = .int .i64 b ∧ OwnR w.heap.size wr (.slice (some ⟨w.heap.size, 0, none⟩) j j) j (wBar c x V b) ∧ Below w.heap.size w wr ∧ Only (.slice (some ⟨w.heap.size, 0, none⟩) j j) wo wr) (fun bv _ => 7 - (intOf bv).toNat)
            case atStart => exact ⟨0, by omega, rfl, HOx.out, HBx.out, HNx.out⟩
            case round =>
              obtain ⟨b, hbn, rfl, ho, hb, hon⟩ := hrel
              have HOb := Lib.hid ho
              have HBb := Lib.hid hb
              have HNb := Lib.hid hon
              by_cases hbl : b < 7
              · have hVL : (wBar c x V b).length = j * 7 := by rw [wBar_len, HVL.out]
                have hcv : wr.cell? ⟨w.heap.size, x * 7 + b, none⟩ = some (.int .i64 ((wBar c x V b).getD (x * 7 + b) 0)) := by
                  rw [World.ownsRow.cellAt ho (x * 7 + b) (by omega), List.getElem?_map, List.getElem?_eq_getElem (by omega)]
                  simp [List.getD, List.getElem?_eq_getElem (show x * 7 + b < (wBar c x V b).length by omega)]
                have hfv : wr.frozen? ⟨w.heap.size, x * 7 + b, none⟩ = false := World.ownsRow.frozenAt ho (x * 7 + b)
                have hcx : wr.cell? ⟨g3, x, none⟩ = some (.int .i64 (xn : Int)) := (World.cell?_of_block (hon g3 (by intro e; exact HN3.out (by injection e with e; exact e.symm)))).trans HCX.out
                have hcy : wr.cell? ⟨g5, x, none⟩ = some (.int .i64 (yn : Int)) := (World.cell?_of_block (hon g5 (by intro e; exact HN5.out (by injection e with e; exact e.symm)))).trans HCY.out
                obtain ⟨hv0, hv1⟩ := wBar_to (c := c) (x := x) HUx.out b (x * 7 + b)
                have HWB : Hid (wBar c x V (b + 1) = (wBar c x V b).set (x * 7 + b) ((wBar c x V b).getD (x * 7 + b) 0 + (bitN c b : Int))) := Lib.hid rfl
                have hbit := bit_and7 c hc7 b hbl
                have hb2 := bitN_lt c b
                generalize bitN c b = z at hbit hb2 HWB
                generalize (wBar c x V b).getD (x * 7 + b) 0 = v at hcv hv0 hv1 HWB
                have hb00 : (b : Int) < 7 := by omega
                have hv2 : v ≤ 100000 := by omega
                have HFV := Lib.hid (show OwnR w.heap.size (wr.drew.setCell ⟨w.heap.size, x * 7 + b, none⟩ (.int .i64 (v + z))) (.slice (some ⟨w.heap.size, 0, none⟩) j j) j (wBar c x V (b + 1)) by rw [HWB.out]; exact ownR_set (ownR_keep HOb.out (below_drew1 wr)) _ _)
                have HFB := Lib.hid (show Below w.heap.size w (wr.drew.setCell ⟨w.heap.size, x * 7 + b, none⟩ (.int .i64 (v + z))) from (HBb.out.trans ((below_drew1 wr).mono (Nat.le_of_lt (ownR_lt ho _ rfl).2))).setCell (Nat.le_refl _) _)
                have HFN := Lib.hid (show Only (.slice (some ⟨w.heap.size, 0, none⟩) j j) wo (wr.drew.setCell ⟨w.heap.size, x * 7 + b, none⟩ (.int .i64 (v + z))) from only_set (fun k hk => HNb.out k hk) _ _)
                clear ho hb hon hVL hv1
                go_wp2
                go_region
                all_goals
                  go_wp2
                  go_roundw
                  case rel => exact ⟨b + 1, by omega, by go_num, HFV.out, HFB.out, HFN.out⟩
                  case measure => simp [intOf]; omega
              · obtain rfl : b = 7 := by omega
                clear ho hb hon
                go_wp2
                go_roundw
                case rel => exact ⟨x + 1, by omega, by go_num, by rw [HWC.out]; exact HOb.out, HBb.out, HNb.out⟩
                case measure => simp [intOf]; omega
          · obtain rfl : x = j := by omega
            go_wp2
            go_roundw
            case rel => exact ⟨i + 1, by omega, by go_num, by rw [HWR.out]; exact HOx.out, HBx.out, by rw [HYE.out]; exact (own_only (own_mono HO55.out hWZ) HNx.out (fun k hk => by injection hk with hk; intro e; injection e with e; exact HN5.out (hk.trans e.symm)))⟩
            case measure => simp [intOf]; omega
      · obtain rfl : i = n := by omega
        go_wp2
        go_ret2
        exact ⟨_, rfl, HO.out, HB.out⟩
  · have e : wearI f s k = (0, [], false) := if_neg hg
    rw [e]
    clear e wf ws wk
    by_cases hc : isCtr f k = true
    · have hs : isSt s = false := by rw [hc] at hg; simpa using hg
      rw [hc] at H1
      rw [hs] at H2
      clear hc hg hs
      go_enter Try.func25, Try.ntmps25
      go_wp2_with (first | (go_at_call 56; refine H1.out.mono ?_; rintro e w1 ⟨rfl, rfl⟩) | (go_at_call 61; refine (H2.out _).mono ?_; rintro e w1 ⟨rfl, rfl⟩))
      go_ret2
      exact ⟨_, rfl, ownR_nil _ _, Below.refl _ _⟩
    · have hc' : isCtr f k = false := by simpa using hc
      rw [hc'] at H1
      clear hc hg hc'
      go_enter Try.func25, Try.ntmps25
      go_wp2_with (first | (go_at_call 56; refine H1.out.mono ?_; rintro e w1 ⟨rfl, rfl⟩) | (go_at_call 61; refine (H2.out _).mono ?_; rintro e w1 ⟨rfl, rfl⟩))
      go_ret2
      exact ⟨_, rfl, ownR_nil _ _, Below.refl _ _⟩

end Go.Proofs.Ytpijpelmebaalaa
