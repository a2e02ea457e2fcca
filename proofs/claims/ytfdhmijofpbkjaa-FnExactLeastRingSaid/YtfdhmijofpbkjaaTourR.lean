/-
  A tour of the program: the least cost of the rest, with its memo. No condition but the bounds.
-/
import Derived.Test.YtfdhmijofpbkjaaTour
import Derived.Deep.RegionWith
namespace Go.Proofs.Ytfdhmijofpbkjaa
open Go.RowKit
set_option linter.unusedVariables false


open Go.Maps
theorem pow_wrap10 (k : Nat) (hk : k ≤ 10) : IntKind.i64.wrap (2 ^ k) = (2 : Int) ^ k ∧ IntKind.i64.wrap ((2 : Int) ^ k - 1) = (2 : Int) ^ k - 1 := by
  have := pow_ten k hk
  have h0 := Nat.two_pow_pos k
  rw [show ((2 : Int) ^ k) = ((2 ^ k : Nat) : Int) by simp]
  exact ⟨wrap_nat _ (by omega), by rw [show ((2 ^ k : Nat) : Int) - 1 = ((2 ^ k - 1 : Nat) : Int) by omega]; exact wrap_nat _ (by omega)⟩
theorem unseen_mono (s : Nat) : ∀ (n i : Nat), i ≤ n → (unseen s i).length ≤ (unseen s n).length
  | 0, i, h => by rw [show i = 0 by omega]; exact Nat.le_refl _
  | n + 1, i, h => by
    by_cases e : i = n + 1
    · rw [e]; exact Nat.le_refl _
    · have := unseen_mono s n i (by omega)
      cases hb : s.testBit n with
      | true => rw [unseen_skip s n hb]; exact this
      | false => rw [unseen_take s n hb, List.length_append]; omega
theorem key_cells (w : World) (a b : Int) (kb : Nat) (h : kb < w.heap.size) : True := trivial
set_option maxRecDepth 100000 in
set_option maxHeartbeats 8000000 in
theorem restC (g m q cap : Nat) (L : List Nat) (back : Int) (hL : DigL L) (hb1 : -1 ≤ back) (hb9 : back ≤ 9) : ∀ k, RestC g m q cap L back k := by
  intro k
  induction k with
  | zero =>
    intro s l N w hs hl hk hN hT hM
    obtain ⟨hL1, hL2, hL3⟩ := hL
    have hrem : remI L s = [] := List.eq_nil_of_length_eq_zero hk
    have hfull : s = 2 ^ L.length - 1 := by
      by_cases e : s = 2 ^ L.length - 1
      · exact e
      · exact absurd hrem (remI_some L s hs e)
    obtain ⟨hw1, hw2⟩ := pow_wrap10 L.length hL1
    have h0 := Nat.two_pow_pos L.length
    have heq : ((s : Int) == (2 : Int) ^ L.length - 1) = true := by
      rw [beq_iff_eq, show ((2 : Int) ^ L.length) = ((2 ^ L.length : Nat) : Int) by simp]
      omega
    obtain ⟨t1, t2, t3, t4, t5, t6, t7, t8⟩ := hT
    have c2 := t5 l hl
    have hx := hL3 l hl
    have hlI : (l : Int) < (L.length : Int) := by omega
    have HM : Hid (MapOk w m (N + FK 0) L back) := Lib.hid hM
    rw [hrem, cost_nil]
    generalize L.getD l 0 = x at c2 hx ⊢
    have hn10 : (L.length : Int) ≤ 10 := by omega
    by_cases hneg : back < 0
    · have hd : decide (back < 0) = true := decide_eq_true hneg
      have HE : Hid (endc back x = 0) := Lib.hid (by unfold endc; rw [if_pos hneg])
      generalize L.length = n at t1 hlI hw1 hw2 heq hn10
      clear hM t2 t3 t5 t6 t7 t8 hL1 hL2 hL3 hs hk hN hl hrem hfull h0 hneg
      go_enter Try.func36, Try.ntmps36
      go_wp2
      go_ret
      exact ⟨by rw [HE.out]; rfl, World.grownBy.refl _ _, HM.out⟩
    · have hd : decide (back < 0) = false := decide_eq_false hneg
      obtain ⟨b, rfl⟩ := Int.eq_ofNat_of_zero_le (show 0 ≤ back by omega)
      have HE : Hid (endc (b : Int) x = farT x b) := Lib.hid (by unfold endc; rw [if_neg hneg, Int.toNat_natCast])
      have c4 := t2 x b hx (by omega)
      have hxI : (x : Int) < 10 := by omega
      have hbI : (b : Int) < 10 := by omega
      generalize farT x b = f at c4 HE
      generalize L.length = n at t1 hlI hw1 hw2 heq hn10
      clear hM t2 t3 t5 t6 t7 t8 hL1 hL2 hL3 hs hk hN hl hrem hfull h0 hneg
      go_enter Try.func36, Try.ntmps36
      go_wp2
      go_quiet (fail)
      go_wp2
      go_ret
      exact ⟨by rw [HE.out]; rfl, grown_drewN _ _ _, mapOk_kept HM.out (grown_drewN _ _ none) (by simp)⟩
  | succ k ih =>
    intro s l N w hs hl hk hN hT hM
    have HTH := Lib.hid (fun (i N' : Nat) (W : World) (hi : i < L.length) (hb : s.testBit i = false) (hN' : N' + FK k ≤ 1000000000000) (hT' : TourS W g m q cap L back) (hM' : MapOk W m N' L back) => throughC g m q cap L back k hL ih s l i N' W hs hl hi hb hk hN' hT' hM')
    obtain ⟨hL1, hL2, hL3⟩ := hL
    have hp10 := pow_ten _ hL1
    have hs1 : s < 1024 := by omega
    have hne : remI L s ≠ [] := fun e => by rw [e] at hk; cases hk
    have hnf : s ≠ 2 ^ L.length - 1 := fun e => hne (by rw [e]; exact remI_full L)
    obtain ⟨hw1, hw2⟩ := pow_wrap10 L.length hL1
    have h0 := Nat.two_pow_pos L.length
    have heq : ((s : Int) == (2 : Int) ^ L.length - 1) = false := by
      rw [beq_eq_false_iff_ne, show ((2 : Int) ^ L.length) = ((2 ^ L.length : Nat) : Int) by simp]
      omega
    have HT := Lib.hid hT
    obtain ⟨D, hown, hgood⟩ := hM
    have HOWN := Lib.hid hown
    have HGOOD := Lib.hid hgood
    have HMAP := hown.isMap
    have HMP := Lib.hid HMAP
    have hkey := keyOfT s l hs1 (by omega)
    have hzI : ∀ W : World, (zeroValue 3).run Try.prog W = .ok (.int .i64 0) W := Try.zeroValue3
    have HG := Lib.hid (fun hh z => hgood s l hs1 hl hh z)
    have hmlt := hown.lt
    obtain ⟨t1, t2, t3, t4, t5, t6, t7, t8⟩ := hT
    have hgw : g < w.heap.size := World.block_lt_of_cell? w _ t1
    have HFULL := Lib.hid (fbI_full L back s (L.getD l 0) hne)
    have HRNG := Lib.hid (fun i => fbI_rng L back s (L.getD l 0) hL1 i)
    have HSKIP := Lib.hid (fun i hb => fbI_skip L back s (L.getD l 0) i hb)
    have HTAKE := Lib.hid (fun i hb => fbI_take L back s (L.getD l 0) i hb)
    have HTL := Lib.hid (fun i => termI_le L back s (L.getD l 0) i hL1)
    have HU := Lib.hid (remI_unseen L s)
    have HK := Lib.hid hk
    have HN : Hid (N + (1 + (k + 1) * FK k) ≤ 1000000000000) := Lib.hid hN
    have hgp := fun (D' : DataW Nat) (hg : GoodD L back D') (hm : IsMap D') => goodD_put (D := D') hg hm hL1 s l hs1 hl
    have HPUT := Lib.hid hgp
    have hcl := cost_le back _ (remI L s) (L.getD l 0) rfl
    have hc100 : cost back (remI L s) (L.getD l 0) ≤ 100 := by have := remI_len L s; omega
    generalize hcc : cost back (remI L s) (L.getD l 0) = c at HG HFULL HPUT hc100 ⊢
    have hn10 : (L.length : Int) ≤ 10 := by omega
    have hlen10 := hL1
    have hgmI : g ≠ m := t6
    obtain ⟨n, hn⟩ : ∃ n, L.length = n := ⟨_, rfl⟩
    have HNL := Lib.hid hn
    have hlI : (l : Int) < (L.length : Int) := by omega
    have HS1 := Lib.hid hs1
    have HLL := Lib.hid hl
    rw [hn] at t1 hlI hw1 hw2 heq hn10
    have T3 := t3
    have T1 := Lib.hid t1
    clear hown hgood HMAP hgp hcl hcc t2 t3 t4 t5 t7 hL1 hL2 hL3 hp10 hs1 hne hnf h0 hN hk hlen10 hn hs hl ih t8
    go_enter Try.func36, Try.ntmps36
    go_wp2
    generalize hW0 : w.alloc (.cells #[.int .i64 (s : Int), .int .i64 (l : Int)] 59) = W0
    have hgk : w.grownBy W0 none := by rw [← hW0]; exact World.grownBy_alloc _ _ _
    have hok : W0.ownsMap Try.prog 59 (plainElem Try.prog 3) m N D := by rw [← hW0]; exact HOWN.out.alloc _
    have hk0 : W0.cell? ⟨w.heap.size, 0, none⟩ = some (.int .i64 (s : Int)) := by rw [← hW0]; simp
    have hk1 : W0.cell? ⟨w.heap.size, 1, none⟩ = some (.int .i64 (l : Int)) := by rw [← hW0]; simp
    have hm101 : W0.cell? ⟨g, 101, none⟩ = some (.map (some m)) := hgk.cell (a := ⟨g, 101, none⟩) T3 (by simp)
    have HKG := Lib.hid hgk
    have HOK := Lib.hid hok
    have HK0 := Lib.hid hk0
    have HK1 := Lib.hid hk1
    have hrunA : ∀ (hb : Bool) (vv : Int), has D (kOf s l) = hb → (∀ cc : Int, D.atKey (kOf s l) (.lit (.int .i64 0)) = .lit (.int .i64 cc) → cc = vv) → ∀ q : Nat, (Instr.lookup 46 (.map (some m)) (.agg #[.int .i64 (s : Int), .int .i64 (l : Int)]) true).run Try.prog (W0.drewN q) = .ok (.tuple #[.int .i64 vv, .bool hb]) (W0.drewN q) := by
      intro hb vv hh hv q
      have hoq : (W0.drewN q).ownsMap Try.prog 59 (plainElem Try.prog 3) m N D := hok
      obtain ⟨v, ps, hr, hp⟩ := hoq.look_ok keyedT Try.underlying46 (hzI _) (plainElem_int Try.underlying3 (by decide)) hkey
      obtain ⟨cc, rfl, hc, _⟩ := plainElem_int_inv Try.underlying3 hp
      rw [hr, hh, hv cc (congrArg Prod.fst hc)]
    have HRUNA := Lib.hid hrunA
    have HKEY := Lib.hid hkey
    clear hgk hok hW0 t1 hrunA hzI hkey
    have HLE : Hid (N ≤ N + FK (k + 1)) := Lib.hid (Nat.le_add_right _ _)
    cases hh : has D (kOf s l) with
    | true =>
      have HG2 := Lib.hid (HG.out hh)
      have HH := Lib.hid hh
      clear hh
      have hrun := HRUNA.out true c HH.out (fun cc hat => by rw [HG2.out] at hat; injection hat with h1; injection h1 with h2 h3; exact h3.symm)
      go_quiet (fail)
      go_wp2
      go_ret
      exact ⟨rfl, (HKG.out.trans (grown_drewN _ _ _)).but _, ⟨D, (HOK.out.mono HLE.out).kept (grown_drewN _ _ none) (by simp), HGOOD.out⟩⟩
    | false =>
      have HH := Lib.hid hh
      clear hh
      have hg0 : W0.cell? ⟨g, 0, none⟩ = some (.slice (some ⟨q, 0, none⟩) n cap) := HKG.out.cell (a := ⟨g, 0, none⟩) T1.out (by simp)
      have hno : D.atKey (kOf s l) (.lit (.int .i64 0)) = .lit (.int .i64 0) := by
        obtain ⟨es, rfl⟩ := HMP.out
        have h1 := HH.out
        rw [has_eq] at h1
        unfold DataW.atKey
        have h2 : es.find? (fun p => p.1.sameKey (kOf s l)) = none := by
          rw [List.find?_eq_none]
          intro p hp hs
          rw [List.any_eq_false] at h1
          exact h1 p hp hs
        simp only [h2]
      have hrun := HRUNA.out false 0 HH.out (fun cc hat => by rw [hno] at hat; injection hat with h1; injection h1 with h2 h3; exact h3.symm)
      clear hno
      go_quiet (fail)
      go_wp2
      have HM101 := Lib.hid hm101
      clear hrun hm101
      have HKG1 := Lib.hid (HKG.out.trans (grown_drewN W0 nq none))
      have HOK1 := Lib.hid (HOK.out.kept (grown_drewN W0 nq none) (by simp))
      have hk0' : (W0.drewN nq).cell? ⟨w.heap.size, 0, none⟩ = some (.int .i64 (s : Int)) := HK0.out
      have hk1' : (W0.drewN nq).cell? ⟨w.heap.size, 1, none⟩ = some (.int .i64 (l : Int)) := HK1.out
      have HK01 := Lib.hid hk0'
      have HK11 := Lib.hid hk1'
      have hm1' : (W0.drewN nq).cell? ⟨g, 101, none⟩ = some (.map (some m)) := HM101.out
      have HM1 := Lib.hid hm1'
      clear hk0' hk1' hm1' hk0 hk1 hg0
      generalize W0.drewN nq = W1 at HKG1 HOK1 HK01 HK11 HM1 ⊢
      have HTS := Lib.hid (tourS_grown HT.out (HKG1.out.but (some m)))
      have HMO : Hid (MapOk W1 m N L back) := Lib.hid ⟨D, HOK1.out, HGOOD.out⟩
      generalize hxx : L.getD l 0 = x at HRNG HSKIP HTAKE HTL HFULL HTH
      clear hxx
      go_loopw [10, 63] (fun lv iv wr => ∃ i : Nat, i ≤ n ∧ iv = .int .i64 i ∧ lv = .int .i64 (fbI L back s x i) ∧ W1.grownBy wr (some m) ∧ MapOk wr m (N + (unseen s i).length * FK k) L back) (fun _ iv _ => n - (intOf iv).toNat)
      case atStart => exact ⟨0, by omega, rfl, rfl, World.grownBy.refl _ _, by rw [show (unseen s 0).length * FK k = 0 by simp [unseen], Nat.add_zero]; exact HMO.out⟩
      case round =>
        obtain ⟨i, hi, rfl, rfl, hgr, hmo⟩ := hrel
        have HGR := Lib.hid hgr
        have HMR := Lib.hid hmo
        have hrng := HRNG.out i
        clear hgr hmo
        by_cases hlt : i < n
        · have hiI : (i : Int) < (n : Int) := by omega
          have hi10 : i < 10 := by omega
          have hand := and_bit s i HS1.out hi10
          cases hbit : s.testBit i with
          | true =>
            rw [hbit] at hand
            have hand' : bits .and .i64 ((s : Int) / 2 ^ i) 1 = 1 := hand
            have HF : Hid (fbI L back s x (i + 1) = fbI L back s x i) := Lib.hid (HSKIP.out i hbit)
            have HUS : Hid ((unseen s (i + 1)).length = (unseen s i).length) := Lib.hid (by rw [unseen_skip s i hbit])
            generalize fbI L back s x i = f at HF hrng ⊢
            clear hand hbit
            go_wp2
            go_roundw
            case rel => exact ⟨i + 1, by omega, by go_num, by rw [HF.out], HGR.out, by rw [HUS.out]; exact HMR.out⟩
            case measure => simp [intOf]; omega
          | false =>
            rw [hbit] at hand
            have hand' : bits .and .i64 ((s : Int) / 2 ^ i) 1 = 0 := hand
            have HF : Hid (fbI L back s x (i + 1) = bst (fbI L back s x i) (termI L back s x i)) := Lib.hid (HTAKE.out i hbit)
            have HUS : Hid ((unseen s (i + 1)).length = (unseen s i).length + 1) := Lib.hid (by rw [unseen_take s i hbit, List.length_append, List.length_singleton])
            have hbnd : N + (unseen s i).length * FK k + FK k ≤ 1000000000000 := by
              have h1 := unseen_mono s n (i + 1) (by omega)
              rw [HUS.out] at h1
              have h2 := HU.out
              rw [HNL.out, HK.out] at h2
              have h3 : ((unseen s i).length + 1) * FK k ≤ (k + 1) * FK k := Nat.mul_le_mul_right _ (by omega)
              rw [Nat.succ_mul] at h3
              have h4 := HN.out
              omega
            have HC := Lib.hid (HTH.out i _ wr (by rw [HNL.out]; exact hlt) hbit hbnd (tourS_grown HTS.out HGR.out) HMR.out)
            have htm := HTL.out i
            generalize termI L back s x i = t at HF HC htm
            generalize fbI L back s x i = f at HF hrng ⊢
            have HMS : Hid (∀ w', MapOk w' m (N + (unseen s i).length * FK k + FK k) L back → MapOk w' m (N + (unseen s (i + 1)).length * FK k) L back) := Lib.hid (fun w' h => by
              rw [HUS.out, Nat.succ_mul, ← Nat.add_assoc]; exact h)
            clear hand hbit hbnd
            by_cases hneg : f < 0
            · have hd1 : decide (f < 0) = true := decide_eq_true hneg
              have HE : Hid (bst f t = (t : Int)) := Lib.hid (by unfold bst; rw [if_pos (.inl hneg)])
              go_wp2_with fail
              refine HC.out.mono ?_
              rintro e w3 ⟨rfl, hg3, hm3⟩
              go_wp2
              go_roundw
              case rel => exact ⟨i + 1, by omega, by go_num, by rw [HF.out, HE.out], HGR.out.trans hg3, HMS.out _ hm3⟩
              case measure => simp [intOf]; omega
            · have hd1 : decide (f < 0) = false := decide_eq_false hneg
              by_cases hlt2 : (t : Int) < f
              · have hd2 : decide ((t : Int) < f) = true := decide_eq_true hlt2
                have HE : Hid (bst f t = (t : Int)) := Lib.hid (by unfold bst; rw [if_pos (.inr hlt2)])
                go_wp2_with fail
                refine HC.out.mono ?_
                rintro e w3 ⟨rfl, hg3, hm3⟩
                go_wp2
                go_roundw
                case rel => exact ⟨i + 1, by omega, by go_num, by rw [HF.out, HE.out], HGR.out.trans hg3, HMS.out _ hm3⟩
                case measure => simp [intOf]; omega
              · have hd2 : decide ((t : Int) < f) = false := decide_eq_false hlt2
                have HE : Hid (bst f t = f) := Lib.hid (by unfold bst; rw [if_neg (by rintro (h | h); exact hneg h; exact hlt2 h)])
                go_wp2_with fail
                refine HC.out.mono ?_
                rintro e w3 ⟨rfl, hg3, hm3⟩
                go_wp2
                go_roundw
                case rel => exact ⟨i + 1, by omega, by go_num, by rw [HF.out, HE.out], HGR.out.trans hg3, HMS.out _ hm3⟩
                case measure => simp [intOf]; omega
        · obtain rfl : i = n := by omega
          have HF : Hid (fbI L back s x i = (c : Int)) := Lib.hid (by have := HFULL.out; rw [HNL.out] at this; exact this)
          rw [HF.out]
          obtain ⟨D', hown', hgood'⟩ := HMR.out
          have HOD := Lib.hid hown'.drew
          have HGD := Lib.hid (HPUT.out D' hgood' hown'.isMap)
          have hmne : some w.heap.size ≠ some m := fun e => by injection e with e; omega
          have hgne : some g ≠ some m := fun e => hgmI (by injection e)
          have hk0 : wr.cell? ⟨w.heap.size, 0, none⟩ = some (.int .i64 (s : Int)) := HGR.out.cell (a := ⟨w.heap.size, 0, none⟩) HK01.out hmne
          have hk1 : wr.cell? ⟨w.heap.size, 1, none⟩ = some (.int .i64 (l : Int)) := HGR.out.cell (a := ⟨w.heap.size, 1, none⟩) HK11.out hmne
          have hm101 : wr.cell? ⟨g, 101, none⟩ = some (.map (some m)) := HGR.out.cell (a := ⟨g, 101, none⟩) HM1.out hgne
          have HNN : Hid (N + (unseen s i).length * FK k + 1 = N + FK (k + 1)) := Lib.hid (by
            have h2 := HU.out
            rw [HNL.out, HK.out] at h2
            rw [← h2]
            show _ = N + (1 + (k + 1) * FK k)
            omega)
          have hmx : N + (unseen s i).length * FK k < maxLen := by
            have h1 := HNN.out
            have h2 : N + FK (k + 1) ≤ 1000000000000 := HN.out
            unfold maxLen; omega
          have HMX := Lib.hid hmx
          clear hmne hgne hown' hgood' hrng hmx
          go_wp2
          go_still_tail 6, (by kernel_rfl)
          change wpList _ _ _ _ _ wr.drew
          have hgd := grown_drew1 wr (some m)
          have HGD1 := Lib.hid hgd
          clear hk0 hk1 hm101 hgd
          generalize wr.drew = w5 at HOD HGD1 ⊢
          go_wp2_with ((at_mapUpdate; refine wpList_mapUpdate_own w5 rfl _ _ _ 46 rfl 59 3 keyedT Try.underlying46 _ m _ D' rfl HOD.out HMX.out _ _ _ rfl rfl (HKEY.out) _ [] (plainElem_int Try.underlying3 (by simp only [Lit.wf, IntKind.min, IntKind.max, IntKind.signed, IntKind.bits, Bool.and_eq_true, decide_eq_true_eq, if_true]; omega)) ?_; intro w6 hown6 hg6))
          go_ret
          exact ⟨rfl, (((HKG1.out.but (some m)).trans HGR.out).trans HGD1.out).trans hg6, ⟨_, by rw [← HNN.out]; exact hown6, HGD.out⟩⟩


end Go.Proofs.Ytfdhmijofpbkjaa
