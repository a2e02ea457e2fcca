/-
  Contract of the reference's LeastOrder. No condition but the bound on the length.
-/
import Derived.Test.YtfdhmijofpbkjaaLeastF
import Derived.Test.YtfdhmijofpbkjaaLeastR
namespace Go.Proofs.Ytfdhmijofpbkjaa
open Go.RowKit
set_option linter.unusedVariables false


set_option maxHeartbeats 8000000 in
theorem l1MostL_any (a : Int) (w : World) :
    Calls Try.prog 17 #[.int .i64 a, .int .i64 0] w fun e w' => e = .returned (.int .i64 (if a < 0 then 0 else a)) ∧ w = w' := by
  by_cases h : a < 0
  · rw [if_pos h]
    have hd : decide (0 < a) = false := decide_eq_false (by omega)
    have hd2 : decide (a < 0) = true := decide_eq_true h
    go_enter Try.func17, Try.ntmps17
    go_wp2
    go_ret
    exact ⟨rfl, rfl⟩
  · rw [if_neg h]
    have hd2 : decide (a < 0) = false := decide_eq_false h
    rcases (show a = 0 ∨ 0 < a by omega) with rfl | hp
    · go_enter Try.func17, Try.ntmps17
      go_wp2
      go_ret
      exact ⟨rfl, rfl⟩
    have hd3 : decide (0 < a) = true := decide_eq_true hp
    go_enter Try.func17, Try.ntmps17
    go_wp2
    go_ret
    exact ⟨rfl, rfl⟩
set_option maxRecDepth 100000 in
set_option maxHeartbeats 8000000 in
theorem specLeastOrder_any {A : Nat} (v : Value) (xs : List Int) (w : World) (hv : Own A w v xs) (hx : xs.length ≤ 1073741824) :
    Calls Try.prog 5 #[v] w fun e w' => ∃ u, e = .returned (.tuple #[u, .int .i64 (loI xs).2.1, .bool (loI xs).2.2]) ∧ Own w.heap.size w' u (loI xs).1 ∧ Below w.heap.size w w' := by
  have HV := Lib.hid hv
  have HO := Lib.hid (fun w' (h : Own A w' v xs) => l4Order_any v xs w' h hx)
  have HE : Hid (∀ W : World, w.heap.size ≤ W.heap.size → Own w.heap.size (W.alloc (.cells #[] 3)) (.slice (some ⟨W.heap.size, 0, none⟩) 0 0) []) := Lib.hid (fun W h => World.ownsRow_lit W #[] 0 h (Nat.zero_le _) rfl)
  by_cases hc : ordB xs = true
  · have e : loI xs = (intL (loAll (setL xs) (setL xs)).1, (if (loAll (setL xs) (setL xs)).2 < 0 then 0 else (loAll (setL xs) (setL xs)).2), true) := if_pos hc
    rw [e]
    rw [hc] at HO
    have hl := ordB_len xs hc
    have HR := Lib.hid (ordB_rng xs hc)
    have hs1 := setN_lt xs HR.out xs.length (Nat.le_refl _)
    have HS := Lib.hid (fun A' w' (h : Own A' w' v xs) => l4Set_any v xs w' h hl HR.out)
    have HSL : Hid (setL xs = bitsL (setN xs xs.length)) := Lib.hid rfl
    rw [HSL.out]
    generalize setN xs xs.length = s at HS hs1 HSL ⊢
    obtain ⟨res, hres⟩ : ∃ r, loAll (bitsL s) (bitsL s) = r := ⟨_, rfl⟩
    rw [hres]
    obtain ⟨rb, rl⟩ := res
    have HRES := Lib.hid hres
    have HM := Lib.hid (fun w => l1MostL_any rl w)
    show Calls _ _ _ _ (fun e w' => ∃ u, e = .returned (.tuple #[u, .int .i64 (if rl < 0 then 0 else rl), .bool true]) ∧ Own w.heap.size w' u (intL rb) ∧ Below w.heap.size w w')
    generalize (if rl < 0 then 0 else rl) = m at HM ⊢
    clear e hc hv hx hl hres
    go_enter Try.func5, Try.ntmps5
    go_wp2_with ((go_at_call 13; refine (HO.out _ HV.out).mono ?_; rintro e w1 ⟨rfl, hb1⟩))
    have HB1 := Lib.hid hb1
    have hsz1 := hb1.size
    have HV1 := Lib.hid (own_keep HV.out hb1)
    clear hb1
    refine (HS.out _ _ (own_keep HV1.out ((Below.refl _ _).alloc (Nat.le_refl _) _))).mono ?_
    rintro e w2 ⟨rfl, hb2⟩
    have HO2 : Hid (Own w.heap.size w2 (.slice (some ⟨w1.heap.size, 0, none⟩) 0 0) []) := Lib.hid (own_keep (HE.out w1 hsz1) hb2)
    have HB2 : Hid (Below w.heap.size w w2) := Lib.hid (bt (HB1.out.alloc hsz1 _) hb2)
    clear hb2
    go_wp2_with fail
    refine (l4Rest_any (-1) _ (by omega) (by omega)).mono ?_
    rintro e w3 ⟨g, R, rfl, hX, hK, hb3⟩
    have HO3 := Lib.hid (own_keep HO2.out hb3)
    have HB3 := Lib.hid (bt HB2.out hb3)
    have HF := Lib.hid (fun (start s0 : Nat) (W : World) (hs : start < 10) (h0 : s0 < 1024) (hb : Below w3.heap.size w3 W) => l4First_any (-1) start s0 g R W hs h0 (ownX_keep hX hb) hK)
    have hsz3 := HB3.out.size
    clear hX hK hb3 HB1 HB2 HO2
    go_wp2_with fail
    go_loopw [5, 6, 9] (fun ov lv kv wr => ∃ k : Nat, k ≤ 10 ∧ kv = .int .i64 k ∧ lv = .int .i64 (loAll (bitsL s) (below s k)).2 ∧ Own w.heap.size wr ov (intL (loAll (bitsL s) (below s k)).1) ∧ Below w3.heap.size w3 wr) (fun _ _ kv _ => 10 - (intOf kv).toNat)
    case atStart => exact ⟨0, by omega, rfl, rfl, HO3.out, Below.refl _ _⟩
    case round =>
      obtain ⟨k, hk, rfl, rfl, ho, hb⟩ := hrel
      have HO := Lib.hid ho
      have HB := Lib.hid hb
      have hwb := hb.size
      have hrng := lo_rng (bitsL s) (below s k) (bitsL_len s)
      clear ho hb
      by_cases hkl : k < 10
      · have hk0 : (k : Int) < 10 := by omega
        have hand := and_bit s k hs1 hkl
        cases hbit : s.testBit k with
        | false =>
          rw [hbit] at hand
          have hand' : bits .and .i64 ((s : Int) / 2 ^ k) 1 = 0 := hand
          have HN : Hid (loAll (bitsL s) (below s (k + 1)) = loAll (bitsL s) (below s k)) := Lib.hid (by rw [below_skip s k hbit])
          generalize loAll (bitsL s) (below s k) = acc at HO hrng HN ⊢
          clear hand hbit
          go_wp2
          go_roundw
          case rel => exact ⟨k + 1, by omega, by go_num, by rw [HN.out], by rw [HN.out]; exact HO.out, HB.out⟩
          case measure => simp [intOf]; omega
        | true =>
          have hxor := xor_bit s k hs1 hkl
          have hpw := pow_wrap k hkl
          rw [hbit] at hand
          have hand' : bits .and .i64 ((s : Int) / 2 ^ k) 1 = 1 := hand
          have hfl := bitsL_flip s k hbit
          have htl := flip_lt s hs1 k hkl hbit
          have HN := Lib.hid (lo_take s k hbit)
          generalize ht : s ^^^ 2 ^ k = t at hfl htl hxor
          have HFk := Lib.hid (fun W hb => HF.out k t W hkl (by omega) hb)
          rw [hfl] at HFk
          unfold loStep at HN
          generalize loAll (bitsL s) (below s k) = acc at HO hrng HN ⊢
          obtain ⟨ab, al⟩ := acc
          have hcl := cost_le (-1) _ ((bitsL s).erase k) k rfl
          have hel : ((bitsL s).erase k).length ≤ 10 := Nat.le_trans List.length_erase_le (bitsL_len s)
          generalize (bitsL s).erase k = re at HFk HN hcl hel
          generalize hcc : cost (-1) re k = c at HFk HN hcl
          have htI : (t : Int) < 1024 := by omega
          have hwr : w.heap.size ≤ wr.heap.size := Nat.le_trans hsz3 hwb
          clear hand hbit hfl ht hcc hrng
          by_cases hneg : al < 0
          · have hd1 : decide (al < 0) = true := decide_eq_true hneg
            rw [if_pos (.inl hneg)] at HN
            go_wp2_with fail
            refine (HFk.out _ HB.out).mono ?_
            rintro e w4 ⟨u, rfl, hr, hb4⟩
            go_wp2
            go_roundw
            case rel => exact ⟨k + 1, by omega, by go_num, by rw [HN.out], by rw [HN.out]; exact own_mono hr hwr, bt HB.out hb4⟩
            case measure => simp [intOf]; omega
          · have hd1 : decide (al < 0) = false := decide_eq_false hneg
            by_cases hlt2 : (c : Int) < al
            · have hd2 : decide ((c : Int) < al) = true := decide_eq_true hlt2
              rw [if_pos (.inr hlt2)] at HN
              go_wp2_with fail
              refine (HFk.out _ HB.out).mono ?_
              rintro e w4 ⟨u, rfl, hr, hb4⟩
              go_wp2
              go_roundw
              case rel => exact ⟨k + 1, by omega, by go_num, by rw [HN.out], by rw [HN.out]; exact own_mono hr hwr, bt HB.out hb4⟩
              case measure => simp [intOf]; omega
            · have hd2 : decide ((c : Int) < al) = false := decide_eq_false hlt2
              rw [if_neg (by rintro (h | h); exact hneg h; exact hlt2 h)] at HN
              go_wp2_with fail
              refine (HFk.out _ HB.out).mono ?_
              rintro e w4 ⟨u, rfl, hr, hb4⟩
              go_wp2
              go_roundw
              case rel => exact ⟨k + 1, by omega, by go_num, by rw [HN.out], by rw [HN.out]; exact own_keep HO.out hb4, bt HB.out hb4⟩
              case measure => simp [intOf]; omega
      · obtain rfl : k = 10 := by omega
        rw [below_all, HRES.out] at HO
        rw [below_all, HRES.out]
        clear hrng
        go_wp2_with ((go_at_call 17; refine (HM.out _).mono ?_; rintro e w9 ⟨rfl, rfl⟩))
        go_ret3
        exact ⟨_, rfl, HO.out, bt HB3.out HB.out⟩
  · have e : loI xs = ([], 0, false) := if_neg hc
    rw [e]
    have hcf : ordB xs = false := by simpa using hc
    rw [hcf] at HO
    clear e hc hcf hv hx
    go_enter Try.func5, Try.ntmps5
    go_wp2_with ((go_at_call 13; refine (HO.out _ HV.out).mono ?_; rintro e w1 ⟨rfl, hb1⟩))
    go_ret3
    exact ⟨_, rfl, HE.out w1 hb1.size, hb1.alloc hb1.size _⟩

end Go.Proofs.Ytfdhmijofpbkjaa
