/-
  Contract of the reference's LeastRing. No condition but the bound on the length.
-/
import Derived.Test.YtfdhmijofpbkjaaLeastO
namespace Go.Proofs.Ytfdhmijofpbkjaa
open Go.RowKit
set_option linter.unusedVariables false


set_option maxRecDepth 100000 in
set_option maxHeartbeats 8000000 in
theorem specLeastRing_any {A : Nat} (v : Value) (xs : List Int) (w : World) (hv : Own A w v xs) (hx : xs.length ≤ 1073741824) :
    Calls Try.prog 11 #[v] w fun e w' => ∃ u, e = .returned (.tuple #[u, .int .i64 (lrI xs).2.1, .bool (lrI xs).2.2]) ∧ Own w.heap.size w' u (lrI xs).1 ∧ Below w.heap.size w w' := by
  have HV := Lib.hid hv
  have HO := Lib.hid (fun w' (h : Own A w' v xs) => l4Order_any v xs w' h hx)
  have HE : Hid (∀ W : World, w.heap.size ≤ W.heap.size → Own w.heap.size (W.alloc (.cells #[] 3)) (.slice (some ⟨W.heap.size, 0, none⟩) 0 0) []) := Lib.hid (fun W h => World.ownsRow_lit W #[] 0 h (Nat.zero_le _) rfl)
  by_cases hc : ordB xs = true
  · have e : lrI xs = (intL (lrL (setL xs)).1, ((lrL (setL xs)).2 : Int), true) := if_pos hc
    rw [e]
    rw [hc] at HO
    have hl := ordB_len xs hc
    have HR := Lib.hid (ordB_rng xs hc)
    have hs1 := setN_lt xs HR.out xs.length (Nat.le_refl _)
    have HS := Lib.hid (fun A' w' (h : Own A' w' v xs) => l4Set_any v xs w' h hl HR.out)
    have HSL : Hid (setL xs = bitsL (setN xs xs.length)) := Lib.hid rfl
    rw [HSL.out]
    generalize setN xs xs.length = s at HS hs1 HSL ⊢
    obtain ⟨res, hres⟩ : ∃ r, lrL (bitsL s) = r := ⟨_, rfl⟩
    rw [hres]
    obtain ⟨rb, rl⟩ := res
    have HRES := Lib.hid hres
    show Calls _ _ _ _ (fun e w' => ∃ u, e = .returned (.tuple #[u, .int .i64 (rl : Int), .bool true]) ∧ Own w.heap.size w' u (intL rb) ∧ Below w.heap.size w w')
    clear e hc hv hx hl hres
    go_enter Try.func11, Try.ntmps11
    go_wp2_with ((go_at_call 13; refine (HO.out _ HV.out).mono ?_; rintro e w1 ⟨rfl, hb1⟩))
    refine (HS.out _ _ (own_keep HV.out hb1)).mono ?_
    rintro e w2 ⟨rfl, hb2⟩
    have HB2 : Hid (Below w.heap.size w w2) := Lib.hid (bt hb1 hb2)
    have hsz2 := HB2.out.size
    clear hb1 hb2
    go_wp2_with fail
    go_loopw [6] (fun kv wr => ∃ k : Nat, k ≤ 10 ∧ kv = .int .i64 k ∧ (∀ d, d < k → s.testBit d = false) ∧ Below w2.heap.size w2 wr) (fun kv _ => 10 - (intOf kv).toNat)
    case atStart => exact ⟨0, by omega, rfl, fun d hd => absurd hd (Nat.not_lt_zero _), Below.refl _ _⟩
    case round =>
      obtain ⟨k, hk, rfl, hlo, hb⟩ := hrel
      have HB := Lib.hid hb
      have HLO := Lib.hid hlo
      have hwb := hb.size
      clear hb hlo
      by_cases hkl : k < 10
      · have hk0 : (k : Int) < 10 := by omega
        have hand := and_bit s k hs1 hkl
        cases hbit : s.testBit k with
        | false =>
          rw [hbit] at hand
          have hand' : bits .and .i64 ((s : Int) / 2 ^ k) 1 = 0 := hand
          have HLO2 : Hid (∀ d, d < k + 1 → s.testBit d = false) := Lib.hid (fun d hd => by
            by_cases e : d = k
            · rw [e]; exact hbit
            · exact HLO.out d (by omega))
          clear hand hbit
          go_wp2
          go_roundw
          case rel => exact ⟨k + 1, by omega, by go_num, HLO2.out, HB.out⟩
          case measure => simp [intOf]; omega
        | true =>
          have hxor := xor_bit s k hs1 hkl
          have hpw := pow_wrap k hkl
          rw [hbit] at hand
          have hand' : bits .and .i64 ((s : Int) / 2 ^ k) 1 = 1 := hand
          have hfl := bitsL_flip s k hbit
          have htl := flip_lt s hs1 k hkl hbit
          have hfirst := lr_first s k hkl hbit HLO.out
          rw [HRES.out] at hfirst
          obtain ⟨hrb, hrl⟩ := Prod.mk.inj hfirst
          generalize ht : s ^^^ 2 ^ k = t at hfl htl hxor
          have HT1 := Lib.hid (fun W => l4Rest_any (k : Int) W (by omega) (by omega))
          have HT2 := Lib.hid (fun (g : Nat) (R : List Int) (B0 : Nat) (W : World) (hX : OwnX B0 W (.slice (some ⟨g, 0, none⟩) 1024 1024) 1024 R) (hK : okT (k : Int) 10240 R) => l4First_any (k : Int) k t g R W hkl (by omega) hX hK)
          rw [hfl, ← hrb, ← hrl] at HT2
          have htI : (t : Int) < 1024 := by omega
          have hwr : w.heap.size ≤ wr.heap.size := Nat.le_trans hsz2 hwb
          clear hand hbit hfl ht hfirst hrb hrl
          go_wp2
          go_region_held3 (fun _ => True) (trivial) (first | (go_at_call 15; refine (HT1.out _).mono ?_; rintro e w3 ⟨g, R, rfl, hX, hK, hb3⟩) | (go_at_call 16; refine (HT2.out _ _ _ _ hX hK).mono ?_; rintro e w4 ⟨u, rfl, hr, hb4⟩))
          go_wp2
          go_ret3
          have hb3' : Below wr.heap.size wr w3 := (below_drew1 wr).trans hb3
          exact ⟨_, rfl, own_mono hr (Nat.le_trans hwr hb3'.size), bt HB2.out (bt HB.out (bt hb3' hb4))⟩
      · obtain rfl : k = 10 := by omega
        have hn := lr_none s HLO.out
        have hres := HRES.out
        rw [hn] at hres
        obtain ⟨rfl, rfl⟩ := Prod.mk.inj hres
        have hwr : w.heap.size ≤ wr.heap.size := Nat.le_trans hsz2 hwb
        clear hres hn
        go_wp2
        go_ret3
        exact ⟨_, rfl, HE.out wr hwr, (bt HB2.out HB.out).alloc hwr _⟩
  · have e : lrI xs = ([], 0, false) := if_neg hc
    rw [e]
    have hcf : ordB xs = false := by simpa using hc
    rw [hcf] at HO
    clear e hc hcf hv hx
    go_enter Try.func11, Try.ntmps11
    go_wp2_with ((go_at_call 13; refine (HO.out _ HV.out).mono ?_; rintro e w1 ⟨rfl, hb1⟩))
    go_ret3
    exact ⟨_, rfl, HE.out w1 hb1.size, hb1.alloc hb1.size _⟩

end Go.Proofs.Ytfdhmijofpbkjaa
