/-
  The law FnCounters returns true. No condition.
-/
import Derived.Test.YtpijpelmebaalaaCountersP
import Derived.Test.YtpijpelmebaalaaDrawKs
import Derived.Test.YtpijpelmebaalaaRInt
import Derived.Test.YtpijpelmebaalaaRSev
import Derived.Test.YtpijpelmebaalaaLOver
import Derived.Test.YtpijpelmebaalaaLMost
import Derived.Test.YtpijpelmebaalaaLRun
import Derived.Test.YtpijpelmebaalaaLStep
import Derived.Test.YtpijpelmebaalaaLRow
import Derived.Test.YtpijpelmebaalaaLLight
import Derived.Test.YtpijpelmebaalaaWear
import Derived.Test.YtpijpelmebaalaaWear2
import Derived.Test.YtpijpelmebaalaaNum
import Derived.Deep.RegionWith
import Derived.Deep.DeepCutAuto
namespace Go.Proofs.Ytpijpelmebaalaa
open Go.RowKit
set_option linter.unusedVariables false

theorem own_slice {B : Nat} {w : World} {v : Value} {xs : List Int} (h : Own B w v xs) : ∃ ad cap, v = .slice ad xs.length cap := by
  rcases own_cases h with ⟨rfl, rfl⟩ | ⟨g, cap, rfl, _⟩
  · exact ⟨none, 0, rfl⟩
  · exact ⟨_, _, rfl⟩
theorem wf64 (n : Int) (h0 : -9223372036854775808 ≤ n) (h1 : n ≤ 9223372036854775807) : (Lit.int .i64 n).wf = true := by
  simp only [Lit.wf, IntKind.min, IntKind.max, IntKind.signed, IntKind.bits, Bool.and_eq_true, decide_eq_true_eq, if_true]; omega
theorem rBig_no (a : Option Addr) (len cap : Nat) (w : World) (h : len ≤ 65536) :
    Calls Try.prog 43 #[.slice a len cap] w fun e w' => e = .returned (.bool false) ∧ w = w' := by
  have hd : decide ((65536 : Int) < (len : Int)) = false := decide_eq_false (by omega)
  go_enter Try.func43, Try.ntmps43
  go_wp2
  go_ret
  exact ⟨rfl, rfl⟩
theorem rBig_yes (a : Option Addr) (len cap : Nat) (w : World) (h : ¬ len ≤ 65536) (hml : len ≤ maxLen) :
    Calls Try.prog 43 #[.slice a len cap] w fun e w' => e = .returned (.bool true) ∧ w = w' := by
  have hd : decide ((65536 : Int) < (len : Int)) = true := decide_eq_true (by omega)
  go_enter Try.func43, Try.ntmps43
  go_wp2
  go_ret
  exact ⟨rfl, rfl⟩
theorem keepB {P : Program} {f : FuncId} {args : Array Value} {R : Value} {w0 : World} (h : ∀ w, Calls P f args w fun e w' => e = .returned R ∧ Below w.heap.size w w') : Hid (∀ w, Below w0.heap.size w0 w → Calls P f args w fun e w' => e = .returned R ∧ Below w0.heap.size w0 w') := Lib.hid (fun w hB => (h w).mono fun e w' ⟨h1, h2⟩ => ⟨h1, bt hB h2⟩)

set_option maxRecDepth 20000 in
set_option maxHeartbeats 16000000 in
theorem walkFnCounters (a : Option Addr) (len cap : Nat) (zs : List Int) (w0 : World) (ha : InRow .u8 w0 a len cap zs) :
    Calls Try.prog 13 #[.slice a len cap] w0 fun e w' => e = .returned (.bool true) ∧ Below w0.heap.size w0 w' := by
  have hb0 := bytes_of ha
  have hml : len ≤ maxLen := by
    rcases ha with ⟨rfl, rfl, rfl, rfl⟩ | ⟨x, rfl, hlc, hmx, hz, hc, hw⟩
    · exact Nat.zero_le _
    · omega
  by_cases hl : len ≤ 65536
  · have HY0 := Lib.hid hb0
    have HB := Lib.hid (Below.refl w0.heap.size w0)
    have KY : Hid (∀ w, Below w0.heap.size w0 w → Bytes w.heap.size w a len) := Lib.hid (fun w h => bytes_go hb0 h)
    clear hb0 ha hml
    go_enter Try.func13, Try.ntmps13
    go_wp2_with ((go_at_call 43; refine (rBig_no a len cap _ hl).mono ?_; rintro e w1 ⟨rfl, rfl⟩))
    refine (drawRun_any a len cap _ HY0.out hl).mono ?_
    rintro e w1 ⟨f, s, k, rfl, hf, hs, hk, hb⟩
    have HB := Lib.hid (bt HB.out hb)
    clear hb HY0
    obtain ⟨run, ok, nr, W, light, two, e1, e2, e3, hn6, htwo, hW, hone⟩ := ctrFacts f s k
    have K1 := Lib.hid (fun w => implRunChanges_any f s k w)
    have K2 := Lib.hid (fun w => specRunChanges_any f s k w)
    have K3 := Lib.hid (fun w => implWearOf_any f s k w (wf64 f (by omega) (by omega)) (wf64 s (by omega) (by omega)) (wf64 k (by omega) (by omega)))
    have K4 := Lib.hid (fun w => specWearOf_any f s k w (wf64 f (by omega) (by omega)) (wf64 s (by omega) (by omega)) (wf64 k (by omega) (by omega)))
    have K5 := Lib.hid (fun w => implLightOf_any f s k w)
    have K6 := Lib.hid (fun w => specLightOf_any f s k w)
    rw [e1] at K1 K2
    rw [e2] at K3 K4
    rw [e3] at K5 K6
    have HWF := Lib.hid hW
    have HONE := Lib.hid hone
    have HN6 := Lib.hid hn6
    clear e1 e2 e3 hW hone hf hs hk hn6
    cases ok with
    | true =>
      obtain rfl : two = decide (0 < s) := htwo
      go_wp2_with fail
      refine (K1.out _).mono ?_
      rintro e w2 ⟨rfl, hb⟩
      have HB := Lib.hid (bt HB.out hb)
      go_wp2_with fail
      refine (K2.out _).mono ?_
      rintro e w3 ⟨rfl, hb⟩
      have HB := Lib.hid (bt HB.out hb)
      go_wp2_with fail
      refine (K3.out _).mono ?_
      rintro e w4 ⟨wear, rfl, hr, hb⟩
      have HB := Lib.hid (bt HB.out hb)
      have HW := Lib.hid hr
      clear hb hr
      go_wp2_with fail
      refine (K4.out _).mono ?_
      rintro e w5 ⟨want, rfl, hr, hb⟩
      have HB := Lib.hid (bt HB.out hb)
      have HW := Lib.hid (ownR_keep HW.out hb)
      have HV := Lib.hid hr
      clear hb hr
      go_wp2_with fail
      refine (rSevens_same _ _ _ _ _ HW.out HV.out HN6.out).mono ?_
      rintro e w6 ⟨rfl, hb⟩
      have HB := Lib.hid (bt HB.out hb)
      have HW := Lib.hid (ownR_keep HW.out hb)
      clear HV
      go_wp2_with fail
      refine (K5.out _).mono ?_
      rintro e w7 ⟨rfl, hb⟩
      have HB := Lib.hid (bt HB.out hb)
      have HW := Lib.hid (ownR_keep HW.out hb)
      go_wp2_with fail
      refine (K6.out _).mono ?_
      rintro e w8 ⟨rfl, hb⟩
      have HB := Lib.hid (bt HB.out hb)
      have HW := Lib.hid (ownR_keep HW.out hb)
      clear K1 K2 K3 K4 K5 K6
      go_wp2_with fail
      refine (drawStep_any a len cap _ (KY.out _ HB.out) hl).mono ?_
      rintro e w9 ⟨n, c, rfl, _, _, hb⟩
      have HB := Lib.hid (bt HB.out hb)
      have HW := Lib.hid (ownR_keep HW.out hb)
      clear hb
      obtain ⟨step, three, xs, e1, e2, e3, hx6, hst⟩ := stepFacts n c
      have K1 := Lib.hid (fun w => implStepChanges_any n c w)
      have K2 := Lib.hid (fun w => specStepChanges_any n c w)
      have K3 := Lib.hid (fun w => implCounterRow_any n c w)
      have K4 := Lib.hid (fun w => specCounterRow_any n c w)
      have HE1 := Lib.hid e1
      rw [e1] at K1 K2
      rw [e2, e3] at K3 K4
      have HX6 : Hid (xs.length ≤ 1073741824) := Lib.hid (by omega)
      have HST := Lib.hid hst
      clear e1 e2 e3 hx6 hst
      go_wp2_with fail
      refine (K1.out _).mono ?_
      rintro e w10 ⟨rfl, hb⟩
      have HB := Lib.hid (bt HB.out hb)
      have HW := Lib.hid (ownR_keep HW.out hb)
      go_wp2_with fail
      refine (K2.out _).mono ?_
      rintro e w11 ⟨rfl, hb⟩
      have HB := Lib.hid (bt HB.out hb)
      have HW := Lib.hid (ownR_keep HW.out hb)
      go_wp2_with fail
      refine (K3.out _).mono ?_
      rintro e w12 ⟨row, rfl, hr, hb⟩
      obtain ⟨ad, rcap, rfl⟩ := own_slice hr
      have HB := Lib.hid (bt HB.out hb)
      have HW := Lib.hid (ownR_keep HW.out hb)
      have HR := Lib.hid hr
      clear hb hr
      go_wp2_with fail
      refine (K4.out _).mono ?_
      rintro e w13 ⟨want2, rfl, hr, hb⟩
      have HB := Lib.hid (bt HB.out hb)
      have HW := Lib.hid (ownR_keep HW.out hb)
      have HR := Lib.hid (own_keep HR.out hb)
      have HS := Lib.hid hr
      clear hb hr
      go_wp2_with fail
      refine (rInts_any _ _ xs xs _ HR.out HS.out HX6.out HX6.out).mono ?_
      rintro e w14 ⟨rfl, hb⟩
      have HB := Lib.hid (bt HB.out hb)
      have HW := Lib.hid (ownR_keep HW.out hb)
      have HR := Lib.hid (own_keep HR.out hb)
      rw [decide_eq_true (rfl : xs = xs)]
      clear HS K1 K2 K3 K4
      go_wp2_with fail
      refine (drawMost_any a len cap _ (KY.out _ HB.out) hl).mono ?_
      rintro e w15 ⟨x, rfl, _, hb⟩
      have HB := Lib.hid (bt HB.out hb)
      have HW := Lib.hid (ownR_keep HW.out hb)
      have HR := Lib.hid (own_keep HR.out hb)
      clear hb
      obtain ⟨first, most, five, e1, hmo⟩ := mostAll x
      have K1 := Lib.hid (fun w => implMostChanges_any x w)
      have K2 := Lib.hid (fun w => specMostChanges_any x w)
      rw [e1] at K1 K2
      have HMO := Lib.hid hmo
      clear e1 hmo
      go_wp2_with fail
      refine (K1.out _).mono ?_
      rintro e w16 ⟨rfl, hb⟩
      have HB := Lib.hid (bt HB.out hb)
      have HW := Lib.hid (ownR_keep HW.out hb)
      have HR := Lib.hid (own_keep HR.out hb)
      go_wp2_with fail
      refine (K2.out _).mono ?_
      rintro e w17 ⟨rfl, hb⟩
      have HB := Lib.hid (bt HB.out hb)
      have HW := Lib.hid (ownR_keep HW.out hb)
      have HR := Lib.hid (own_keep HR.out hb)
      clear K1 K2
      go_wp2_with fail
      refine (drawOver_any a len cap _ (KY.out _ HB.out) hl).mono ?_
      rintro e w18 ⟨at0, y, ch, rfl, _, _, _, hb⟩
      have HB := Lib.hid (bt HB.out hb)
      have HW := Lib.hid (ownR_keep HW.out hb)
      have HR := Lib.hid (own_keep HR.out hb)
      clear hb
      obtain ⟨over, six, e1, hov⟩ := overAll at0 y ch
      have K1 := Lib.hid (fun w => implFirstOver_any at0 y ch w)
      have K2 := Lib.hid (fun w => specFirstOver_any at0 y ch w)
      rw [e1] at K1 K2
      have HOV := Lib.hid hov
      clear e1 hov
      go_wp2_with fail
      refine (K1.out _).mono ?_
      rintro e w19 ⟨rfl, hb⟩
      have HB := Lib.hid (bt HB.out hb)
      have HW := Lib.hid (ownR_keep HW.out hb)
      have HR := Lib.hid (own_keep HR.out hb)
      go_wp2_with fail
      refine (K2.out _).mono ?_
      rintro e wA ⟨rfl, hb⟩
      have HB := Lib.hid (bt HB.out hb)
      have HW := Lib.hid (ownR_keep HW.out hb)
      have HR := Lib.hid (own_keep HR.out hb)
      clear hb K1 K2
      go_upto_if 250 with fail
      go_cut [39, 41] from 225 to 281 (fun s39 s41 wx => Below wA.heap.size wA wx)
      case first =>
        have hB := Below.refl wA.heap.size wA
        cases six with
        | false =>
          go_wp2_with fail
          go_meet
          case rel => exact hB
        | true =>
          obtain ⟨o0, o1, ⟨own, r1, r2⟩, hless⟩ := HOV.out rfl
          have L1 := keepB (w0 := wA) (fun w => implRunChanges_any at0 over y w)
          rw [r1] at L1
          have hd1 : decide (own < ch) = false := decide_eq_false (by omega)
          by_cases h0 : 0 < over
          · obtain ⟨less, r3, r4⟩ := hless h0
            have L2 := keepB (w0 := wA) (fun w => implRunChanges_any at0 (over - 1) y w)
            rw [r3] at L2
            have hd2 : decide (ch ≤ less) = false := decide_eq_false (by omega)
            have hd3 : decide (0 < over) = true := decide_eq_true h0
            clear r1 r2 r3 r4 hless
            go_wp2_with (first | (go_at_call_of 23 (Value.int IntKind.i64 over); refine (L1.out _ hB).mono ?_; rintro e v1 ⟨rfl, hB⟩) | (go_at_call 23; refine (L2.out _ hB).mono ?_; rintro e v2 ⟨rfl, hB⟩))
            go_meet
            case rel => exact hB
          · have hd3 : decide (0 < over) = false := decide_eq_false h0
            clear r1 r2 hless
            go_wp2_with (first | (go_at_call 23; refine (L1.out _ hB).mono ?_; rintro e v1 ⟨rfl, hB⟩))
            go_meet
            case rel => exact hB
      case rest =>
        rename World => wB
        have HB := Lib.hid (bt HB.out hcut)
        have HW := Lib.hid (ownR_keep HW.out hcut)
        have HR := Lib.hid (own_keep HR.out hcut)
        clear hcut HOV
        cases three with
        | false =>
          go_upto_if 282 with fail
          go_cut [31, 34] from 203 to 308 (fun s31 s34 wx => Below wB.heap.size wB wx)
          case first =>
            have hB := Below.refl wB.heap.size wB
            cases five with
            | false =>
              go_wp2_with fail
              go_meet
              case rel => exact hB
            | true =>
              obtain ⟨q1, q2⟩ := HMO.out rfl
              have L1 := keepB (w0 := wB) (fun w => implStepChanges_any first x w)
              rw [q1] at L1
              clear q1 q2
              go_wp2_with (first | (go_at_call 21; refine (L1.out _ hB).mono ?_; rintro e v1 ⟨rfl, hB⟩))
              go_meet
              case rel => exact hB
          case rest =>
            rename World => wC
            have HB := Lib.hid (bt HB.out hcut)
            have HW := Lib.hid (ownR_keep HW.out hcut)
            have HR := Lib.hid (own_keep HR.out hcut)
            clear hcut HMO HE1
            obtain ⟨hn1, hlen, hsum, hup⟩ := HWF.out (by first | trivial | rfl)
            have hone := HONE.out
            rcases ownR_cases HW.out with ⟨_, hz, _⟩ | ⟨g, cap, rfl, hg1, hg2, hg3, hg4, hgc, hgf⟩
            · omega
            · have HC : Hid (∀ j, j < nr * 7 → wC.cell? ⟨g, j, none⟩ = some (.int .i64 (W.getD j 0))) := hgc
              have HU := Lib.hid hup
              have HT := Lib.hid (take_sum W)
              have HL := Lib.hid hlen
              have HSUM := Lib.hid hsum
              have HO := Lib.hid hone
              have hn6 := HN6.out
              clear hgc hgf hup hlen hsum hone hg1 hg2 HWF HONE HW
              go_wp2_with fail
              go_loopw [50, 51] (fun sv iv wr => ∃ i q : Nat, i ≤ nr ∧ iv = .int .i64 i ∧ sv = .int .i64 (W.take (i * 7)).sum ∧ wr = wC.drewN q) (fun _ iv _ => nr - (intOf iv).toNat)
              case atStart => exact ⟨0, 0, by omega, rfl, rfl, rfl⟩
              case round =>
                obtain ⟨i, q, hi, rfl, rfl, rfl⟩ := hrel
                by_cases hlt : i < nr
                · go_wp2
                  go_loopw [50, 52] (fun sv jv wr => ∃ j q : Nat, j ≤ 7 ∧ jv = .int .i64 j ∧ sv = .int .i64 (W.take (i * 7 + j)).sum ∧ wr = wC.drewN q) (fun _ jv _ => 7 - (intOf jv).toNat)
                  case atStart => exact ⟨0, q, by omega, rfl, rfl, rfl⟩
                  case round =>
                    obtain ⟨j, q, hj, rfl, rfl, rfl⟩ := hrel
                    by_cases hjl : j < 7
                    · have hcell := HC.out (i * 7 + j) (by omega)
                      have hS1 := HT.out (i * 7 + j) (by rw [HL.out]; omega)
                      obtain ⟨b0, b1, b2, b3⟩ := HU.out (i * 7 + j) (by rw [HL.out]; omega)
                      generalize W.getD (i * 7 + j) 0 = v at hcell hS1 b2 b3
                      generalize (W.take (i * 7 + j)).sum = S at hS1 b0 b1 ⊢
                      have HS1 := Lib.hid hS1
                      clear hS1
                      have hi0 : (i : Int) < (nr : Int) := by omega
                      have hj0 : (j : Int) < 7 := by omega
                      go_wp2
                      go_roundw
                      case rel => exact ⟨j + 1, q, by omega, by go_num, by rw [← Nat.add_assoc, HS1.out], rfl⟩
                      case measure => simp [intOf]; omega
                    · obtain rfl : j = 7 := by omega
                      go_wp2
                      go_roundw
                      case rel => exact ⟨i + 1, q, by omega, by go_num, by rw [show (i + 1) * 7 = i * 7 + 7 by omega], rfl⟩
                      case measure => simp [intOf]; omega
                · have hfin : (W.take (i * 7)).sum = run := by
                    rw [List.take_of_length_le (by rw [HL.out]; omega)]; exact HSUM.out
                  rw [hfin]
                  obtain rfl : i = nr := by omega
                  clear hfin
                  have hB : Below wC.heap.size wC (wC.drewN q) := below_drewN _ _
                  by_cases hs1 : s = 1
                  · have L1 := keepB (w0 := wC) (fun w => implStepChanges_any f k w)
                    rw [HO.out hs1 (by first | trivial | rfl)] at L1
                    have hd1 : (s == 1) = true := by simp [hs1]
                    clear hs1
                    go_wp2_with (first | (go_at_call 21; refine (L1.out _ hB).mono ?_; rintro e v1 ⟨rfl, hB⟩))
                    go_ret
                    exact ⟨by first | rfl | simp, bt HB.out hB⟩
                  · have hd1 : (s == 1) = false := by simp [hs1]
                    clear hs1
                    go_wp2
                    go_ret
                    exact ⟨by first | rfl | simp, bt HB.out hB⟩
        | true =>
          go_upto_if 282 with fail
          go_cut [31, 34] from 203 to 308 (fun s31 s34 wx => Below wB.heap.size wB wx)
          case first =>
            have hB := Below.refl wB.heap.size wB
            cases five with
            | false =>
              go_wp2_with fail
              go_meet
              case rel => exact hB
            | true =>
              obtain ⟨q1, q2⟩ := HMO.out rfl
              have L1 := keepB (w0 := wB) (fun w => implStepChanges_any first x w)
              rw [q1] at L1
              have q3 := q2 n
              by_cases hcx : c = x
              · have hd1 : (c == x) = true := by simp [hcx]
                have hd2 : decide (most < step) = false := by
                  have := HE1.out
                  rw [hcx] at this
                  rw [this] at q3
                  have q4 : step ≤ most := by simpa using q3
                  exact decide_eq_false (by omega)
                clear q1 q2 q3 hcx
                go_wp2_with (first | (go_at_call 21; refine (L1.out _ hB).mono ?_; rintro e v1 ⟨rfl, hB⟩))
                go_meet
                case rel => exact hB
              · have hd1 : (c == x) = false := by simp [hcx]
                clear q1 q2 q3 hcx
                go_wp2_with (first | (go_at_call 21; refine (L1.out _ hB).mono ?_; rintro e v1 ⟨rfl, hB⟩))
                go_meet
                case rel => exact hB
          case rest =>
            rename World => wC
            have HB := Lib.hid (bt HB.out hcut)
            have HW := Lib.hid (ownR_keep HW.out hcut)
            have HR := Lib.hid (own_keep HR.out hcut)
            clear hcut HMO HE1
            obtain ⟨q1, q2⟩ := HST.out rfl
            have hd9 : ((xs.length : Int) == c) = true := by simp [q2]
            clear q2
            go_wp2_with fail
            refine (implNumberOf_any _ xs _ HR.out HX6.out).mono ?_
            rintro e wD ⟨rfl, hb⟩
            rw [q1]
            have HB := Lib.hid (bt HB.out hb)
            have HW := Lib.hid (ownR_keep HW.out hb)
            clear hb q1 HST HR
            obtain ⟨hn1, hlen, hsum, hup⟩ := HWF.out (by first | trivial | rfl)
            have hone := HONE.out
            rcases ownR_cases HW.out with ⟨_, hz, _⟩ | ⟨g, cap, rfl, hg1, hg2, hg3, hg4, hgc, hgf⟩
            · omega
            · have HC : Hid (∀ j, j < nr * 7 → wD.cell? ⟨g, j, none⟩ = some (.int .i64 (W.getD j 0))) := hgc
              have HU := Lib.hid hup
              have HT := Lib.hid (take_sum W)
              have HL := Lib.hid hlen
              have HSUM := Lib.hid hsum
              have HO := Lib.hid hone
              have hn6 := HN6.out
              clear hgc hgf hup hlen hsum hone hg1 hg2 HWF HONE HW
              go_wp2_with fail
              go_loopw [50, 51] (fun sv iv wr => ∃ i q : Nat, i ≤ nr ∧ iv = .int .i64 i ∧ sv = .int .i64 (W.take (i * 7)).sum ∧ wr = wD.drewN q) (fun _ iv _ => nr - (intOf iv).toNat)
              case atStart => exact ⟨0, 0, by omega, rfl, rfl, rfl⟩
              case round =>
                obtain ⟨i, q, hi, rfl, rfl, rfl⟩ := hrel
                by_cases hlt : i < nr
                · go_wp2
                  go_loopw [50, 52] (fun sv jv wr => ∃ j q : Nat, j ≤ 7 ∧ jv = .int .i64 j ∧ sv = .int .i64 (W.take (i * 7 + j)).sum ∧ wr = wD.drewN q) (fun _ jv _ => 7 - (intOf jv).toNat)
                  case atStart => exact ⟨0, q, by omega, rfl, rfl, rfl⟩
                  case round =>
                    obtain ⟨j, q, hj, rfl, rfl, rfl⟩ := hrel
                    by_cases hjl : j < 7
                    · have hcell := HC.out (i * 7 + j) (by omega)
                      have hS1 := HT.out (i * 7 + j) (by rw [HL.out]; omega)
                      obtain ⟨b0, b1, b2, b3⟩ := HU.out (i * 7 + j) (by rw [HL.out]; omega)
                      generalize W.getD (i * 7 + j) 0 = v at hcell hS1 b2 b3
                      generalize (W.take (i * 7 + j)).sum = S at hS1 b0 b1 ⊢
                      have HS1 := Lib.hid hS1
                      clear hS1
                      have hi0 : (i : Int) < (nr : Int) := by omega
                      have hj0 : (j : Int) < 7 := by omega
                      go_wp2
                      go_roundw
                      case rel => exact ⟨j + 1, q, by omega, by go_num, by rw [← Nat.add_assoc, HS1.out], rfl⟩
                      case measure => simp [intOf]; omega
                    · obtain rfl : j = 7 := by omega
                      go_wp2
                      go_roundw
                      case rel => exact ⟨i + 1, q, by omega, by go_num, by rw [show (i + 1) * 7 = i * 7 + 7 by omega], rfl⟩
                      case measure => simp [intOf]; omega
                · have hfin : (W.take (i * 7)).sum = run := by
                    rw [List.take_of_length_le (by rw [HL.out]; omega)]; exact HSUM.out
                  rw [hfin]
                  obtain rfl : i = nr := by omega
                  clear hfin
                  have hB : Below wD.heap.size wD (wD.drewN q) := below_drewN _ _
                  by_cases hs1 : s = 1
                  · have L1 := keepB (w0 := wD) (fun w => implStepChanges_any f k w)
                    rw [HO.out hs1 (by first | trivial | rfl)] at L1
                    have hd1 : (s == 1) = true := by simp [hs1]
                    clear hs1
                    go_wp2_with (first | (go_at_call 21; refine (L1.out _ hB).mono ?_; rintro e v1 ⟨rfl, hB⟩))
                    go_ret
                    exact ⟨by first | rfl | simp, bt HB.out hB⟩
                  · have hd1 : (s == 1) = false := by simp [hs1]
                    clear hs1
                    go_wp2
                    go_ret
                    exact ⟨by first | rfl | simp, bt HB.out hB⟩
    | false =>
      obtain rfl : two = false := htwo
      go_wp2_with fail
      refine (K1.out _).mono ?_
      rintro e w2 ⟨rfl, hb⟩
      have HB := Lib.hid (bt HB.out hb)
      go_wp2_with fail
      refine (K2.out _).mono ?_
      rintro e w3 ⟨rfl, hb⟩
      have HB := Lib.hid (bt HB.out hb)
      go_wp2_with fail
      refine (K3.out _).mono ?_
      rintro e w4 ⟨wear, rfl, hr, hb⟩
      have HB := Lib.hid (bt HB.out hb)
      have HW := Lib.hid hr
      clear hb hr
      go_wp2_with fail
      refine (K4.out _).mono ?_
      rintro e w5 ⟨want, rfl, hr, hb⟩
      have HB := Lib.hid (bt HB.out hb)
      have HW := Lib.hid (ownR_keep HW.out hb)
      have HV := Lib.hid hr
      clear hb hr
      go_wp2_with fail
      refine (rSevens_same _ _ _ _ _ HW.out HV.out HN6.out).mono ?_
      rintro e w6 ⟨rfl, hb⟩
      have HB := Lib.hid (bt HB.out hb)
      have HW := Lib.hid (ownR_keep HW.out hb)
      clear HV
      go_wp2_with fail
      refine (K5.out _).mono ?_
      rintro e w7 ⟨rfl, hb⟩
      have HB := Lib.hid (bt HB.out hb)
      have HW := Lib.hid (ownR_keep HW.out hb)
      go_wp2_with fail
      refine (K6.out _).mono ?_
      rintro e w8 ⟨rfl, hb⟩
      have HB := Lib.hid (bt HB.out hb)
      have HW := Lib.hid (ownR_keep HW.out hb)
      clear K1 K2 K3 K4 K5 K6
      go_wp2_with fail
      refine (drawStep_any a len cap _ (KY.out _ HB.out) hl).mono ?_
      rintro e w9 ⟨n, c, rfl, _, _, hb⟩
      have HB := Lib.hid (bt HB.out hb)
      have HW := Lib.hid (ownR_keep HW.out hb)
      clear hb
      obtain ⟨step, three, xs, e1, e2, e3, hx6, hst⟩ := stepFacts n c
      have K1 := Lib.hid (fun w => implStepChanges_any n c w)
      have K2 := Lib.hid (fun w => specStepChanges_any n c w)
      have K3 := Lib.hid (fun w => implCounterRow_any n c w)
      have K4 := Lib.hid (fun w => specCounterRow_any n c w)
      have HE1 := Lib.hid e1
      rw [e1] at K1 K2
      rw [e2, e3] at K3 K4
      have HX6 : Hid (xs.length ≤ 1073741824) := Lib.hid (by omega)
      have HST := Lib.hid hst
      clear e1 e2 e3 hx6 hst
      go_wp2_with fail
      refine (K1.out _).mono ?_
      rintro e w10 ⟨rfl, hb⟩
      have HB := Lib.hid (bt HB.out hb)
      have HW := Lib.hid (ownR_keep HW.out hb)
      go_wp2_with fail
      refine (K2.out _).mono ?_
      rintro e w11 ⟨rfl, hb⟩
      have HB := Lib.hid (bt HB.out hb)
      have HW := Lib.hid (ownR_keep HW.out hb)
      go_wp2_with fail
      refine (K3.out _).mono ?_
      rintro e w12 ⟨row, rfl, hr, hb⟩
      obtain ⟨ad, rcap, rfl⟩ := own_slice hr
      have HB := Lib.hid (bt HB.out hb)
      have HW := Lib.hid (ownR_keep HW.out hb)
      have HR := Lib.hid hr
      clear hb hr
      go_wp2_with fail
      refine (K4.out _).mono ?_
      rintro e w13 ⟨want2, rfl, hr, hb⟩
      have HB := Lib.hid (bt HB.out hb)
      have HW := Lib.hid (ownR_keep HW.out hb)
      have HR := Lib.hid (own_keep HR.out hb)
      have HS := Lib.hid hr
      clear hb hr
      go_wp2_with fail
      refine (rInts_any _ _ xs xs _ HR.out HS.out HX6.out HX6.out).mono ?_
      rintro e w14 ⟨rfl, hb⟩
      have HB := Lib.hid (bt HB.out hb)
      have HW := Lib.hid (ownR_keep HW.out hb)
      have HR := Lib.hid (own_keep HR.out hb)
      rw [decide_eq_true (rfl : xs = xs)]
      clear HS K1 K2 K3 K4
      go_wp2_with fail
      refine (drawMost_any a len cap _ (KY.out _ HB.out) hl).mono ?_
      rintro e w15 ⟨x, rfl, _, hb⟩
      have HB := Lib.hid (bt HB.out hb)
      have HW := Lib.hid (ownR_keep HW.out hb)
      have HR := Lib.hid (own_keep HR.out hb)
      clear hb
      obtain ⟨first, most, five, e1, hmo⟩ := mostAll x
      have K1 := Lib.hid (fun w => implMostChanges_any x w)
      have K2 := Lib.hid (fun w => specMostChanges_any x w)
      rw [e1] at K1 K2
      have HMO := Lib.hid hmo
      clear e1 hmo
      go_wp2_with fail
      refine (K1.out _).mono ?_
      rintro e w16 ⟨rfl, hb⟩
      have HB := Lib.hid (bt HB.out hb)
      have HW := Lib.hid (ownR_keep HW.out hb)
      have HR := Lib.hid (own_keep HR.out hb)
      go_wp2_with fail
      refine (K2.out _).mono ?_
      rintro e w17 ⟨rfl, hb⟩
      have HB := Lib.hid (bt HB.out hb)
      have HW := Lib.hid (ownR_keep HW.out hb)
      have HR := Lib.hid (own_keep HR.out hb)
      clear K1 K2
      go_wp2_with fail
      refine (drawOver_any a len cap _ (KY.out _ HB.out) hl).mono ?_
      rintro e w18 ⟨at0, y, ch, rfl, _, _, _, hb⟩
      have HB := Lib.hid (bt HB.out hb)
      have HW := Lib.hid (ownR_keep HW.out hb)
      have HR := Lib.hid (own_keep HR.out hb)
      clear hb
      obtain ⟨over, six, e1, hov⟩ := overAll at0 y ch
      have K1 := Lib.hid (fun w => implFirstOver_any at0 y ch w)
      have K2 := Lib.hid (fun w => specFirstOver_any at0 y ch w)
      rw [e1] at K1 K2
      have HOV := Lib.hid hov
      clear e1 hov
      go_wp2_with fail
      refine (K1.out _).mono ?_
      rintro e w19 ⟨rfl, hb⟩
      have HB := Lib.hid (bt HB.out hb)
      have HW := Lib.hid (ownR_keep HW.out hb)
      have HR := Lib.hid (own_keep HR.out hb)
      go_wp2_with fail
      refine (K2.out _).mono ?_
      rintro e wA ⟨rfl, hb⟩
      have HB := Lib.hid (bt HB.out hb)
      have HW := Lib.hid (ownR_keep HW.out hb)
      have HR := Lib.hid (own_keep HR.out hb)
      clear hb K1 K2
      go_upto_if 250 with fail
      go_cut [39, 41] from 225 to 281 (fun s39 s41 wx => Below wA.heap.size wA wx)
      case first =>
        have hB := Below.refl wA.heap.size wA
        cases six with
        | false =>
          go_wp2_with fail
          go_meet
          case rel => exact hB
        | true =>
          obtain ⟨o0, o1, ⟨own, r1, r2⟩, hless⟩ := HOV.out rfl
          have L1 := keepB (w0 := wA) (fun w => implRunChanges_any at0 over y w)
          rw [r1] at L1
          have hd1 : decide (own < ch) = false := decide_eq_false (by omega)
          by_cases h0 : 0 < over
          · obtain ⟨less, r3, r4⟩ := hless h0
            have L2 := keepB (w0 := wA) (fun w => implRunChanges_any at0 (over - 1) y w)
            rw [r3] at L2
            have hd2 : decide (ch ≤ less) = false := decide_eq_false (by omega)
            have hd3 : decide (0 < over) = true := decide_eq_true h0
            clear r1 r2 r3 r4 hless
            go_wp2_with (first | (go_at_call_of 23 (Value.int IntKind.i64 over); refine (L1.out _ hB).mono ?_; rintro e v1 ⟨rfl, hB⟩) | (go_at_call 23; refine (L2.out _ hB).mono ?_; rintro e v2 ⟨rfl, hB⟩))
            go_meet
            case rel => exact hB
          · have hd3 : decide (0 < over) = false := decide_eq_false h0
            clear r1 r2 hless
            go_wp2_with (first | (go_at_call 23; refine (L1.out _ hB).mono ?_; rintro e v1 ⟨rfl, hB⟩))
            go_meet
            case rel => exact hB
      case rest =>
        rename World => wB
        have HB := Lib.hid (bt HB.out hcut)
        have HW := Lib.hid (ownR_keep HW.out hcut)
        have HR := Lib.hid (own_keep HR.out hcut)
        clear hcut HOV
        cases three with
        | false =>
          go_upto_if 282 with fail
          go_cut [31, 34] from 203 to 308 (fun s31 s34 wx => Below wB.heap.size wB wx)
          case first =>
            have hB := Below.refl wB.heap.size wB
            cases five with
            | false =>
              go_wp2_with fail
              go_meet
              case rel => exact hB
            | true =>
              obtain ⟨q1, q2⟩ := HMO.out rfl
              have L1 := keepB (w0 := wB) (fun w => implStepChanges_any first x w)
              rw [q1] at L1
              clear q1 q2
              go_wp2_with (first | (go_at_call 21; refine (L1.out _ hB).mono ?_; rintro e v1 ⟨rfl, hB⟩))
              go_meet
              case rel => exact hB
          case rest =>
            rename World => wC
            have HB := Lib.hid (bt HB.out hcut)
            have HW := Lib.hid (ownR_keep HW.out hcut)
            have HR := Lib.hid (own_keep HR.out hcut)
            clear hcut HMO HE1
            go_wp2_with fail
            go_ret
            exact ⟨rfl, HB.out⟩
        | true =>
          go_upto_if 282 with fail
          go_cut [31, 34] from 203 to 308 (fun s31 s34 wx => Below wB.heap.size wB wx)
          case first =>
            have hB := Below.refl wB.heap.size wB
            cases five with
            | false =>
              go_wp2_with fail
              go_meet
              case rel => exact hB
            | true =>
              obtain ⟨q1, q2⟩ := HMO.out rfl
              have L1 := keepB (w0 := wB) (fun w => implStepChanges_any first x w)
              rw [q1] at L1
              have q3 := q2 n
              by_cases hcx : c = x
              · have hd1 : (c == x) = true := by simp [hcx]
                have hd2 : decide (most < step) = false := by
                  have := HE1.out
                  rw [hcx] at this
                  rw [this] at q3
                  have q4 : step ≤ most := by simpa using q3
                  exact decide_eq_false (by omega)
                clear q1 q2 q3 hcx
                go_wp2_with (first | (go_at_call 21; refine (L1.out _ hB).mono ?_; rintro e v1 ⟨rfl, hB⟩))
                go_meet
                case rel => exact hB
              · have hd1 : (c == x) = false := by simp [hcx]
                clear q1 q2 q3 hcx
                go_wp2_with (first | (go_at_call 21; refine (L1.out _ hB).mono ?_; rintro e v1 ⟨rfl, hB⟩))
                go_meet
                case rel => exact hB
          case rest =>
            rename World => wC
            have HB := Lib.hid (bt HB.out hcut)
            have HW := Lib.hid (ownR_keep HW.out hcut)
            have HR := Lib.hid (own_keep HR.out hcut)
            clear hcut HMO HE1
            obtain ⟨q1, q2⟩ := HST.out rfl
            have hd9 : ((xs.length : Int) == c) = true := by simp [q2]
            clear q2
            go_wp2_with fail
            refine (implNumberOf_any _ xs _ HR.out HX6.out).mono ?_
            rintro e wD ⟨rfl, hb⟩
            rw [q1]
            have HB := Lib.hid (bt HB.out hb)
            have HW := Lib.hid (ownR_keep HW.out hb)
            clear hb q1 HST HR
            go_wp2_with fail
            go_ret
            exact ⟨rfl, HB.out⟩
  · clear hb0 ha
    go_enter Try.func13, Try.ntmps13
    go_wp2_with ((go_at_call 43; refine (rBig_yes a len cap _ hl hml).mono ?_; rintro e w1 ⟨rfl, rfl⟩))
    go_ret
    exact ⟨rfl, Below.refl _ _⟩

end Go.Proofs.Ytpijpelmebaalaa
