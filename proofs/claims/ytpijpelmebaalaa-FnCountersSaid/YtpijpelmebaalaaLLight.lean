/-
  The law FnExactLightOf returns true, whatever the numbers. No condition.
-/
import Derived.Test.YtpijpelmebaalaaCtrR
import Derived.Test.YtpijpelmebaalaaCtrT
import Derived.Test.YtpijpelmebaalaaCtrF
import Derived.Test.YtpijpelmebaalaaLitC
namespace Go.Proofs.Ytpijpelmebaalaa
open Go.RowKit
set_option linter.unusedVariables false


def litN (k n : Nat) : Nat := litF (cRow n k)
theorem litN_le (k n : Nat) : litN k n ≤ 7 * k := by have := litF_le (cRow n k); rw [cRow_len] at this; exact this
def lightN (k f : Nat) : Nat → Nat
  | 0 => 0
  | i + 1 => lightN k f i + litN k ((f + i) % pw k)
theorem lightN_le (k f : Nat) : ∀ i, lightN k f i ≤ 7 * k * i
  | 0 => Nat.zero_le _
  | i + 1 => by have := lightN_le k f i; have := litN_le k ((f + i) % pw k); simp only [lightN, Nat.mul_add]; omega
theorem lightN_le6 (k f i : Nat) (hk : k ≤ 6) (hi : i ≤ 1001) : lightN k f i ≤ 42042 := by
  have h := lightN_le k f i
  have h1 : 7 * k * i ≤ 42 * 1001 := Nat.mul_le_mul (by omega) hi
  omega
theorem cRow_isRow (n k : Nat) (hk : k ≤ 6) : isRow (cRow n k) = true := by
  unfold isRow
  have h1 : (cRow n k).all isC = true := by
    rw [List.all_eq_true]
    intro x hx
    have := cRow_rng n k x hx
    unfold isC
    exact decide_eq_true this
  rw [h1, cRow_len, decide_eq_true hk]; rfl
def liI (f s k : Int) : Int × Bool := if isCtr f k && inB s 1 1000 then (((lightN k.toNat f.toNat s.toNat : Nat) : Int), true) else (0, false)
theorem in_nat {s : Int} (h : inB s 1 1000 = true) : ∃ m : Nat, s = m ∧ 1 ≤ m ∧ m ≤ 1000 := by
  unfold inB at h
  simp only [Bool.and_eq_true, decide_eq_true_eq] at h
  obtain ⟨m, rfl⟩ := Int.eq_ofNat_of_zero_le (by omega : 0 ≤ s)
  exact ⟨m, rfl, by omega, by omega⟩

set_option maxHeartbeats 2000000 in
theorem implLightOf_any (a s k : Int) (w : World) :
    Calls Try.prog 30 #[.int .i64 a, .int .i64 s, .int .i64 k] w fun e w' => e = .returned (.tuple #[.int .i64 (liI a s k).1, .bool (liI a s k).2]) ∧ Below w.heap.size w w' := by
  have H1 := Lib.hid (isCounter_any a k)
  have HW := Lib.hid (within_any s 1 1000)
  unfold liI
  by_cases hc : isCtr a k = true
  · rw [hc] at H1 ⊢
    obtain ⟨f, j, rfl, rfl, h1, h6, hf⟩ := ctr_nat hc
    have hf6 : f ≤ 1000000 := by have := (pw_le j h6).2; omega
    clear hc hf
    by_cases hs : inB s 1 1000 = true
    · rw [hs] at HW ⊢
      obtain ⟨m, rfl, hm1, hm⟩ := in_nat hs
      rw [if_pos (show (true && true) = true from rfl), Int.toNat_natCast, Int.toNat_natCast, Int.toNat_natCast]
      clear hs
      go_enter Try.func30, Try.ntmps30
      go_wp2_with (first | (go_at_call 56; refine (H1.out _).mono ?_; rintro e w1 ⟨rfl, rfl⟩) | (go_at_call 61; refine (HW.out _).mono ?_; rintro e w1 ⟨rfl, rfl⟩))
      go_loopw [8, 22] (fun sv iv wr => ∃ i : Nat, i ≤ m ∧ iv = .int .i64 i ∧ sv = .int .i64 (lightN j f i : Nat) ∧ Below w.heap.size w wr) (fun _ iv _ => m - (intOf iv).toNat)
      case atStart => exact ⟨0, by omega, rfl, rfl, Below.refl _ _⟩
      case round =>
          obtain ⟨i, hi, rfl, rfl, hb⟩ := hrel
          have hle := lightN_le6 j f i h6 (by omega)
          by_cases hlt : i < m
          · have hp := pw_le j h6
            have HM : (f + i) % pw j < pw j := Nat.mod_lt _ (by omega)
            have hmod : ((f : Int) + (i : Int)) % (pw j : Int) = (((f + i) % pw j : Nat) : Int) := by simp
            have HP := Lib.hid (fun w => power_any j w h6)
            have H2 := Lib.hid (fun w => counterRow_any ((f + i) % pw j) j w h1 h6 HM)
            have HS : Hid (lightN j f (i + 1) = lightN j f i + litN j ((f + i) % pw j)) := rfl
            have hs7 := litN_le j ((f + i) % pw j)
            have HL := Lib.hid (fun (A : Nat) v w (h : Own A w v (cRow ((f + i) % pw j) j)) => implLitOf_any v (cRow ((f + i) % pw j) j) w h (by rw [cRow_len]; omega))
            have hli : litI (cRow ((f + i) % pw j) j) = ((litN j ((f + i) % pw j) : Int), true) := by
              unfold litI litN
              rw [if_pos (cRow_isRow _ _ h6)]
            rw [hli] at HL
            dsimp only at HL
            generalize lightN j f i = s at hle HS ⊢
            generalize litN j ((f + i) % pw j) = d at HS HL hs7
            generalize cRow ((f + i) % pw j) j = xs at H2 HL
            generalize (f + i) % pw j = r at hmod H2 HM
            generalize pw j = q at hp hmod HP HM
            have HB := Lib.hid hb
            clear HM hb hli
            go_wp2_with (first | (go_at_call 62; refine (HP.out _).mono ?_; rintro e w1 ⟨rfl, rfl⟩) | (go_at_call 57; refine (H2.out _).mono ?_; rintro e w2 ⟨u, rfl, ho2, hb2⟩) | (go_at_call 65; refine (HL.out _ _ _ ho2).mono ?_; rintro e w3 ⟨rfl, hb3⟩))
            go_roundw
            case rel => exact ⟨i + 1, by omega, by go_num, by rw [HS.out]; go_num, bt (bt HB.out hb2) hb3⟩
            case measure => simp [intOf]; omega
          · obtain rfl : i = m := by omega
            go_wp2
            go_ret2
            exact ⟨rfl, hb⟩
    · have hs' : inB s 1 1000 = false := by simpa using hs
      rw [hs'] at HW ⊢
      rw [if_neg (by simp)]
      clear hs hs'
      go_enter Try.func30, Try.ntmps30
      go_wp2_with (first | (go_at_call 56; refine (H1.out _).mono ?_; rintro e w1 ⟨rfl, rfl⟩) | (go_at_call 61; refine (HW.out _).mono ?_; rintro e w1 ⟨rfl, rfl⟩))
      go_ret2
      exact ⟨rfl, Below.refl _ _⟩
  · have hc' : isCtr a k = false := by simpa using hc
    rw [hc'] at H1 ⊢
    rw [Bool.false_and, if_neg (by simp)]
    clear hc hc'
    go_enter Try.func30, Try.ntmps30
    go_wp2_with ((go_at_call 56; refine (H1.out _).mono ?_; rintro e w1 ⟨rfl, rfl⟩))
    go_ret2
    exact ⟨rfl, Below.refl _ _⟩

set_option maxHeartbeats 2000000 in
theorem specLightOf_any (a s k : Int) (w : World) :
    Calls Try.prog 29 #[.int .i64 a, .int .i64 s, .int .i64 k] w fun e w' => e = .returned (.tuple #[.int .i64 (liI a s k).1, .bool (liI a s k).2]) ∧ Below w.heap.size w w' := by
  have H1 := Lib.hid (l4Good_any a s k)
  by_cases hc : (isCtr a k && isSt s) = true
  · rw [hc] at H1
    rw [Bool.and_eq_true] at hc
    obtain ⟨f, j, rfl, rfl, h1, h6, hf⟩ := ctr_nat hc.1
    obtain ⟨m, rfl, hm⟩ := st_nat hc.2
    have hf6 : f ≤ 1000000 := by have := (pw_le j h6).2; omega
    by_cases hm0 : m = 0
    · subst hm0
      have e : liI (f : Int) ((0 : Nat) : Int) (j : Int) = (0, false) := by unfold liI inB; simp
      rw [e]
      clear hc hf e
      have hz : ((0 : Nat) : Int) = 0 := rfl
      rw [hz] at H1 ⊢
      go_enter Try.func29, Try.ntmps29
      go_wp2_with ((go_at_call 54; refine (H1.out _).mono ?_; rintro e w1 ⟨rfl, rfl⟩))
      go_ret2
      exact ⟨rfl, Below.refl _ _⟩
    · have hin : inB (m : Int) 1 1000 = true := by unfold inB; simp; omega
      have e : liI (f : Int) (m : Int) (j : Int) = ((lightN j f m : Int), true) := by
        unfold liI
        rw [hc.1, hin, if_pos (show (true && true) = true from rfl), Int.toNat_natCast, Int.toNat_natCast, Int.toNat_natCast]
      rw [e]
      have hne : ((m : Int) == 0) = false := beq_eq_false_iff_ne.2 (by omega)
      clear hc hf e hin hm0
      go_enter Try.func29, Try.ntmps29
      go_wp2_with ((go_at_call 54; refine (H1.out _).mono ?_; rintro e w1 ⟨rfl, rfl⟩))
      go_loopw [8, 9] (fun sv iv wr => ∃ i : Nat, i ≤ m ∧ iv = .int .i64 i ∧ sv = .int .i64 (lightN j f i : Nat) ∧ Below w.heap.size w wr) (fun _ iv _ => m - (intOf iv).toNat)
      case atStart => exact ⟨0, by omega, rfl, rfl, Below.refl _ _⟩
      case round =>
          obtain ⟨i, hi, rfl, rfl, hb⟩ := hrel
          have hle := lightN_le6 j f i h6 (by omega)
          by_cases hlt : i < m
          · have hp := pw_le j h6
            have HM : (f + i) % pw j < pw j := Nat.mod_lt _ (by omega)
            have hmod : ((f : Int) + (i : Int)) % (pw j : Int) = (((f + i) % pw j : Nat) : Int) := by simp
            have HP := Lib.hid (fun w => l4Top_any j w h6)
            have H2 := Lib.hid (fun w => l4Row_any ((f + i) % pw j) j w h1 h6 HM)
            have HS : Hid (lightN j f (i + 1) = lightN j f i + litF (cRow ((f + i) % pw j) j)) := rfl
            have hs7 := litF_le (cRow ((f + i) % pw j) j)
            rw [cRow_len] at hs7
            have hxl := cRow_len ((f + i) % pw j) j
            have HCe := Lib.hid (fun x (h : x < j) => cRow_at ((f + i) % pw j) j x h)
            generalize lightN j f i = s at hle HS ⊢
            generalize cRow ((f + i) % pw j) j = xs at H2 HS hs7 HCe hxl
            generalize (f + i) % pw j = r at hmod H2 HM
            generalize pw j = q at hp hmod HP HM
            have HB := Lib.hid hb
            have HX := Lib.hid hxl
            clear HM hb hxl
            go_wp2_with fail
            refine (HP.out _).mono ?_
            rintro e w1 ⟨rfl, rfl⟩
            go_wp2_with fail
            refine (H2.out _).mono ?_
            rintro e w2 ⟨u, rfl, ho2, hb2⟩
            rcases own_cases ho2 with ⟨rfl, rfl⟩ | ⟨g, cap, rfl, hg1, hg2, hg3, hg4, hgc, hgf⟩
            · have := HX.out; simp at this; omega
            · have HC := Lib.hid hgc
              have HB2 := Lib.hid (bt HB.out hb2)
              clear ho2 hgc hgf hg1 hg2 hg3 hg4 hb2
              rw [HX.out] at HC ⊢
              go_wp2
              obtain ⟨wo, rfl⟩ : ∃ wo : World, wo = w2 := ⟨_, rfl⟩
              go_loop [8, 11] (fun sv xv => ∃ x : Nat, x ≤ j ∧ xv = .int .i64 x ∧ sv = .int .i64 ((s + litF (xs.take x) : Nat) : Int)) (fun _ xv => j - (intOf xv).toNat)
              case atStart => exact ⟨0, by omega, rfl, by simp [litF]⟩
              case round =>
                obtain ⟨x, hx, rfl, rfl⟩ := hrel
                have hle2 := litF_le (xs.take x)
                rw [List.length_take] at hle2
                by_cases hxl : x < j
                · have hcell := HC.out x hxl
                  have hcr := HCe.out x hxl
                  generalize hxi : xs.getD x 0 = y at hcell hcr
                  obtain ⟨c, rfl⟩ := Int.eq_ofNat_of_zero_le hcr.1
                  have hc : c < 128 := by omega
                  have HS3 := Lib.hid (litF_take xs x (by rw [HX.out]; exact hxl) _ hxi)
                  have hc7 := cnt_le c 7
                  have HF := Lib.hid (fun w => l2Count_any c w hc)
                  rw [Int.toNat_natCast] at HS3
                  have hz2 : litF (xs.take x) ≤ 42 := by omega
                  generalize litF (xs.take x) = z at HS3 hz2 ⊢
                  generalize cnt c 7 = mm at HS3 hc7 HF
                  have hcast : ((s + z : Nat) : Int) = (s : Int) + (z : Int) := by simp
                  rw [hcast]
                  clear hxi hle2 hcr hcast
                  go_wp2_with ((go_at_call 64; refine (HF.out _).mono ?_; rintro e w3 ⟨rfl, rfl⟩))
                  go_round
                  case rel => exact ⟨x + 1, by omega, by go_num, by rw [HS3.out]; go_num⟩
                  case measure => simp [intOf]; omega
                · obtain rfl : x = j := by omega
                  have he : xs.take x = xs := List.take_of_length_le (by rw [HX.out]; exact Nat.le_refl _)
                  rw [he]
                  clear he hle2
                  go_wp2
                  go_roundw
                  case rel => exact ⟨i + 1, by omega, by go_num, by rw [HS.out], HB2.out⟩
                  case measure => simp [intOf]; omega
          · obtain rfl : i = m := by omega
            go_wp2
            go_ret2
            exact ⟨rfl, hb⟩
  · have hc' : (isCtr a k && isSt s) = false := by simpa using hc
    rw [hc'] at H1
    have e : liI a s k = (0, false) := by
      unfold liI
      have h2 : (isCtr a k && inB s 1 1000) = false := by
        by_cases hk : isCtr a k = true
        · rw [hk] at hc' ⊢
          simp at hc'
          unfold isSt at hc'
          unfold inB
          simp at hc' ⊢
          intro h; exact hc' (by omega)
        · simp [hk]
      rw [h2, if_neg (by simp)]
    rw [e]
    clear hc hc' e
    go_enter Try.func29, Try.ntmps29
    go_wp2_with ((go_at_call 54; refine (H1.out _).mono ?_; rintro e w1 ⟨rfl, rfl⟩))
    go_ret2
    exact ⟨rfl, Below.refl _ _⟩

set_option maxHeartbeats 1000000 in
theorem walkFnExactLightOf (a : Int) (s : Int) (k : Int) (w : World) (wa : (Lit.int .i64 a).wf = true) (ws : (Lit.int .i64 s).wf = true) (wk : (Lit.int .i64 k).wf = true) :
    Calls Try.prog 7 #[.int .i64 a, .int .i64 s, .int .i64 k] w fun e w' => e = .returned (.bool true) ∧ Below w.heap.size w w' := by
  have H1 := Lib.hid (specLightOf_any a s k)
  have H2 := Lib.hid (implLightOf_any a s k)
  generalize (liI a s k).1 = r0 at H1 H2
  generalize (liI a s k).2 = r1 at H1 H2
  go_enter Try.func7, Try.ntmps7
  go_wp2_with (first | (go_at_call 29; refine (H1.out _).mono ?_; rintro e w1 ⟨rfl, hb1⟩) | (go_at_call 30; refine (H2.out _).mono ?_; rintro e w2 ⟨rfl, hb2⟩))
  go_ret
  exact ⟨rfl, bt hb1 hb2⟩

end Go.Proofs.Ytpijpelmebaalaa
