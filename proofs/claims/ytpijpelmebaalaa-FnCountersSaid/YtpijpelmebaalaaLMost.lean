/-
  The law FnExactMostChanges returns true, whatever the number. No condition.
-/
import Derived.Test.YtpijpelmebaalaaCtrE
import Derived.Test.YtpijpelmebaalaaCtrF
import Derived.Test.YtpijpelmebaalaaMostP
namespace Go.Proofs.Ytpijpelmebaalaa
open Go.RowKit
set_option linter.unusedVariables false


theorem nI_lt (k p d : Nat) (hp : p < k) (hd : d < 9) : nI p d < pw k := by
  have h1 : pw (p + 1) ≤ pw k := pw_mono hp
  have h2 : (d + 1) * pw p ≤ 9 * pw p := Nat.mul_le_mul_right _ (by omega)
  have h3 := pw_pos p
  have h4 : pw (p + 1) = 10 * pw p := rfl
  unfold nI
  omega
theorem nI_one (p d : Nat) : (d + 1) * pw p = nI p d + 1 := by
  have h3 : 1 ≤ (d + 1) * pw p := Nat.mul_pos (by omega) (pw_pos p)
  unfold nI
  omega

set_option maxHeartbeats 8000000 in
theorem implMost_any (k : Nat) (w : World) (h1 : 1 ≤ k) (h6 : k ≤ 6) :
    Calls Try.prog 32 #[.int .i64 (k : Int)] w fun e w' => e = .returned (.tuple #[.int .i64 (mcI k).1, .int .i64 (mcI k).2, .bool true]) ∧ Below w.heap.size w w' := by
  have HW := Lib.hid (within_any (k : Int) 1 6)
  have hin : inB (k : Int) 1 6 = true := by unfold inB; simp; omega
  rw [hin] at HW
  clear hin
  go_enter Try.func32, Try.ntmps32
  go_wp2_with (first | (go_at_call 61; refine (HW.out _).mono ?_; rintro e w1 ⟨rfl, rfl⟩))
  go_loopw [5, 6, 16] (fun bv mv pv wr => ∃ p : Nat, p ≤ k ∧ pv = .int .i64 p ∧ bv = .int .i64 (mcAll k nI p (0, -1)).1 ∧ mv = .int .i64 (mcAll k nI p (0, -1)).2 ∧ Below w.heap.size w wr) (fun _ _ pv _ => k - (intOf pv).toNat)
  case atStart => exact ⟨0, by omega, rfl, rfl, rfl, Below.refl _ _⟩
  case round =>
    obtain ⟨p, hp, rfl, rfl, rfl, hb⟩ := hrel
    have HB := Lib.hid hb
    clear hb
    by_cases hlt : p < k
    · have HA : Hid (mcAll k nI (p + 1) (0, -1) = mcRow k (nI p) 9 (mcAll k nI p (0, -1))) := rfl
      have HP := Lib.hid (fun w => power_any p w (by omega))
      have hpw := pw_le p (by omega)
      generalize mcAll k nI p (0, -1) = s0 at HA ⊢
      go_wp2
      obtain ⟨wo, rfl⟩ : ∃ wo : World, wo = wr := ⟨_, rfl⟩
      go_loopw [5, 6, 19] (fun bv mv dv wq => ∃ d : Nat, d ≤ 9 ∧ dv = .int .i64 d ∧ bv = .int .i64 (mcRow k (nI p) d s0).1 ∧ mv = .int .i64 (mcRow k (nI p) d s0).2 ∧ Below w.heap.size w wq) (fun _ _ dv _ => 9 - (intOf dv).toNat)
      case atStart => exact ⟨0, by omega, rfl, rfl, rfl, HB.out⟩
      case round =>
        obtain ⟨d, hd, rfl, rfl, rfl, hb⟩ := hrel
        have HBQ := Lib.hid hb
        clear hb
        by_cases hdl : d < 9
        · have HS : Hid (mcRow k (nI p) (d + 1) s0 = mcStep k (mcRow k (nI p) d s0) (nI p d)) := rfl
          have hone := nI_one p d
          have hnl := nI_lt k p d hlt hdl
          have HC := Lib.hid (fun w => stepChanges_any (nI p d) k w h1 h6 hnl)
          have hn6 : nI p d < 1000000 := Nat.lt_of_lt_of_le hnl (pw_le k h6).2
          have hprod : ((d : Int) + 1) * (pw p : Int) = (nI p d : Int) + 1 := by
            have := congrArg (Nat.cast (R := Int)) hone
            simpa using this
          unfold mcStep at HS
          have hs7 := stepN_le k (nI p d)
          generalize stepN k (nI p d) = m at HS HC hs7
          generalize mcRow k (nI p) d s0 = s at HS ⊢
          obtain ⟨be, mo⟩ := s
          dsimp only at HS ⊢
          generalize nI p d = t at HS HC hn6 hprod
          generalize pw p = q at HP hpw hprod
          clear hone hnl
          by_cases c1 : mo < (m : Int)
          · have hc : mo < (m : Int) ∨ ((m : Int) = mo ∧ (t : Int) < be) := .inl c1
            have HS2 := Lib.hid (HS.out.trans (if_pos hc))
            clear HS hc
            go_wp2_with (first | (go_at_call 62; refine (HP.out _).mono ?_; rintro e w1 ⟨rfl, rfl⟩) | (go_at_call 59; refine (HC.out _).mono ?_; rintro e w2 ⟨rfl, hb2⟩))
            go_roundw
            case rel => exact ⟨d + 1, by omega, by go_num, by rw [HS2.out], by rw [HS2.out], bt HBQ.out hb2⟩
            case measure => simp [intOf]; omega
          · by_cases c2 : (m : Int) = mo
            · subst c2
              by_cases c3 : (t : Int) < be
              · have hc : (m : Int) < (m : Int) ∨ ((m : Int) = (m : Int) ∧ (t : Int) < be) := .inr ⟨rfl, c3⟩
                have HS2 := Lib.hid (HS.out.trans (if_pos hc))
                clear HS hc
                go_wp2_with (first | (go_at_call 62; refine (HP.out _).mono ?_; rintro e w1 ⟨rfl, rfl⟩) | (go_at_call 59; refine (HC.out _).mono ?_; rintro e w2 ⟨rfl, hb2⟩))
                go_roundw
                case rel => exact ⟨d + 1, by omega, by go_num, by rw [HS2.out], by rw [HS2.out], bt HBQ.out hb2⟩
                case measure => simp [intOf]; omega
              · have hc : ¬ ((m : Int) < (m : Int) ∨ ((m : Int) = (m : Int) ∧ (t : Int) < be)) := by omega
                have HS2 := Lib.hid (HS.out.trans (if_neg hc))
                clear HS hc
                go_wp2_with (first | (go_at_call 62; refine (HP.out _).mono ?_; rintro e w1 ⟨rfl, rfl⟩) | (go_at_call 59; refine (HC.out _).mono ?_; rintro e w2 ⟨rfl, hb2⟩))
                go_roundw
                case rel => exact ⟨d + 1, by omega, by go_num, by rw [HS2.out], by rw [HS2.out], bt HBQ.out hb2⟩
                case measure => simp [intOf]; omega
            · have hc : ¬ (mo < (m : Int) ∨ ((m : Int) = mo ∧ (t : Int) < be)) := fun h => by rcases h with h | h; exact c1 h; exact c2 h.1
              have hne : ((m : Int) == mo) = false := by simpa using c2
              have HS2 := Lib.hid (HS.out.trans (if_neg hc))
              clear HS hc c2
              go_wp2_with (first | (go_at_call 62; refine (HP.out _).mono ?_; rintro e w1 ⟨rfl, rfl⟩) | (go_at_call 59; refine (HC.out _).mono ?_; rintro e w2 ⟨rfl, hb2⟩))
              go_roundw
              case rel => exact ⟨d + 1, by omega, by go_num, by rw [HS2.out], by rw [HS2.out], bt HBQ.out hb2⟩
              case measure => simp [intOf]; omega
        · obtain rfl : d = 9 := by omega
          go_wp2
          go_roundw
          case rel => exact ⟨p + 1, by omega, by go_num, by rw [HA.out], by rw [HA.out], HBQ.out⟩
          case measure => simp [intOf]; omega
    · obtain rfl : p = k := by omega
      have HE : Hid (mcI p = mcEnd p (mcAll p nI p (0, -1))) := rfl
      have HP := Lib.hid (fun w => power_any p w h6)
      have hpw := pw_le p h6
      have HC := Lib.hid (fun w => stepChanges_any (pw p - 1) p w h1 h6 (by omega))
      obtain ⟨t, ht⟩ : ∃ t, pw p = t + 1 := ⟨pw p - 1, by omega⟩
      unfold mcEnd at HE
      rw [ht] at HE HP HC hpw
      rw [Nat.add_sub_cancel] at HE HC
      have hpc : ((t + 1 : Nat) : Int) = (t : Int) + 1 := by simp
      rw [hpc] at HP
      have hs7 := stepN_le p t
      generalize stepN p t = m at HE HC hs7
      generalize mcAll p nI p (0, -1) = s at HE ⊢
      obtain ⟨be, mo⟩ := s
      dsimp only at HE ⊢
      clear ht hpc
      by_cases c1 : mo < (m : Int)
      · have HE2 := Lib.hid (HE.out.trans (if_pos c1))
        clear HE
        go_wp2_with (first | (go_at_call 62; refine (HP.out _).mono ?_; rintro e w1 ⟨rfl, rfl⟩) | (go_at_call 59; refine (HC.out _).mono ?_; rintro e w2 ⟨rfl, hb2⟩))
        go_ret3
        exact ⟨by rw [HE2.out]; rfl, bt (bt HB.out (by assumption)) hb2⟩
      · have HE2 := Lib.hid (HE.out.trans (if_neg c1))
        clear HE
        go_wp2_with (first | (go_at_call 62; refine (HP.out _).mono ?_; rintro e w1 ⟨rfl, rfl⟩) | (go_at_call 59; refine (HC.out _).mono ?_; rintro e w2 ⟨rfl, hb2⟩))
        go_ret3
        exact ⟨by rw [HE2.out]; rfl, bt HB.out hb2⟩

theorem nS_lt (k p d : Nat) (hp : p ≤ k) (hd : d < 9) : nS k p d < pw k := by
  unfold nS
  have h3 := pw_pos k
  split
  · omega
  · next h =>
    have h1 : pw (p + 1) ≤ pw k := pw_mono (by omega)
    have h2 : d * pw p ≤ 8 * pw p := Nat.mul_le_mul_right _ (by omega)
    have h4 : pw (p + 1) = 10 * pw p := rfl
    have h5 := pw_pos p
    omega
theorem nS_one (k p d : Nat) (h : ¬ p = k) : d * pw p + pw p = nS k p d + 1 := by
  have h3 := pw_pos p
  unfold nS
  rw [if_neg h]
  omega
theorem nS_top (k d : Nat) : pw k = nS k k d + 1 := by
  have h3 := pw_pos k
  unfold nS
  rw [if_pos rfl]
  omega

set_option maxHeartbeats 8000000 in
theorem specMost_any (k : Nat) (w : World) (h1 : 1 ≤ k) (h6 : k ≤ 6) :
    Calls Try.prog 31 #[.int .i64 (k : Int)] w fun e w' => e = .returned (.tuple #[.int .i64 (mcS k).1, .int .i64 (mcS k).2, .bool true]) ∧ Below w.heap.size w w' := by
  have HW := Lib.hid (l1In_any (k : Int) 1 6)
  have hin : inB (k : Int) 1 6 = true := by unfold inB; simp; omega
  rw [hin] at HW
  clear hin
  go_enter Try.func31, Try.ntmps31
  go_wp2_with ((go_at_call 66; refine (HW.out _).mono ?_; rintro e w1 ⟨rfl, rfl⟩))
  go_loopw [5, 6, 7] (fun bv mv pv wr => ∃ p : Nat, p ≤ k + 1 ∧ pv = .int .i64 p ∧ bv = .int .i64 (mcAll k (nS k) p (-1, -1)).1 ∧ mv = .int .i64 (mcAll k (nS k) p (-1, -1)).2 ∧ Below w.heap.size w wr) (fun _ _ pv _ => k + 1 - (intOf pv).toNat)
  case atStart => exact ⟨0, by omega, rfl, rfl, rfl, Below.refl _ _⟩
  case round =>
    obtain ⟨p, hp, rfl, rfl, rfl, hb⟩ := hrel
    have HB := Lib.hid hb
    clear hb
    by_cases hlt : p ≤ k
    · have HA : Hid (mcAll k (nS k) (p + 1) (-1, -1) = mcRow k (nS k p) 9 (mcAll k (nS k) p (-1, -1))) := rfl
      have HP := Lib.hid (fun w => l4Top_any p w (by omega))
      have hpw := pw_le p (by omega)
      generalize mcAll k (nS k) p (-1, -1) = s0 at HA ⊢
      go_wp2
      obtain ⟨wo, rfl⟩ : ∃ wo : World, wo = wr := ⟨_, rfl⟩
      go_loopw [5, 6, 8] (fun bv mv dv wq => ∃ d : Nat, d ≤ 9 ∧ dv = .int .i64 d ∧ bv = .int .i64 (mcRow k (nS k p) d s0).1 ∧ mv = .int .i64 (mcRow k (nS k p) d s0).2 ∧ Below w.heap.size w wq) (fun _ _ dv _ => 9 - (intOf dv).toNat)
      case atStart => exact ⟨0, by omega, rfl, rfl, rfl, HB.out⟩
      case round =>
        obtain ⟨d, hd, rfl, rfl, rfl, hb⟩ := hrel
        have HBQ := Lib.hid hb
        clear hb
        by_cases hdl : d < 9
        · have HS : Hid (mcRow k (nS k p) (d + 1) s0 = mcStep k (mcRow k (nS k p) d s0) (nS k p d)) := rfl
          have hnl := nS_lt k p d hlt hdl
          have HC := Lib.hid (fun w => l4Step_any (nS k p d) k w h1 h6 hnl)
          have hn6 : nS k p d < 1000000 := Nat.lt_of_lt_of_le hnl (pw_le k h6).2
          unfold mcStep at HS
          have hs7 := stepN_le k (nS k p d)
          have hdp : d * pw p ≤ 8 * pw p := Nat.mul_le_mul_right _ (by omega)
          have hdp' : (d : Int) * (pw p : Int) = ((d * pw p : Nat) : Int) := by simp
          by_cases hpk : p = k
          · subst hpk
            have hone := nS_top p d
            generalize stepN p (nS p p d) = m at HS HC hs7
            generalize mcRow p (nS p p) d s0 = s at HS ⊢
            obtain ⟨be, mo⟩ := s
            dsimp only at HS ⊢
            generalize nS p p d = t at HS HC hn6 hone
            generalize d * pw p = z at hdp hdp'
            generalize pw p = q at HP hpw hdp hdp' hone
            have hqt : (q : Int) = (t : Int) + 1 := by omega
            subst hone
            clear hnl
            by_cases c1 : mo < (m : Int)
            · have hc : mo < (m : Int) ∨ ((m : Int) = mo ∧ (t : Int) < be) := .inl c1
              have HS2 := Lib.hid (HS.out.trans (if_pos hc))
              clear HS hc
              go_wp2_with (first | (go_at_call 63; refine (HP.out _).mono ?_; rintro e w1 ⟨rfl, rfl⟩) | (go_at_call 58; refine (HC.out _).mono ?_; rintro e w2 ⟨rfl, hb2⟩))
              go_roundw
              case rel => exact ⟨d + 1, by omega, by go_num, by rw [HS2.out], by rw [HS2.out], bt HBQ.out hb2⟩
              case measure => simp [intOf]; omega
            · by_cases c2 : (m : Int) = mo
              · subst c2
                by_cases c3 : (t : Int) < be
                · have hc : (m : Int) < (m : Int) ∨ ((m : Int) = (m : Int) ∧ (t : Int) < be) := .inr ⟨rfl, c3⟩
                  have HS2 := Lib.hid (HS.out.trans (if_pos hc))
                  clear HS hc
                  go_wp2_with (first | (go_at_call 63; refine (HP.out _).mono ?_; rintro e w1 ⟨rfl, rfl⟩) | (go_at_call 58; refine (HC.out _).mono ?_; rintro e w2 ⟨rfl, hb2⟩))
                  go_roundw
                  case rel => exact ⟨d + 1, by omega, by go_num, by rw [HS2.out], by rw [HS2.out], bt HBQ.out hb2⟩
                  case measure => simp [intOf]; omega
                · have hc : ¬ ((m : Int) < (m : Int) ∨ ((m : Int) = (m : Int) ∧ (t : Int) < be)) := by omega
                  have HS2 := Lib.hid (HS.out.trans (if_neg hc))
                  clear HS hc
                  go_wp2_with (first | (go_at_call 63; refine (HP.out _).mono ?_; rintro e w1 ⟨rfl, rfl⟩) | (go_at_call 58; refine (HC.out _).mono ?_; rintro e w2 ⟨rfl, hb2⟩))
                  go_roundw
                  case rel => exact ⟨d + 1, by omega, by go_num, by rw [HS2.out], by rw [HS2.out], bt HBQ.out hb2⟩
                  case measure => simp [intOf]; omega
              · have hc : ¬ (mo < (m : Int) ∨ ((m : Int) = mo ∧ (t : Int) < be)) := fun h => by rcases h with h | h; exact c1 h; exact c2 h.1
                have hne : ((m : Int) == mo) = false := by simpa using c2
                have HS2 := Lib.hid (HS.out.trans (if_neg hc))
                clear HS hc c2
                go_wp2_with (first | (go_at_call 63; refine (HP.out _).mono ?_; rintro e w1 ⟨rfl, rfl⟩) | (go_at_call 58; refine (HC.out _).mono ?_; rintro e w2 ⟨rfl, hb2⟩))
                go_roundw
                case rel => exact ⟨d + 1, by omega, by go_num, by rw [HS2.out], by rw [HS2.out], bt HBQ.out hb2⟩
                case measure => simp [intOf]; omega
          · have hone := nS_one k p d hpk
            generalize stepN k (nS k p d) = m at HS HC hs7
            generalize mcRow k (nS k p) d s0 = s at HS ⊢
            obtain ⟨be, mo⟩ := s
            dsimp only at HS ⊢
            generalize nS k p d = t at HS HC hn6 hone
            generalize d * pw p = z at hdp hdp' hone
            generalize pw p = q at HP hpw hdp hdp' hone
            have hzq : (z : Int) + (q : Int) = (t : Int) + 1 := by omega
            have hpk' : ((p : Int) == (k : Int)) = false := beq_eq_false_iff_ne.2 (by omega)
            clear hnl hone hpk
            by_cases c1 : mo < (m : Int)
            · have hc : mo < (m : Int) ∨ ((m : Int) = mo ∧ (t : Int) < be) := .inl c1
              have HS2 := Lib.hid (HS.out.trans (if_pos hc))
              clear HS hc
              go_wp2_with (first | (go_at_call 63; refine (HP.out _).mono ?_; rintro e w1 ⟨rfl, rfl⟩) | (go_at_call 58; refine (HC.out _).mono ?_; rintro e w2 ⟨rfl, hb2⟩))
              go_roundw
              case rel => exact ⟨d + 1, by omega, by go_num, by rw [HS2.out], by rw [HS2.out], bt HBQ.out hb2⟩
              case measure => simp [intOf]; omega
            · by_cases c2 : (m : Int) = mo
              · subst c2
                by_cases c3 : (t : Int) < be
                · have hc : (m : Int) < (m : Int) ∨ ((m : Int) = (m : Int) ∧ (t : Int) < be) := .inr ⟨rfl, c3⟩
                  have HS2 := Lib.hid (HS.out.trans (if_pos hc))
                  clear HS hc
                  go_wp2_with (first | (go_at_call 63; refine (HP.out _).mono ?_; rintro e w1 ⟨rfl, rfl⟩) | (go_at_call 58; refine (HC.out _).mono ?_; rintro e w2 ⟨rfl, hb2⟩))
                  go_roundw
                  case rel => exact ⟨d + 1, by omega, by go_num, by rw [HS2.out], by rw [HS2.out], bt HBQ.out hb2⟩
                  case measure => simp [intOf]; omega
                · have hc : ¬ ((m : Int) < (m : Int) ∨ ((m : Int) = (m : Int) ∧ (t : Int) < be)) := by omega
                  have HS2 := Lib.hid (HS.out.trans (if_neg hc))
                  clear HS hc
                  go_wp2_with (first | (go_at_call 63; refine (HP.out _).mono ?_; rintro e w1 ⟨rfl, rfl⟩) | (go_at_call 58; refine (HC.out _).mono ?_; rintro e w2 ⟨rfl, hb2⟩))
                  go_roundw
                  case rel => exact ⟨d + 1, by omega, by go_num, by rw [HS2.out], by rw [HS2.out], bt HBQ.out hb2⟩
                  case measure => simp [intOf]; omega
              · have hc : ¬ (mo < (m : Int) ∨ ((m : Int) = mo ∧ (t : Int) < be)) := fun h => by rcases h with h | h; exact c1 h; exact c2 h.1
                have hne : ((m : Int) == mo) = false := by simpa using c2
                have HS2 := Lib.hid (HS.out.trans (if_neg hc))
                clear HS hc c2
                go_wp2_with (first | (go_at_call 63; refine (HP.out _).mono ?_; rintro e w1 ⟨rfl, rfl⟩) | (go_at_call 58; refine (HC.out _).mono ?_; rintro e w2 ⟨rfl, hb2⟩))
                go_roundw
                case rel => exact ⟨d + 1, by omega, by go_num, by rw [HS2.out], by rw [HS2.out], bt HBQ.out hb2⟩
                case measure => simp [intOf]; omega
        · obtain rfl : d = 9 := by omega
          go_wp2
          go_roundw
          case rel => exact ⟨p + 1, by omega, by go_num, by rw [HA.out], by rw [HA.out], HBQ.out⟩
          case measure => simp [intOf]; omega
    · obtain rfl : p = k + 1 := by omega
      have HE : Hid (mcS k = mcAll k (nS k) (k + 1) (-1, -1)) := rfl
      generalize mcAll k (nS k) (k + 1) (-1, -1) = s at HE ⊢
      go_wp2
      go_ret3
      exact ⟨by rw [HE.out]; rfl, HB.out⟩

set_option maxHeartbeats 1000000 in
theorem implMostChanges_any (k : Int) (w : World) :
    Calls Try.prog 32 #[.int .i64 k] w fun e w' => e = .returned (.tuple #[.int .i64 (mcV k).1, .int .i64 (mcV k).2.1, .bool (mcV k).2.2]) ∧ Below w.heap.size w w' := by
  unfold mcV
  by_cases h : 1 ≤ k ∧ k ≤ 6
  · rw [if_pos h]
    obtain ⟨j, rfl⟩ := Int.eq_ofNat_of_zero_le (by omega : 0 ≤ k)
    rw [Int.toNat_natCast]
    exact implMost_any j w (by omega) (by omega)
  · rw [if_neg h]
    have HW := Lib.hid (within_any k 1 6)
    have hin : inB k 1 6 = false := by
      unfold inB
      by_cases h0 : 1 ≤ k
      · have h1 : ¬ k ≤ 6 := fun h' => h ⟨h0, h'⟩
        simp [h1]
      · simp [h0]
    rw [hin] at HW
    clear hin h
    go_enter Try.func32, Try.ntmps32
    go_wp2_with ((go_at_call 61; refine (HW.out _).mono ?_; rintro e w1 ⟨rfl, rfl⟩))
    go_ret3
    exact ⟨rfl, Below.refl _ _⟩

set_option maxHeartbeats 1000000 in
theorem specMostChanges_any (k : Int) (w : World) :
    Calls Try.prog 31 #[.int .i64 k] w fun e w' => e = .returned (.tuple #[.int .i64 (mcV k).1, .int .i64 (mcV k).2.1, .bool (mcV k).2.2]) ∧ Below w.heap.size w w' := by
  unfold mcV
  by_cases h : 1 ≤ k ∧ k ≤ 6
  · rw [if_pos h]
    obtain ⟨j, rfl⟩ := Int.eq_ofNat_of_zero_le (by omega : 0 ≤ k)
    rw [Int.toNat_natCast]
    rw [mc_same j (by omega) (by omega)]
    exact specMost_any j w (by omega) (by omega)
  · rw [if_neg h]
    have HW := Lib.hid (l1In_any k 1 6)
    have hin : inB k 1 6 = false := by
      unfold inB
      by_cases h0 : 1 ≤ k
      · have h1 : ¬ k ≤ 6 := fun h' => h ⟨h0, h'⟩
        simp [h1]
      · simp [h0]
    rw [hin] at HW
    clear hin h
    go_enter Try.func31, Try.ntmps31
    go_wp2_with ((go_at_call 66; refine (HW.out _).mono ?_; rintro e w1 ⟨rfl, rfl⟩))
    go_ret3
    exact ⟨rfl, Below.refl _ _⟩

set_option maxHeartbeats 1000000 in
theorem walkFnExactMostChanges (k : Int) (w : World) (wk : (Lit.int .i64 k).wf = true) :
    Calls Try.prog 8 #[.int .i64 k] w fun e w' => e = .returned (.bool true) ∧ Below w.heap.size w w' := by
  have H1 := Lib.hid (specMostChanges_any k)
  have H2 := Lib.hid (implMostChanges_any k)
  generalize (mcV k).1 = r0 at H1 H2
  generalize (mcV k).2.1 = r1 at H1 H2
  generalize (mcV k).2.2 = r2 at H1 H2
  go_enter Try.func8, Try.ntmps8
  go_wp2_with (first | (go_at_call 31; refine (H1.out _).mono ?_; rintro e w1 ⟨rfl, hb1⟩) | (go_at_call 32; refine (H2.out _).mono ?_; rintro e w2 ⟨rfl, hb2⟩))
  go_ret
  exact ⟨rfl, bt hb1 hb2⟩

end Go.Proofs.Ytpijpelmebaalaa
