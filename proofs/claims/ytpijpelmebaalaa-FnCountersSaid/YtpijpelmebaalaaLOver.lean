/-
  The law FnExactFirstOver returns true, whatever the numbers. No condition.
-/
import Derived.Test.YtpijpelmebaalaaCtrE
import Derived.Test.YtpijpelmebaalaaCtrF
namespace Go.Proofs.Ytpijpelmebaalaa
open Go.RowKit
set_option linter.unusedVariables false


set_option maxRecDepth 100000 in
set_option maxHeartbeats 2000000 in
theorem implFirstOver_any (a k c : Int) (w : World) :
    Calls Try.prog 42 #[.int .i64 a, .int .i64 k, .int .i64 c] w fun e w' => e = .returned (.tuple #[.int .i64 (foI a k c).1, .bool (foI a k c).2]) ∧ Below w.heap.size w w' := by
  have H1 := Lib.hid (isCounter_any a k)
  skip
  unfold foI
  by_cases hc : isCtr a k = true
  · rw [hc] at H1 ⊢
    obtain ⟨f, j, rfl, rfl, h1, h6, hf⟩ := ctr_nat hc
    have hf6 : f ≤ 1000000 := by have := (pw_le j h6).2; omega
    clear hc hf
    by_cases hs : 0 ≤ c
    · rw [decide_eq_true hs, if_pos (show (true && true) = true from rfl), Int.toNat_natCast, Int.toNat_natCast]
      have hdc : decide (c < 0) = false := decide_eq_false (by omega)
      go_enter Try.func42, Try.ntmps42
      go_wp2_with ((go_at_call 56; refine (H1.out _).mono ?_; rintro e w1 ⟨rfl, rfl⟩))

      go_loopw [8, 18] (fun sv iv wr => ∃ i : Nat, i ≤ 1001 ∧ iv = .int .i64 i ∧ sv = .int .i64 (runN j f i : Nat) ∧ fo (runN j f) c (1001 - i) i = fo (runN j f) c 1001 0 ∧ Below w.heap.size w wr) (fun _ iv _ => 1001 - (intOf iv).toNat)
      case atStart => exact ⟨0, by omega, rfl, rfl, rfl, Below.refl _ _⟩
      case round =>
        obtain ⟨i, hi, rfl, rfl, hfo, hb⟩ := hrel
        have hle := runN_le6 j f i h6 hi
        by_cases hlt : i < 1001
        · by_cases hhit : c ≤ (runN j f i : Int)
          · have HH := Lib.hid (hfo.symm.trans (fo_hit (runN j f) c i hlt hhit))
            have HB := Lib.hid hb
            generalize runN j f i = s at hle hhit ⊢
            clear hfo hb
            go_wp2
            go_ret2
            exact ⟨by rw [HH.out]; rfl, HB.out⟩
          · have HH := Lib.hid ((fo_go (runN j f) c i hlt hhit).symm.trans hfo)
            have hp := pw_le j h6
            have HM : (f + i) % pw j < pw j := Nat.mod_lt _ (by omega)
            have hmod : ((f : Int) + (i : Int)) % (pw j : Int) = (((f + i) % pw j : Nat) : Int) := by simp
            have HP := Lib.hid (fun w => power_any j w h6)
            have H2 := Lib.hid (fun w => stepChanges_any ((f + i) % pw j) j w h1 h6 HM)
            have HS : Hid (runN j f (i + 1) = runN j f i + stepN j ((f + i) % pw j)) := rfl
            have hs7 := stepN_le j ((f + i) % pw j)
            have HB := Lib.hid hb
            clear hb hfo
            generalize runN j f i = s at hle HS hhit ⊢
            generalize stepN j ((f + i) % pw j) = d at HS H2 hs7
            generalize (f + i) % pw j = r at hmod H2 HM
            generalize pw j = q at hp hmod HP HM
            clear HM
            go_wp2_with (first | (go_at_call 62; refine (HP.out _).mono ?_; rintro e w1 ⟨rfl, rfl⟩) | (go_at_call 59; refine (H2.out _).mono ?_; rintro e w2 ⟨rfl, hb2⟩))
            go_roundw
            case rel => exact ⟨i + 1, by omega, by go_num, by rw [HS.out]; go_num, HH.out, bt HB.out hb2⟩
            case measure => simp [intOf]; omega
        · obtain rfl : i = 1001 := by omega
          have HH := Lib.hid hfo
          have HB := Lib.hid hb
          clear hfo hb
          go_wp2
          go_ret2
          exact ⟨by rw [← HH.out]; rfl, HB.out⟩

    · rw [decide_eq_false hs, if_neg (by simp)]
      have hdc : decide (c < 0) = true := decide_eq_true (by omega)
      go_enter Try.func42, Try.ntmps42
      go_wp2_with ((go_at_call 56; refine (H1.out _).mono ?_; rintro e w1 ⟨rfl, rfl⟩))
      go_ret2
      exact ⟨rfl, Below.refl _ _⟩
  · have hc' : isCtr a k = false := by simpa using hc
    rw [hc'] at H1 ⊢
    rw [Bool.false_and, if_neg (by simp)]
    clear hc hc'
    go_enter Try.func42, Try.ntmps42
    go_wp2_with ((go_at_call 56; refine (H1.out _).mono ?_; rintro e w1 ⟨rfl, rfl⟩))
    go_ret2
    exact ⟨rfl, Below.refl _ _⟩
theorem st_zeroO : isSt 0 = true := rfl

set_option maxRecDepth 100000 in
set_option maxHeartbeats 2000000 in
theorem specFirstOver_any (a k c : Int) (w : World) :
    Calls Try.prog 41 #[.int .i64 a, .int .i64 k, .int .i64 c] w fun e w' => e = .returned (.tuple #[.int .i64 (foI a k c).1, .bool (foI a k c).2]) ∧ Below w.heap.size w w' := by
  have H1 := Lib.hid (l4Good_any a 0 k)
  rw [st_zeroO, Bool.and_true] at H1
  unfold foI
  by_cases hc : isCtr a k = true
  · rw [hc] at H1 ⊢
    obtain ⟨f, j, rfl, rfl, h1, h6, hf⟩ := ctr_nat hc
    have hf6 : f ≤ 1000000 := by have := (pw_le j h6).2; omega
    clear hc hf
    by_cases hs : 0 ≤ c
    · rw [decide_eq_true hs, if_pos (show (true && true) = true from rfl), Int.toNat_natCast, Int.toNat_natCast]
      have hdc : decide (c < 0) = false := decide_eq_false (by omega)
      go_enter Try.func41, Try.ntmps41
      go_wp2_with ((go_at_call 54; refine (H1.out _).mono ?_; rintro e w1 ⟨rfl, rfl⟩))

      go_loopw [8, 9] (fun sv iv wr => ∃ i : Nat, i ≤ 1001 ∧ iv = .int .i64 i ∧ sv = .int .i64 (runN j f i : Nat) ∧ fo (runN j f) c (1001 - i) i = fo (runN j f) c 1001 0 ∧ Below w.heap.size w wr) (fun _ iv _ => 1001 - (intOf iv).toNat)
      case atStart => exact ⟨0, by omega, rfl, rfl, rfl, Below.refl _ _⟩
      case round =>
        obtain ⟨i, hi, rfl, rfl, hfo, hb⟩ := hrel
        have hle := runN_le6 j f i h6 hi
        by_cases hlt : i < 1001
        · by_cases hhit : c ≤ (runN j f i : Int)
          · have HH := Lib.hid (hfo.symm.trans (fo_hit (runN j f) c i hlt hhit))
            have HB := Lib.hid hb
            generalize runN j f i = s at hle hhit ⊢
            clear hfo hb
            go_wp2
            go_ret2
            exact ⟨by rw [HH.out]; rfl, HB.out⟩
          · have HH := Lib.hid ((fo_go (runN j f) c i hlt hhit).symm.trans hfo)
            have hp := pw_le j h6
            have HM : (f + i) % pw j < pw j := Nat.mod_lt _ (by omega)
            have hmod : ((f : Int) + (i : Int)) % (pw j : Int) = (((f + i) % pw j : Nat) : Int) := by simp
            have HP := Lib.hid (fun w => l4Top_any j w h6)
            have H2 := Lib.hid (fun w => l4Step_any ((f + i) % pw j) j w h1 h6 HM)
            have HS : Hid (runN j f (i + 1) = runN j f i + stepN j ((f + i) % pw j)) := rfl
            have hs7 := stepN_le j ((f + i) % pw j)
            have HB := Lib.hid hb
            clear hb hfo
            generalize runN j f i = s at hle HS hhit ⊢
            generalize stepN j ((f + i) % pw j) = d at HS H2 hs7
            generalize (f + i) % pw j = r at hmod H2 HM
            generalize pw j = q at hp hmod HP HM
            clear HM
            go_wp2_with (first | (go_at_call 63; refine (HP.out _).mono ?_; rintro e w1 ⟨rfl, rfl⟩) | (go_at_call 58; refine (H2.out _).mono ?_; rintro e w2 ⟨rfl, hb2⟩))
            go_roundw
            case rel => exact ⟨i + 1, by omega, by go_num, by rw [HS.out]; go_num, HH.out, bt HB.out hb2⟩
            case measure => simp [intOf]; omega
        · obtain rfl : i = 1001 := by omega
          have HH := Lib.hid hfo
          have HB := Lib.hid hb
          clear hfo hb
          go_wp2
          go_ret2
          exact ⟨by rw [← HH.out]; rfl, HB.out⟩

    · rw [decide_eq_false hs, if_neg (by simp)]
      have hdc : decide (c < 0) = true := decide_eq_true (by omega)
      go_enter Try.func41, Try.ntmps41
      go_wp2_with ((go_at_call 54; refine (H1.out _).mono ?_; rintro e w1 ⟨rfl, rfl⟩))
      go_ret2
      exact ⟨rfl, Below.refl _ _⟩
  · have hc' : isCtr a k = false := by simpa using hc
    rw [hc'] at H1 ⊢
    rw [Bool.false_and, if_neg (by simp)]
    clear hc hc'
    go_enter Try.func41, Try.ntmps41
    go_wp2_with ((go_at_call 54; refine (H1.out _).mono ?_; rintro e w1 ⟨rfl, rfl⟩))
    go_ret2
    exact ⟨rfl, Below.refl _ _⟩
set_option maxHeartbeats 1000000 in
theorem walkFnExactFirstOver (a : Int) (k : Int) (c : Int) (w : World) (wa : (Lit.int .i64 a).wf = true) (wk : (Lit.int .i64 k).wf = true) (wc : (Lit.int .i64 c).wf = true) :
    Calls Try.prog 12 #[.int .i64 a, .int .i64 k, .int .i64 c] w fun e w' => e = .returned (.bool true) ∧ Below w.heap.size w w' := by
  have H1 := Lib.hid (specFirstOver_any a k c)
  have H2 := Lib.hid (implFirstOver_any a k c)
  generalize (foI a k c).1 = r0 at H1 H2
  generalize (foI a k c).2 = r1 at H1 H2
  go_enter Try.func12, Try.ntmps12
  go_wp2_with (first | (go_at_call 41; refine (H1.out _).mono ?_; rintro e w1 ⟨rfl, hb1⟩) | (go_at_call 42; refine (H2.out _).mono ?_; rintro e w2 ⟨rfl, hb2⟩))
  go_ret
  exact ⟨rfl, bt hb1 hb2⟩

end Go.Proofs.Ytpijpelmebaalaa
