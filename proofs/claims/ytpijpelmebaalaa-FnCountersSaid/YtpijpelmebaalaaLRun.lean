/-
  The law FnExactRunChanges returns true, whatever the numbers. No condition.
-/
import Derived.Test.YtpijpelmebaalaaCtrE
import Derived.Test.YtpijpelmebaalaaCtrF
namespace Go.Proofs.Ytpijpelmebaalaa
open Go.RowKit
set_option linter.unusedVariables false


set_option maxHeartbeats 2000000 in
theorem implRunChanges_any (a s k : Int) (w : World) :
    Calls Try.prog 23 #[.int .i64 a, .int .i64 s, .int .i64 k] w fun e w' => e = .returned (.tuple #[.int .i64 (runI a s k).1, .bool (runI a s k).2]) ∧ Below w.heap.size w w' := by
  have H1 := Lib.hid (isCounter_any a k)
  have HW := Lib.hid (withinSt_any s)
  unfold runI
  by_cases hc : isCtr a k = true
  · rw [hc] at H1 ⊢
    obtain ⟨f, j, rfl, rfl, h1, h6, hf⟩ := ctr_nat hc
    have hf6 : f ≤ 1000000 := by have := (pw_le j h6).2; omega
    clear hc hf
    by_cases hs : isSt s = true
    · rw [hs] at HW ⊢
      obtain ⟨m, rfl, hm⟩ := st_nat hs
      rw [if_pos (show (true && true) = true from rfl), Int.toNat_natCast, Int.toNat_natCast, Int.toNat_natCast]
      clear hs
      go_enter Try.func23, Try.ntmps23
      go_wp2_with (first | (go_at_call 56; refine (H1.out _).mono ?_; rintro e w1 ⟨rfl, rfl⟩) | (go_at_call 61; refine (HW.out _).mono ?_; rintro e w1 ⟨rfl, rfl⟩))
      go_outline

      go_loopw [8, 20] (fun sv iv wr => ∃ i : Nat, i ≤ m ∧ iv = .int .i64 i ∧ sv = .int .i64 (runN j f i : Nat) ∧ Below w.heap.size w wr) (fun _ iv _ => m - (intOf iv).toNat)
      case atStart => exact ⟨0, by omega, rfl, rfl, Below.refl _ _⟩
      case round =>
          obtain ⟨i, hi, rfl, rfl, hb⟩ := hrel
          have hle := runN_le6 j f i h6 (by omega)
          by_cases hlt : i < m
          · have hp := pw_le j h6
            have HM : (f + i) % pw j < pw j := Nat.mod_lt _ (by omega)
            have hmod : ((f : Int) + (i : Int)) % (pw j : Int) = (((f + i) % pw j : Nat) : Int) := by simp
            have HP := Lib.hid (fun w => power_any j w h6)
            have H2 := Lib.hid (fun w => stepChanges_any ((f + i) % pw j) j w h1 h6 HM)
            have HS : Hid (runN j f (i + 1) = runN j f i + stepN j ((f + i) % pw j)) := rfl
            have hs7 := stepN_le j ((f + i) % pw j)
            generalize runN j f i = s at hle HS ⊢
            generalize stepN j ((f + i) % pw j) = d at HS H2 hs7
            generalize (f + i) % pw j = r at hmod H2 HM
            generalize pw j = q at hp hmod HP HM
            have HB := Lib.hid hb
            clear HM hb

            go_wp2_with (first | (go_at_call 62; refine (HP.out _).mono ?_; rintro e w1 ⟨rfl, rfl⟩) | (go_at_call 59; refine (H2.out _).mono ?_; rintro e w2 ⟨rfl, hb2⟩))
            go_roundw
            case rel => exact ⟨i + 1, by omega, by go_num, by rw [HS.out]; go_num, bt HB.out hb2⟩
            case measure => simp [intOf]; omega
          · obtain rfl : i = m := by omega
            go_wp2
            go_ret2
            exact ⟨rfl, hb⟩
    · have hs' : isSt s = false := by simpa using hs
      rw [hs'] at HW ⊢
      rw [if_neg (by simp)]
      clear hs hs'
      go_enter Try.func23, Try.ntmps23
      go_wp2_with (first | (go_at_call 56; refine (H1.out _).mono ?_; rintro e w1 ⟨rfl, rfl⟩) | (go_at_call 61; refine (HW.out _).mono ?_; rintro e w1 ⟨rfl, rfl⟩))
      go_ret2
      exact ⟨rfl, Below.refl _ _⟩
  · have hc' : isCtr a k = false := by simpa using hc
    rw [hc'] at H1 ⊢
    rw [Bool.false_and, if_neg (by simp)]
    clear hc hc'
    go_enter Try.func23, Try.ntmps23
    go_wp2_with ((go_at_call 56; refine (H1.out _).mono ?_; rintro e w1 ⟨rfl, rfl⟩))
    go_ret2
    exact ⟨rfl, Below.refl _ _⟩

set_option maxHeartbeats 2000000 in
theorem l4Run_any (f m j : Nat) (w : World) (h1 : 1 ≤ j) (h6 : j ≤ 6) (hf6 : f ≤ 1000000) (hm : m ≤ 1000) :
    Calls Try.prog 60 #[.int .i64 (f : Int), .int .i64 (m : Int), .int .i64 (j : Int)] w fun e w' => e = .returned (.int .i64 (runN j f m : Nat)) ∧ Below w.heap.size w w' := by
  go_enter Try.func60, Try.ntmps60
  go_wp2
  go_loopw [7, 8] (fun sv iv wr => ∃ i : Nat, i ≤ m ∧ iv = .int .i64 i ∧ sv = .int .i64 (runN j f i : Nat) ∧ Below w.heap.size w wr) (fun _ iv _ => m - (intOf iv).toNat)
  case atStart => exact ⟨0, by omega, rfl, rfl, Below.refl _ _⟩
  case round =>
          obtain ⟨i, hi, rfl, rfl, hb⟩ := hrel
          have hle := runN_le6 j f i h6 (by omega)
          by_cases hlt : i < m
          · have hp := pw_le j h6
            have HM : (f + i) % pw j < pw j := Nat.mod_lt _ (by omega)
            have hmod : ((f : Int) + (i : Int)) % (pw j : Int) = (((f + i) % pw j : Nat) : Int) := by simp
            have HP := Lib.hid (fun w => l4Top_any j w h6)
            have H2 := Lib.hid (fun w => l4Step_any ((f + i) % pw j) j w h1 h6 HM)
            have HS : Hid (runN j f (i + 1) = runN j f i + stepN j ((f + i) % pw j)) := rfl
            have hs7 := stepN_le j ((f + i) % pw j)
            generalize runN j f i = s at hle HS ⊢
            generalize stepN j ((f + i) % pw j) = d at HS H2 hs7
            generalize (f + i) % pw j = r at hmod H2 HM
            generalize pw j = q at hp hmod HP HM
            have HB := Lib.hid hb
            clear HM hb

            go_wp2_with (first | (go_at_call 63; refine (HP.out _).mono ?_; rintro e w1 ⟨rfl, rfl⟩) | (go_at_call 58; refine (H2.out _).mono ?_; rintro e w2 ⟨rfl, hb2⟩))
            go_roundw
            case rel => exact ⟨i + 1, by omega, by go_num, by rw [HS.out]; go_num, bt HB.out hb2⟩
            case measure => simp [intOf]; omega
          · obtain rfl : i = m := by omega
            go_wp2
            go_ret
            exact ⟨rfl, hb⟩

set_option maxHeartbeats 1000000 in
theorem specRunChanges_any (a s k : Int) (w : World) :
    Calls Try.prog 22 #[.int .i64 a, .int .i64 s, .int .i64 k] w fun e w' => e = .returned (.tuple #[.int .i64 (runI a s k).1, .bool (runI a s k).2]) ∧ Below w.heap.size w w' := by
  have H1 := Lib.hid (l4Good_any a s k)
  unfold runI
  by_cases hc : (isCtr a k && isSt s) = true
  · rw [hc] at H1 ⊢
    rw [Bool.and_eq_true] at hc
    obtain ⟨f, j, rfl, rfl, h1, h6, hf⟩ := ctr_nat hc.1
    obtain ⟨m, rfl, hm⟩ := st_nat hc.2
    have hf6 : f ≤ 1000000 := by have := (pw_le j h6).2; omega
    have H2 := Lib.hid (fun w => l4Run_any f m j w h1 h6 hf6 hm)
    rw [if_pos rfl, Int.toNat_natCast, Int.toNat_natCast, Int.toNat_natCast]
    generalize runN j f m = r at H2 ⊢
    clear hc hf
    go_enter Try.func22, Try.ntmps22
    go_wp2_with (first | (go_at_call 54; refine (H1.out _).mono ?_; rintro e w1 ⟨rfl, rfl⟩) | (go_at_call 60; refine (H2.out _).mono ?_; rintro e w2 ⟨rfl, hb2⟩))
    go_ret2
    exact ⟨rfl, hb2⟩
  · have hc' : (isCtr a k && isSt s) = false := by simpa using hc
    rw [hc'] at H1 ⊢
    rw [if_neg (by simp)]
    clear hc hc'
    go_enter Try.func22, Try.ntmps22
    go_wp2_with ((go_at_call 54; refine (H1.out _).mono ?_; rintro e w1 ⟨rfl, rfl⟩))
    go_ret2
    exact ⟨rfl, Below.refl _ _⟩

set_option maxHeartbeats 1000000 in
theorem walkFnExactRunChanges (a : Int) (s : Int) (k : Int) (w : World) (wa : (Lit.int .i64 a).wf = true) (ws : (Lit.int .i64 s).wf = true) (wk : (Lit.int .i64 k).wf = true) :
    Calls Try.prog 5 #[.int .i64 a, .int .i64 s, .int .i64 k] w fun e w' => e = .returned (.bool true) ∧ Below w.heap.size w w' := by
  have H1 := Lib.hid (specRunChanges_any a s k)
  have H2 := Lib.hid (implRunChanges_any a s k)
  generalize (runI a s k).1 = r0 at H1 H2
  generalize (runI a s k).2 = r1 at H1 H2
  go_enter Try.func5, Try.ntmps5
  go_wp2_with (first | (go_at_call 22; refine (H1.out _).mono ?_; rintro e w1 ⟨rfl, hb1⟩) | (go_at_call 23; refine (H2.out _).mono ?_; rintro e w2 ⟨rfl, hb2⟩))
  go_ret
  exact ⟨rfl, bt hb1 hb2⟩

end Go.Proofs.Ytpijpelmebaalaa
