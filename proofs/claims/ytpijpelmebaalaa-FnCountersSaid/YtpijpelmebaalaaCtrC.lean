/-
  Contracts: powers of ten, is it a counter (the reference and the program). No condition.
-/
import Derived.Test.YtpijpelmebaalaaCtrP
namespace Go.Proofs.Ytpijpelmebaalaa
open Go.RowKit
set_option linter.unusedVariables false


set_option maxHeartbeats 400000 in
theorem power_any (k : Nat) (w : World) (hk : k ≤ 6) :
    Calls Try.prog 62 #[.int .i64 (k : Int)] w fun e w' => e = .returned (.int .i64 (pw k : Nat)) ∧ w = w' := by
  go_enter Try.func62, Try.ntmps62
  go_wp2
  go_loop [3, 5] (fun m i => ∃ j : Nat, j ≤ k ∧ i = .int .i64 j ∧ m = .int .i64 (pw j : Nat)) (fun _ i => k - (intOf i).toNat)
  case atStart => exact ⟨0, by omega, rfl, rfl⟩
  case round =>
    obtain ⟨j, hj, rfl, rfl⟩ := hrel
    have hp := pw_le j (by omega)
    by_cases hlt : j < k
    · have HS : Hid (pw (j + 1) = 10 * pw j) := rfl
      generalize pw j = q at hp HS
      go_wp2
      go_round
      case rel => exact ⟨j + 1, by omega, by go_num, by rw [HS.out]; go_num⟩
      case measure => simp [intOf]; omega
    · obtain rfl : j = k := by omega
      go_wp2
      go_ret
      exact ⟨rfl, rfl⟩

set_option maxHeartbeats 400000 in
theorem l4Top_any (k : Nat) (w : World) (hk : k ≤ 6) :
    Calls Try.prog 63 #[.int .i64 (k : Int)] w fun e w' => e = .returned (.int .i64 (pw k : Nat)) ∧ w = w' := by
  go_enter Try.func63, Try.ntmps63
  go_wp2
  go_loop [3, 4] (fun m i => ∃ j : Nat, j ≤ k ∧ i = .int .i64 j ∧ m = .int .i64 (pw j : Nat)) (fun _ i => k - (intOf i).toNat)
  case atStart => exact ⟨0, by omega, rfl, rfl⟩
  case round =>
    obtain ⟨j, hj, rfl, rfl⟩ := hrel
    have hp := pw_le j (by omega)
    by_cases hlt : j < k
    · have HS : Hid (pw (j + 1) = 10 * pw j) := rfl
      generalize pw j = q at hp HS
      go_wp2
      go_round
      case rel => exact ⟨j + 1, by omega, by go_num, by rw [HS.out]; go_num⟩
      case measure => simp [intOf]; omega
    · obtain rfl : j = k := by omega
      go_wp2
      go_ret
      exact ⟨rfl, rfl⟩

theorem ctr_no1 {n k : Int} (h : ¬ 1 ≤ k) : isCtr n k = false := decide_eq_false (by omega)
theorem ctr_no2 {n k : Int} (h : ¬ k ≤ 6) : isCtr n k = false := decide_eq_false (by omega)
theorem ctr_no3 {n k : Int} (h : ¬ 0 ≤ n) : isCtr n k = false := decide_eq_false (by omega)
theorem ctr_no4 {n : Int} {j p : Nat} (hp : pw j = p) (h : ¬ n ≤ (p : Int) - 1) : isCtr n j = false := decide_eq_false (by rw [Int.toNat_natCast, hp]; omega)
theorem ctr_yes {n : Int} {j p : Nat} (hp : pw j = p) (h1 : 1 ≤ j) (h6 : j ≤ 6) (h0 : 0 ≤ n) (h : n ≤ (p : Int) - 1) : isCtr n j = true := decide_eq_true (by rw [Int.toNat_natCast, hp]; omega)

set_option maxHeartbeats 1000000 in
theorem isCounter_any (n k : Int) (w : World) :
    Calls Try.prog 56 #[.int .i64 n, .int .i64 k] w fun e w' => e = .returned (.bool (isCtr n k)) ∧ w = w' := by
  by_cases h1 : 1 ≤ k
  · by_cases h6 : k ≤ 6
    · obtain ⟨j, rfl⟩ := Int.eq_ofNat_of_zero_le (by omega : 0 ≤ k)
      have HP := Lib.hid (power_any j)
      have hp := pw_le j (by omega)
      have hj6 : j ≤ 6 := by omega
      obtain ⟨q, hq⟩ : ∃ q, pw j = q := ⟨_, rfl⟩
      have HE := Lib.hid hq
      rw [hq] at HP hp
      clear hq
      by_cases h0 : 0 ≤ n
      · by_cases hn : n ≤ (q : Int) - 1
        · rw [ctr_yes HE.out (by omega) hj6 h0 hn]
          go_enter Try.func56, Try.ntmps56
          go_wp2_with (first | (go_at_call 62; refine (HP.out _ hj6).mono ?_; rintro e w' ⟨rfl, rfl⟩) | go_in)
          go_ret
          exact ⟨rfl, rfl⟩
        · rw [ctr_no4 HE.out hn]
          go_enter Try.func56, Try.ntmps56
          go_wp2_with (first | (go_at_call 62; refine (HP.out _ hj6).mono ?_; rintro e w' ⟨rfl, rfl⟩) | go_in)
          go_ret
          first | exact ⟨rfl, rfl⟩ | exact ⟨ret_bool (decide_eq_false hn), rfl⟩ | exact ⟨ret_bool (by simp [hn]), rfl⟩
      · rw [ctr_no3 h0]
        go_enter Try.func56, Try.ntmps56
        go_wp2_with (first | (go_at_call 62; refine (HP.out _ hj6).mono ?_; rintro e w' ⟨rfl, rfl⟩) | go_in)
        go_ret
        exact ⟨rfl, rfl⟩
    · rw [ctr_no2 h6]
      go_enter Try.func56, Try.ntmps56
      go_wp2
      go_ret
      exact ⟨rfl, rfl⟩
  · rw [ctr_no1 h1]
    go_enter Try.func56, Try.ntmps56
    go_wp2
    go_ret
    exact ⟨rfl, rfl⟩

set_option maxHeartbeats 1000000 in
theorem l4Good_any (n s k : Int) (w : World) :
    Calls Try.prog 54 #[.int .i64 n, .int .i64 s, .int .i64 k] w fun e w' => e = .returned (.bool (isCtr n k && isSt s)) ∧ w = w' := by
  by_cases h1 : 1 ≤ k
  · by_cases h6 : k ≤ 6
    · obtain ⟨j, rfl⟩ := Int.eq_ofNat_of_zero_le (by omega : 0 ≤ k)
      have HP := Lib.hid (l4Top_any j)
      have hp := pw_le j (by omega)
      have hj6 : j ≤ 6 := by omega
      obtain ⟨q, hq⟩ : ∃ q, pw j = q := ⟨_, rfl⟩
      have HE := Lib.hid hq
      rw [hq] at HP hp
      clear hq
      by_cases h0 : 0 ≤ n
      · by_cases hn : n ≤ (q : Int) - 1
        · rw [ctr_yes HE.out (by omega) hj6 h0 hn]
          unfold isSt
          by_cases hs0 : 0 ≤ s <;> by_cases hs1 : s ≤ 1000
          all_goals (go_enter Try.func54, Try.ntmps54)
          all_goals (go_wp2_with (first | (go_at_call 63; refine (HP.out _ hj6).mono ?_; rintro e w' ⟨rfl, rfl⟩) | go_in))
          all_goals go_ret
          all_goals exact ⟨by (simp [*] <;> (intros; omega)), rfl⟩
        · rw [ctr_no4 HE.out hn]
          go_enter Try.func54, Try.ntmps54
          go_wp2_with (first | (go_at_call 63; refine (HP.out _ hj6).mono ?_; rintro e w' ⟨rfl, rfl⟩) | go_in)
          go_ret
          first | exact ⟨rfl, rfl⟩ | exact ⟨ret_bool (decide_eq_false hn), rfl⟩ | exact ⟨ret_bool (by simp [hn]), rfl⟩
      · rw [ctr_no3 h0]
        go_enter Try.func54, Try.ntmps54
        go_wp2_with (first | (go_at_call 63; refine (HP.out _ hj6).mono ?_; rintro e w' ⟨rfl, rfl⟩) | go_in)
        go_ret
        exact ⟨rfl, rfl⟩
    · rw [ctr_no2 h6]
      go_enter Try.func54, Try.ntmps54
      go_wp2
      go_ret
      exact ⟨rfl, rfl⟩
  · rw [ctr_no1 h1]
    go_enter Try.func54, Try.ntmps54
    go_wp2
    go_ret
    exact ⟨rfl, rfl⟩

end Go.Proofs.Ytpijpelmebaalaa
