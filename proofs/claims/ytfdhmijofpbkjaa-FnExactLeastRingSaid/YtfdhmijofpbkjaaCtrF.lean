/-
  Some steps, the first step over a number; the contract of within. No condition.
-/
import Derived.Test.YtfdhmijofpbkjaaCtrC
namespace Go.Proofs.Ytfdhmijofpbkjaa
open Go.RowKit
set_option linter.unusedVariables false


def inB (n lo hi : Int) : Bool := decide (lo ≤ n) && decide (n ≤ hi)
set_option maxHeartbeats 400000 in
theorem within_any (n lo hi : Int) (w : World) :
    Calls Try.prog 39 #[.int .i64 n, .int .i64 lo, .int .i64 hi] w fun e w' => e = .returned (.bool (inB n lo hi)) ∧ w = w' := by
  unfold inB
  by_cases h0 : lo ≤ n
  · by_cases h1 : n ≤ hi
    · rw [decide_eq_true h0, decide_eq_true h1]
      go_enter Try.func39, Try.ntmps39
      go_wp2
      go_ret
      exact ⟨rfl, rfl⟩
    · rw [decide_eq_true h0, decide_eq_false h1]
      have h2 : decide (n ≤ hi) = false := decide_eq_false h1
      go_enter Try.func39, Try.ntmps39
      go_wp2
      go_ret
      exact ⟨ret_bool (by simp), rfl⟩
  · rw [decide_eq_false h0]
    go_enter Try.func39, Try.ntmps39
    go_wp2
    go_ret
    exact ⟨ret_bool (by simp), rfl⟩
set_option maxHeartbeats 400000 in
theorem l1In_any (n lo hi : Int) (w : World) :
    Calls Try.prog 19 #[.int .i64 n, .int .i64 lo, .int .i64 hi] w fun e w' => e = .returned (.bool (inB n lo hi)) ∧ w = w' := by
  unfold inB
  by_cases h0 : lo ≤ n
  · by_cases h1 : n ≤ hi
    · rw [decide_eq_true h0, decide_eq_true h1]
      go_enter Try.func19, Try.ntmps19
      go_wp2
      go_ret
      exact ⟨rfl, rfl⟩
    · rw [decide_eq_true h0, decide_eq_false h1]
      have h2 : decide (n ≤ hi) = false := decide_eq_false h1
      go_enter Try.func19, Try.ntmps19
      go_wp2
      go_ret
      exact ⟨ret_bool (by simp), rfl⟩
  · rw [decide_eq_false h0]
    go_enter Try.func19, Try.ntmps19
    go_wp2
    go_ret
    exact ⟨ret_bool (by simp), rfl⟩
theorem in_st (s : Int) : inB s 0 1000 = isSt s := by
  unfold inB isSt
  by_cases h0 : 0 ≤ s <;> by_cases h1 : s ≤ 1000 <;> simp [h0, h1]
theorem withinSt_any (s : Int) (w : World) : Calls Try.prog 39 #[.int .i64 s, .int .i64 0, .int .i64 1000] w fun e w' => e = .returned (.bool (isSt s)) ∧ w = w' := by
  rw [← in_st]; exact within_any s 0 1000 w

theorem st_nat {s : Int} (h : isSt s = true) : ∃ m : Nat, s = m ∧ m ≤ 1000 := by
  unfold isSt at h
  simp only [decide_eq_true_eq] at h
  obtain ⟨m, rfl⟩ := Int.eq_ofNat_of_zero_le h.1
  exact ⟨m, rfl, by omega⟩
def runI (f s k : Int) : Int × Bool := if isCtr f k && isSt s then (((runN k.toNat f.toNat s.toNat : Nat) : Int), true) else (0, false)

/-- The first place from i on, within m places, at which g is c at least. -/
def fo (g : Nat → Nat) (c : Int) : Nat → Nat → Int × Bool
  | 0, _ => (0, false)
  | m + 1, i => if c ≤ (g i : Int) then ((i : Int), true) else fo g c m (i + 1)
theorem fo_hit (g : Nat → Nat) (c : Int) (i : Nat) (hi : i < 1001) (h : c ≤ (g i : Int)) : fo g c (1001 - i) i = ((i : Int), true) := by
  rw [show 1001 - i = (1000 - i) + 1 by omega, fo, if_pos h]
theorem fo_go (g : Nat → Nat) (c : Int) (i : Nat) (hi : i < 1001) (h : ¬ c ≤ (g i : Int)) : fo g c (1001 - i) i = fo g c (1001 - (i + 1)) (i + 1) := by
  rw [show 1001 - i = (1001 - (i + 1)) + 1 by omega, fo, if_neg h]
def foI (f k c : Int) : Int × Bool := if isCtr f k && decide (0 ≤ c) then fo (runN k.toNat f.toNat) c 1001 0 else (0, false)

end Go.Proofs.Ytfdhmijofpbkjaa
