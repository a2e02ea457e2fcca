/-
  Contracts of the two searches for a digit. No condition.
-/
import Derived.Test.YthgjghgkjhkbbaaGreatDoorDigit
import Derived.Lib.Hide
namespace Go.Proofs.YthgjghgkjhkbbaaGreatDoor
open Go.RowKit
set_option linter.unusedVariables false

/-- The digit of a cell, or -1. -/
def digOf (c : Int) : Int := if c = 63 then 0 else if c = 6 then 1 else if c = 91 then 2 else if c = 79 then 3 else if c = 102 then 4 else if c = 109 then 5 else if c = 125 then 6 else if c = 7 then 7 else if c = 127 then 8 else if c = 111 then 9 else -1
theorem digOf_hit (c : Int) (k : Nat) (hk : k < 10) (h : dig.getD k 0 = c) : digOf c = k := by
  subst h
  rcases ten k hk with rfl | rfl | rfl | rfl | rfl | rfl | rfl | rfl | rfl | rfl <;> rfl
theorem digOf_miss (c : Int) (h : ∀ j, j < 10 → dig.getD j 0 ≠ c) : digOf c = -1 := by
  have h0 := h 0 (by omega)
  have h1 := h 1 (by omega)
  have h2 := h 2 (by omega)
  have h3 := h 3 (by omega)
  have h4 := h 4 (by omega)
  have h5 := h 5 (by omega)
  have h6 := h 6 (by omega)
  have h7 := h 7 (by omega)
  have h8 := h 8 (by omega)
  have h9 := h 9 (by omega)
  simp [dig] at h0 h1 h2 h3 h4 h5 h6 h7 h8 h9
  unfold digOf
  omega
theorem digOf_rng (c : Int) : -1 ≤ digOf c ∧ digOf c ≤ 9 := by unfold digOf; omega

set_option maxHeartbeats 1000000 in
theorem l2DigitOf_any (c : Int) (w : World) :
    Calls Tryz.prog 75 #[.int .i64 c] w fun e w' => e = .returned (.int .i64 (digOf c)) ∧ Below w.heap.size w w' := by
  go_enter Tryz.func75, Tryz.ntmps75
  go_wp2
  go_loopw [3] (fun i wr => ∃ k : Nat, k ≤ 10 ∧ i = .int .i64 k ∧ (∀ j, j < k → dig.getD j 0 ≠ c) ∧ Below w.heap.size w wr) (fun i _ => 10 - (intOf i).toNat)
  case atStart => exact ⟨0, by omega, rfl, fun j hj => absurd hj (Nat.not_lt_zero _), Below.refl _ _⟩
  case round =>
    obtain ⟨k, hk, rfl, hne, hb⟩ := hrel
    have HN : Hid (∀ j, j < k → dig.getD j 0 ≠ c) := hne
    clear hne
    by_cases hlt : k < 10
    · generalize hx : dig.getD k 0 = x at *
      have HX : Hid (dig.getD k 0 = x) := hx
      clear hx
      by_cases he : x = c
      · have HE : Hid (x = c) := he
        have hb1 : (x == c) = true := by simpa using he
        clear he
        go_wp2_with ((go_at_call 65; refine (l2Digit_any k _ hlt).mono ?_; rintro e w1 ⟨rfl, hb1⟩; rw [HX.out]))
        go_ret
        exact ⟨by rw [digOf_hit c k hlt (HX.out.trans HE.out)]; rfl, bt hb (by assumption)⟩
      · have hb1 : (x == c) = false := by simpa using he
        have HE : Hid (¬ x = c) := he
        clear he
        go_wp2_with ((go_at_call 65; refine (l2Digit_any k _ hlt).mono ?_; rintro e w1 ⟨rfl, hb1⟩; rw [HX.out]))
        go_roundw
        case rel => exact ⟨k + 1, by omega, by go_num, fun j hj => by by_cases e : j = k; (subst e; rw [HX.out]; exact HE.out); exact HN.out j (by omega), bt hb (by assumption)⟩
        case measure => simp [intOf]; omega
    · obtain rfl : k = 10 := by omega
      go_wp2
      go_ret
      exact ⟨by rw [digOf_miss c HN.out]; rfl, hb⟩

set_option maxHeartbeats 1000000 in
theorem sliceIndex_any (b : Nat) (c : Int) (w : World) (hc : ∀ d, d < 10 → w.cell? ⟨b, d, none⟩ = some (.int .i64 (dig.getD d 0))) :
    Calls Tryz.prog 74 #[.slice (some ⟨b, 0, none⟩) 10 10, .int .i64 c] w fun e w' => e = .returned (.int .i64 (digOf c)) ∧ w = w' := by
  have HC := Lib.hid hc
  clear hc
  go_enter Tryz.func74, Tryz.ntmps74
  go_wp2
  go_loop [8] (fun i => ∃ k : Nat, k ≤ 10 ∧ i = .int .i64 k ∧ (∀ j, j < k → dig.getD j 0 ≠ c)) (fun i => 10 - (intOf i).toNat)
  case atStart => exact ⟨0, by omega, rfl, fun j hj => absurd hj (Nat.not_lt_zero _)⟩
  case round =>
    obtain ⟨k, hk, rfl, hne⟩ := hrel
    have HN : Hid (∀ j, j < k → dig.getD j 0 ≠ c) := hne
    clear hne
    by_cases hlt : k < 10
    · have hcell := HC.out k hlt
      generalize hx : dig.getD k 0 = x at hcell
      have HX : Hid (dig.getD k 0 = x) := hx
      clear hx
      by_cases he : x = c
      · have HE : Hid (x = c) := he
        have hb1 : (c == x) = true := by simpa using he.symm
        clear he
        go_wp2
        go_ret
        exact ⟨by rw [digOf_hit c k hlt (HX.out.trans HE.out)]; rfl, rfl⟩
      · have hb1 : (c == x) = false := by simpa using fun h : c = x => he h.symm
        have HE : Hid (¬ x = c) := he
        clear he
        go_wp2
        go_round
        case rel => exact ⟨k + 1, by omega, by go_num, fun j hj => by by_cases e : j = k; (subst e; rw [HX.out]; exact HE.out); exact HN.out j (by omega)⟩
        case measure => simp [intOf]; omega
    · obtain rfl : k = 10 := by omega
      go_wp2
      go_ret
      exact ⟨by rw [digOf_miss c HN.out]; rfl, rfl⟩

set_option maxHeartbeats 1000000 in
theorem digitOf_any (c : Int) (w : World) :
    Calls Tryz.prog 45 #[.int .i64 c] w fun e w' => e = .returned (.int .i64 (digOf c)) ∧ Below w.heap.size w w' := by
  go_enter Tryz.func45, Tryz.ntmps45
  go_wp2_with fail
  refine (digitCells_any _).mono ?_
  rintro e w1 ⟨rfl, hb1⟩
  go_wp2_with fail
  refine (sliceIndex_any _ c _ (fun d hd => dig_cell d hd w1 _)).mono ?_
  rintro e w2 ⟨rfl, rfl⟩
  go_wp2
  go_ret
  exact ⟨rfl, bt hb1 ((Below.refl _ _).alloc (Nat.le_refl _) _)⟩

end Go.Proofs.YthgjghgkjhkbbaaGreatDoor
