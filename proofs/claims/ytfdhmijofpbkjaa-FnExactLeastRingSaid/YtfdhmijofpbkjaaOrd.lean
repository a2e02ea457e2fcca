/-
  Contracts: does a number stand in the first elements of a list, is a list an order (the reference and the program).
-/
import Derived.Test.YtfdhmijofpbkjaaOrdP
import Derived.Test.YtfdhmijofpbkjaaOwn
import Derived.Test.YtfdhmijofpbkjaaCtrF
import Derived.Deep.QuietTactic
import Derived.BigQuiet
namespace Go.Proofs.Ytfdhmijofpbkjaa
open Go.RowKit
set_option linter.unusedVariables false


/-- The place of the first x, or -1. -/
def firstAt (x : Int) : List Int → Int
  | [] => -1
  | c :: t => if c = x then 0 else (if firstAt x t < 0 then -1 else firstAt x t + 1)
theorem firstAt_rng (x : Int) (xs : List Int) : -1 ≤ firstAt x xs ∧ firstAt x xs ≤ xs.length := by
  induction xs with
  | nil => simp [firstAt]
  | cons c t ih => simp only [firstAt, List.length_cons]; split <;> (try split) <;> omega
theorem firstAt_mem (x : Int) (xs : List Int) : 0 ≤ firstAt x xs ↔ x ∈ xs := by
  induction xs with
  | nil => simp [firstAt]
  | cons c t ih =>
    have hr := firstAt_rng x t
    have e : firstAt x (c :: t) = if c = x then 0 else (if firstAt x t < 0 then -1 else firstAt x t + 1) := rfl
    rw [e, List.mem_cons, ← ih]
    by_cases h : c = x
    · rw [if_pos h]; exact ⟨fun _ => .inl h.symm, fun _ => Int.le_refl 0⟩
    · rw [if_neg h]
      have h' : ¬ x = c := fun e => h e.symm
      split <;> (constructor <;> intro h3)
      · omega
      · rcases h3 with h3 | h3
        · exact absurd h3 h'
        · omega
      · exact .inr (by omega)
      · omega
/-- Does x stand in the first n elements? -/
def hasB (x : Int) (xs : List Int) (n : Nat) : Bool := (xs.take n).contains x
theorem hasB_neg (x : Int) (xs : List Int) (n : Nat) : decide (0 ≤ firstAt x (xs.take n)) = hasB x xs n := by
  unfold hasB
  have h := firstAt_mem x (xs.take n)
  by_cases hm : x ∈ xs.take n
  · rw [decide_eq_true (h.2 hm)]; exact (List.contains_iff_mem.2 hm).symm
  · rw [decide_eq_false (fun hh => hm (h.1 hh))]
    cases hc : (xs.take n).contains x with
    | false => rfl
    | true => exact absurd (List.contains_iff_mem.1 hc) hm
theorem okAt_is (xs : List Int) (i : Nat) : okAt xs i = (isD (xs.getD i 0) && !hasB (xs.getD i 0) xs i) := rfl
theorem firstAt_hit (x : Int) (xs : List Int) (n k : Nat) (hn : n ≤ xs.length) (hk : k < n) (h : ∀ j, j < k → xs.getD j 0 ≠ x) (hb : xs.getD k 0 = x) : firstAt x (xs.take n) = k := by
  induction xs generalizing k n with
  | nil => simp at hn; omega
  | cons c t ih =>
    obtain ⟨n, rfl⟩ : ∃ m, n = m + 1 := ⟨n - 1, by omega⟩
    cases k with
    | zero => simp at hb; simp [firstAt, hb]
    | succ k =>
      have h0 := h 0 (by omega)
      simp at h0
      have := ih n k (by simpa using hn) (by omega) (fun j hj => by have := h (j + 1) (by omega); simpa using this) (by simpa using hb)
      simp only [List.take_succ_cons, firstAt, if_neg h0]
      rw [this, if_neg (by omega)]
      omega
theorem firstAt_miss (x : Int) (xs : List Int) (n : Nat) (hn : n ≤ xs.length) (h : ∀ j, j < n → xs.getD j 0 ≠ x) : firstAt x (xs.take n) = -1 := by
  induction xs generalizing n with
  | nil => simp [firstAt]
  | cons c t ih =>
    cases n with
    | zero => simp [firstAt]
    | succ n =>
      have h0 := h 0 (by omega)
      simp at h0
      have := ih n (by simpa using hn) (fun j hj => by have := h (j + 1) (by omega); simpa using this)
      simp only [List.take_succ_cons, firstAt, if_neg h0]
      rw [this]; rfl

set_option maxHeartbeats 1000000 in
theorem indexI_any (g cap n : Nat) (xs : List Int) (x : Int) (w : World) (hn : n ≤ xs.length) (hx : xs.length ≤ 1073741824) (hc : ∀ j, j < xs.length → w.cell? ⟨g, j, none⟩ = some (.int .i64 (xs.getD j 0))) :
    Calls Try.prog 40 #[.slice (some ⟨g, 0, none⟩) n cap, .int .i64 x] w fun e w' => e = .returned (.int .i64 (firstAt x (xs.take n))) ∧ w = w' := by
  have HC := Lib.hid hc
  have HN := Lib.hid hn
  have hn' : n ≤ 1073741824 := by omega
  clear hc hn hx
  go_enter Try.func40, Try.ntmps40
  go_wp2
  go_loop [8] (fun iv => ∃ i : Nat, i ≤ n ∧ iv = .int .i64 i ∧ ∀ j, j < i → xs.getD j 0 ≠ x) (fun iv => n - (intOf iv).toNat)
  case atStart => exact ⟨0, by omega, rfl, fun j hj => absurd hj (Nat.not_lt_zero _)⟩
  case round =>
    obtain ⟨i, hi, rfl, hall⟩ := hrel
    have HA := Lib.hid hall
    clear hall
    by_cases hlt : i < n
    · have hcell := HC.out i (Nat.lt_of_lt_of_le hlt HN.out)
      generalize hy : xs.getD i 0 = y at hcell
      have HY := Lib.hid hy
      clear hy
      by_cases he : y = x
      · have HE := Lib.hid he
        have hb1 : (x == y) = true := by simpa using he.symm
        clear he
        go_wp2
        go_ret
        exact ⟨by rw [firstAt_hit x xs n i HN.out hlt HA.out (HY.out.trans HE.out)]; rfl, rfl⟩
      · have hb1 : (x == y) = false := by simpa using fun h : x = y => he h.symm
        have HE := Lib.hid he
        clear he
        go_wp2
        go_round
        case rel => exact ⟨i + 1, by omega, by go_num, fun j hj => by by_cases e : j = i; (subst e; rw [HY.out]; exact HE.out); exact HA.out j (by omega)⟩
        case measure => simp [intOf]; omega
    · obtain rfl : i = n := by omega
      go_wp2
      go_ret
      exact ⟨by rw [firstAt_miss x xs i HN.out HA.out]; rfl, rfl⟩

set_option maxHeartbeats 1000000 in
theorem containsI_any (g cap n : Nat) (xs : List Int) (x : Int) (w : World) (hn : n ≤ xs.length) (hx : xs.length ≤ 1073741824) (hc : ∀ j, j < xs.length → w.cell? ⟨g, j, none⟩ = some (.int .i64 (xs.getD j 0))) :
    Calls Try.prog 30 #[.slice (some ⟨g, 0, none⟩) n cap, .int .i64 x] w fun e w' => e = .returned (.bool (hasB x xs n)) ∧ w = w' := by
  rw [← hasB_neg]
  have hr := firstAt_rng x (xs.take n)
  have H := Lib.hid (indexI_any g cap n xs x w hn hx hc)
  generalize firstAt x (xs.take n) = d at H hr
  clear hc hn
  go_enter Try.func30, Try.ntmps30
  go_wp2_with ((go_at_call 40; refine H.out.mono ?_; rintro e w1 ⟨rfl, rfl⟩))
  go_ret
  exact ⟨rfl, rfl⟩

theorem has_yes (x : Int) (xs : List Int) (n k : Nat) (hn : n ≤ xs.length) (hk : k < n) (hb : xs.getD k 0 = x) : hasB x xs n = true := by
  unfold hasB
  have hl : k < xs.length := by omega
  rw [List.contains_iff_mem]
  have e : xs[k] = x := by rw [← hb]; simp [List.getD, List.getElem?_eq_getElem hl]
  rw [← e]
  rw [List.mem_take_iff_getElem]
  exact ⟨k, by omega, rfl⟩
theorem has_no (x : Int) (xs : List Int) (n : Nat) (hn : n ≤ xs.length) (h : ∀ j, j < n → xs.getD j 0 ≠ x) : hasB x xs n = false := by
  rw [← hasB_neg, firstAt_miss x xs n hn h]; rfl

set_option maxHeartbeats 1000000 in
theorem l1Has_any (g cap n : Nat) (xs : List Int) (x : Int) (w : World) (hn : n ≤ xs.length) (hx : xs.length ≤ 1073741824) (hc : ∀ j, j < xs.length → w.cell? ⟨g, j, none⟩ = some (.int .i64 (xs.getD j 0))) :
    Calls Try.prog 20 #[.slice (some ⟨g, 0, none⟩) n cap, .int .i64 x] w fun e w' => e = .returned (.bool (hasB x xs n)) ∧ w = w' := by
  have HC := Lib.hid hc
  have HN := Lib.hid hn
  have hn' : n ≤ 1073741824 := by omega
  clear hc hn hx
  go_enter Try.func20, Try.ntmps20
  go_wp2
  go_loop [5] (fun iv => ∃ i : Nat, i ≤ n ∧ iv = .int .i64 i ∧ ∀ j, j < i → xs.getD j 0 ≠ x) (fun iv => n - (intOf iv).toNat)
  case atStart => exact ⟨0, by omega, rfl, fun j hj => absurd hj (Nat.not_lt_zero _)⟩
  case round =>
    obtain ⟨i, hi, rfl, hall⟩ := hrel
    have HA := Lib.hid hall
    clear hall
    by_cases hlt : i < n
    · have hcell := HC.out i (Nat.lt_of_lt_of_le hlt HN.out)
      generalize hy : xs.getD i 0 = y at hcell
      have HY := Lib.hid hy
      clear hy
      by_cases he : y = x
      · have HE := Lib.hid he
        have hb1 : (y == x) = true := by simpa using he
        clear he
        go_wp2
        go_ret
        exact ⟨by rw [has_yes x xs n i HN.out hlt (HY.out.trans HE.out)]; rfl, rfl⟩
      · have hb1 : (y == x) = false := by simpa using he
        have HE := Lib.hid he
        clear he
        go_wp2
        go_round
        case rel => exact ⟨i + 1, by omega, by go_num, fun j hj => by by_cases e : j = i; (subst e; rw [HY.out]; exact HE.out); exact HA.out j (by omega)⟩
        case measure => simp [intOf]; omega
    · obtain rfl : i = n := by omega
      go_wp2
      go_ret
      exact ⟨by rw [has_no x xs i HN.out HA.out]; rfl, rfl⟩

end Go.Proofs.Ytfdhmijofpbkjaa
