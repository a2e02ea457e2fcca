/-
  Plain functions on counters: the row that a counter shows, the changes from a row to another one, of a step, of some steps. No program in sight.
-/
import Derived.Test.YtfdhmijofpbkjaaDigit
import Derived.Test.YtfdhmijofpbkjaaBits
import Derived.Lib.Hide
namespace Go.Proofs.Ytfdhmijofpbkjaa
open Go.RowKit
set_option linter.unusedVariables false


/-- 10 to the power of j. -/
def pw : Nat → Nat
  | 0 => 1
  | j + 1 => 10 * pw j
theorem pw_pos : ∀ j, 1 ≤ pw j
  | 0 => Nat.le_refl _
  | j + 1 => by have := pw_pos j; simp only [pw]; omega
theorem pw_mono : ∀ {i j : Nat}, i ≤ j → pw i ≤ pw j
  | i, 0, h => by obtain rfl : i = 0 := by omega
                  exact Nat.le_refl _
  | i, j + 1, h => by
    by_cases e : i = j + 1
    · subst e; exact Nat.le_refl _
    · have := pw_mono (i := i) (j := j) (by omega); simp only [pw]; omega
theorem pw_le (j : Nat) (h : j ≤ 6) : 1 ≤ pw j ∧ pw j ≤ 1000000 := ⟨pw_pos j, pw_mono (j := 6) h⟩
theorem div_pw (n t : Nat) : n / pw t / 10 = n / pw (t + 1) := by
  rw [Nat.div_div_eq_div_mul, Nat.mul_comm]; rfl

/-- The cells of the lowest j digits of n, the highest first. -/
def dg (d : Nat) : Int := dig.getD d 0
def cRow (n : Nat) : Nat → List Int
  | 0 => []
  | j + 1 => dg (n / pw j % 10) :: cRow n j
theorem cRow_len (n : Nat) : ∀ j, (cRow n j).length = j
  | 0 => rfl
  | j + 1 => by simp [cRow, cRow_len n j]
theorem dg_rng (d : Nat) (h : d < 10) : 0 ≤ dg d ∧ dg d ≤ 127 := by
  rcases ten d h with rfl | rfl | rfl | rfl | rfl | rfl | rfl | rfl | rfl | rfl <;> decide
theorem cRow_rng (n : Nat) : ∀ j, ∀ c ∈ cRow n j, 0 ≤ c ∧ c ≤ 127
  | 0 => by simp [cRow]
  | j + 1 => by
    intro c hc
    simp only [cRow, List.mem_cons] at hc
    rcases hc with rfl | hc
    · exact dg_rng _ (Nat.mod_lt _ (by decide))
    · exact cRow_rng n j c hc
theorem cRow_at (n k i : Nat) (h : i < k) : 0 ≤ (cRow n k).getD i 0 ∧ (cRow n k).getD i 0 ≤ 127 := by
  have hl : i < (cRow n k).length := by rw [cRow_len]; exact h
  rw [show (cRow n k).getD i 0 = (cRow n k)[i] by simp [List.getD, List.getElem?_eq_getElem hl]]
  exact cRow_rng n k _ (List.getElem_mem hl)
/-- A row's last cells, as they are set from the right. -/
theorem cRow_set (n k t : Nat) (h : t < k) : (List.replicate (k - t) (0 : Int) ++ cRow n t).set (k - 1 - t) (dg (n / pw t % 10)) = List.replicate (k - (t + 1)) 0 ++ cRow n (t + 1) := by
  have e : k - t = (k - (t + 1)) + 1 := by omega
  rw [e, List.replicate_succ', List.append_assoc, List.set_append_right _ _ (by simp; omega), List.length_replicate, show k - 1 - t - (k - (t + 1)) = 0 by omega]
  rfl
theorem cRow_pad (n j : Nat) (h : n < pw j) : cRow n (j + 1) = 63 :: cRow n j := by
  simp only [cRow]
  rw [Nat.div_eq_of_lt h]
  rfl
/-- The number of a number's digits. -/
def nd (n : Nat) : Nat := if n < 10 then 1 else if n < 100 then 2 else if n < 1000 then 3 else if n < 10000 then 4 else if n < 100000 then 5 else 6
theorem nd_rng (n : Nat) : 1 ≤ nd n ∧ nd n ≤ 6 := by
  unfold nd
  repeat' split
  all_goals omega
theorem six (d : Nat) (hd : d < 6) : d = 0 ∨ d = 1 ∨ d = 2 ∨ d = 3 ∨ d = 4 ∨ d = 5 := by omega
theorem nd_of (n t : Nat) (ht : t ≤ 5) (h : n < pw (t + 1)) (h0 : t = 0 ∨ pw t ≤ n) : nd n = t + 1 := by
  unfold nd
  rcases six t (by omega) with rfl | rfl | rfl | rfl | rfl | rfl <;> simp [pw] at h h0 <;> (repeat' split) <;> omega
theorem nd_lt (n : Nat) (h : n < 1000000) : n < pw (nd n) := by
  unfold nd
  repeat' split
  all_goals (simp [pw]; omega)
theorem nd_le (n k : Nat) (h0 : 1 ≤ k) (hk : k ≤ 6) (h : n < pw k) : nd n ≤ k := by
  unfold nd
  rcases six (k - 1) (by omega) with e | e | e | e | e | e <;> (obtain rfl : k = _ := by exact (Nat.sub_eq_iff_eq_add h0).1 e) <;> simp [pw] at h <;> (repeat' split) <;> omega

/-- The bars that change from a row to another one. -/
def chg : List Int → List Int → Nat
  | a :: s, b :: t => cnt (a.toNat ^^^ b.toNat) 7 + chg s t
  | _, _ => 0
theorem chg_le : ∀ (s t : List Int), chg s t ≤ 7 * s.length
  | [], _ => by simp [chg]
  | _ :: _, [] => by simp [chg]
  | a :: s, b :: t => by have := chg_le s t; have := cnt_le (a.toNat ^^^ b.toNat) 7; simp only [chg, List.length_cons]; omega
theorem chg_take (s t : List Int) (i : Nat) (hs : i < s.length) (ht : i < t.length) : chg (s.take (i + 1)) (t.take (i + 1)) = chg (s.take i) (t.take i) + cnt ((s.getD i 0).toNat ^^^ (t.getD i 0).toNat) 7 := by
  induction s generalizing t i with
  | nil => simp at hs
  | cons a s ih =>
    cases t with
    | nil => simp at ht
    | cons b t =>
      cases i with
      | zero => simp [chg]
      | succ i =>
        have := ih t i (by simpa using hs) (by simpa using ht)
        simp only [List.take_succ_cons, chg, List.getD_cons_succ, this]
        omega

/-- The changes of a step of a counter of k cells, and of some steps. -/
def stepN (k n : Nat) : Nat := chg (cRow n k) (cRow ((n + 1) % pw k) k)
theorem stepN_le (k n : Nat) : stepN k n ≤ 7 * k := by have := chg_le (cRow n k) (cRow ((n + 1) % pw k) k); rw [cRow_len] at this; exact this
def runN (k f : Nat) : Nat → Nat
  | 0 => 0
  | i + 1 => runN k f i + stepN k ((f + i) % pw k)
theorem runN_le (k f : Nat) : ∀ i, runN k f i ≤ 7 * k * i
  | 0 => Nat.zero_le _
  | i + 1 => by have := runN_le k f i; have := stepN_le k ((f + i) % pw k); simp only [runN, Nat.mul_add]; omega
theorem runN_le6 (k f i : Nat) (hk : k ≤ 6) (hi : i ≤ 1001) : runN k f i ≤ 42042 := by
  have h := runN_le k f i
  have h1 : 7 * k * i ≤ 42 * 1001 := Nat.mul_le_mul (by omega) hi
  omega

/-- Is it a counter of k cells that shows n? -/
def isCtr (n k : Int) : Bool := decide (1 ≤ k ∧ k ≤ 6 ∧ 0 ≤ n ∧ n < (pw k.toNat : Int))
def isSt (s : Int) : Bool := decide (0 ≤ s ∧ s ≤ 1000)
theorem ctr_nat {n k : Int} (h : isCtr n k = true) : ∃ m j : Nat, n = m ∧ k = j ∧ 1 ≤ j ∧ j ≤ 6 ∧ m < pw j := by
  unfold isCtr at h
  simp only [decide_eq_true_eq] at h
  obtain ⟨h1, h2, h3, h4⟩ := h
  obtain ⟨m, rfl⟩ := Int.eq_ofNat_of_zero_le h3
  obtain ⟨j, rfl⟩ := Int.eq_ofNat_of_zero_le (by omega : 0 ≤ k)
  exact ⟨m, j, rfl, rfl, by omega, by omega, by simpa using h4⟩

end Go.Proofs.Ytfdhmijofpbkjaa
