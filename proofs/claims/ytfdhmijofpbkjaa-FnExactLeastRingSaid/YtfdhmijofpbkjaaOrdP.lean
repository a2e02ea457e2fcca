/-
  Plain functions on lists of digits: is it an order, no digit twice, at most ten of them. No program in sight.
-/
import Derived.Test.YtfdhmijofpbkjaaDigit
import Derived.Lib.Hide
namespace Go.Proofs.Ytfdhmijofpbkjaa
open Go.RowKit
set_option linter.unusedVariables false


def isD (d : Int) : Bool := decide (0 ≤ d ∧ d ≤ 9)
/-- All are digits, none twice. -/
def isOrd : List Int → Bool
  | [] => true
  | d :: t => isD d && !t.contains d && isOrd t
/-- The first i elements are digits, none twice (as the program asks it: each against those ahead of it). -/
def okAt (xs : List Int) (i : Nat) : Bool := isD (xs.getD i 0) && !(xs.take i).contains (xs.getD i 0)
def ordB (xs : List Int) : Bool := decide (∀ i, i < xs.length → okAt xs i = true)
theorem filt_len (n : Nat) (xs : List Int) (hd : xs.Nodup) : xs.length ≤ (xs.filter (fun x => x != (n : Int))).length + 1 := by
  induction xs with
  | nil => simp
  | cons a t ih =>
    rw [List.nodup_cons] at hd
    by_cases e : a = (n : Int)
    · subst e
      have : t.filter (fun x => x != (n : Int)) = t := List.filter_eq_self.2 fun x hx => by
        rw [bne_iff_ne]; intro h; exact hd.1 (h ▸ hx)
      simp [this]
    · have := ih hd.2
      have h2 : (a != (n : Int)) = true := by rw [bne_iff_ne]; exact e
      rw [List.filter_cons, if_pos h2, List.length_cons, List.length_cons]
      omega
theorem pigeon : ∀ (n : Nat) (xs : List Int), xs.Nodup → (∀ x ∈ xs, 0 ≤ x ∧ x < (n : Int)) → xs.length ≤ n
  | 0, xs, _, h => by
    cases xs with
    | nil => simp
    | cons a t => have := h a (by simp); omega
  | n + 1, xs, hd, h => by
    have h1 := pigeon n (xs.filter (fun x => x != (n : Int))) (List.Pairwise.filter _ hd) (fun x hx => by
      rw [List.mem_filter] at hx
      have h2 := h x hx.1
      have h3 : x ≠ (n : Int) := by simpa [bne_iff_ne] using hx.2
      omega)
    have := filt_len n xs hd
    omega
theorem ord_nodup (xs : List Int) (n : Nat) (hn : n ≤ xs.length) (h : ∀ i, i < n → okAt xs i = true) : (xs.take n).Nodup ∧ ∀ x ∈ xs.take n, 0 ≤ x ∧ x < 10 := by
  induction n with
  | zero => simp
  | succ n ih =>
    obtain ⟨h1, h2⟩ := ih (by omega) (fun i hi => h i (by omega))
    have h3 := h n (by omega)
    have hlt : n < xs.length := by omega
    have e : xs.getD n 0 = xs[n] := by simp [List.getD, List.getElem?_eq_getElem hlt]
    unfold okAt isD at h3
    rw [e] at h3
    simp only [Bool.and_eq_true, decide_eq_true_eq, Bool.not_eq_true', List.contains_eq_mem, decide_eq_false_iff_not] at h3
    rw [List.take_succ_eq_append_getElem hlt]
    refine ⟨?_, ?_⟩
    · rw [List.nodup_append]
      refine ⟨h1, by simp, ?_⟩
      intro a ha b hb
      simp at hb
      subst hb
      intro e2
      exact h3.2 (e2 ▸ ha)
    · intro x hx
      rw [List.mem_append] at hx
      rcases hx with hx | hx
      · exact h2 x hx
      · simp at hx; subst hx; exact ⟨h3.1.1, by omega⟩
theorem ord_len (xs : List Int) (n : Nat) (hn : n ≤ xs.length) (h : ∀ i, i < n → okAt xs i = true) : n ≤ 10 := by
  obtain ⟨h1, h2⟩ := ord_nodup xs n hn h
  have := pigeon 10 _ h1 h2
  rw [List.length_take] at this
  omega
theorem ordB_yes (xs : List Int) (h : ∀ i, i < xs.length → okAt xs i = true) : ordB xs = true := decide_eq_true h
theorem ordB_no (xs : List Int) (i : Nat) (hi : i < xs.length) (h : okAt xs i = false) : ordB xs = false := decide_eq_false fun hh => by rw [hh i hi] at h; cases h
theorem ordB_len (xs : List Int) (h : ordB xs = true) : xs.length ≤ 10 := ord_len xs _ (Nat.le_refl _) (of_decide_eq_true h)
theorem ordB_long (xs : List Int) (h : ¬ xs.length ≤ 10) : ordB xs = false := by
  cases hx : ordB xs with
  | false => rfl
  | true => exact absurd (ordB_len xs hx) h
theorem ordB_rng (xs : List Int) (h : ordB xs = true) (i : Nat) (hi : i < xs.length) : 0 ≤ xs.getD i 0 ∧ xs.getD i 0 ≤ 9 := by
  have := of_decide_eq_true h i hi
  unfold okAt isD at this
  simp only [Bool.and_eq_true, decide_eq_true_eq] at this
  exact this.1

end Go.Proofs.Ytfdhmijofpbkjaa
