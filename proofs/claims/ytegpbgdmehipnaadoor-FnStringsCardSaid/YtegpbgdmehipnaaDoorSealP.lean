/-
  A text with its checksum: plain functions, no program in sight.
-/
import Derived.Test.YtegpbgdmehipnaaDoorSum
import Derived.Test.YtegpbgdmehipnaaDoorSplitP
import Derived.Lib.ItoaNum
namespace Go.Proofs.YtegpbgdmehipnaaDoor
open Go.RowKit
set_option linter.unusedVariables false


def slg (l : List UInt8) : List UInt8 := l ++ [35] ++ Lib.decDigits (ck l).toNat
theorem dd_s (n : Nat) (h : n < 10) : Lib.decDigits n = [UInt8.ofNat (48 + n)] := by rw [Lib.decDigits, dif_pos h]
theorem dd_b (n : Nat) (h : ¬ n < 10) : Lib.decDigits n = Lib.decDigits (n / 10) ++ [UInt8.ofNat (48 + n % 10)] := by rw [Lib.decDigits, dif_neg h]
theorem dd_free (n : Nat) : (35 : UInt8) ∉ Lib.decDigits n := by
  have h10 : ∀ d : Nat, d < 10 → (35 : UInt8) ≠ UInt8.ofNat (48 + d) := by decide
  induction n using Nat.strongRecOn with
  | _ n ih =>
    by_cases h : n < 10
    · rw [dd_s n h]
      intro hm
      rw [List.mem_singleton] at hm
      exact h10 n h hm
    · rw [dd_b n h]
      intro hm
      rw [List.mem_append] at hm
      rcases hm with hm | hm
      · exact ih (n / 10) (by omega) hm
      · rw [List.mem_singleton] at hm
        exact h10 (n % 10) (Nat.mod_lt _ (by decide)) hm
theorem dd_l (k : Nat) : ∀ n : Nat, n < 10 ^ (k + 1) → (Lib.decDigits n).length ≤ k + 1 := by
  induction k with
  | zero => intro n h; rw [dd_s n (by simpa using h)]; simp
  | succ k ih =>
    intro n h
    by_cases h10 : n < 10
    · rw [dd_s n h10]; simp
    · rw [dd_b n h10, List.length_append]
      have := ih (n / 10) (by rw [Nat.pow_succ] at h; omega)
      simp; omega
theorem slg_len (l : List UInt8) : l.length < (slg l).length ∧ (slg l).length ≤ l.length + 7 := by
  have h := ck_rng l
  have := dd_l 5 (ck l).toNat (by simp; omega)
  unfold slg
  rw [List.length_append, List.length_append]
  simp; omega
def asI (l : List UInt8) : List UInt8 × Bool := if l.length ≤ 4000 ∧ 35 ∉ l ∧ (slg l).length ≤ 4000 then (slg l, true) else ([], false)
theorem asI_len (l : List UInt8) : (asI l).1.length ≤ 4000 := by
  unfold asI
  split
  · next h => exact h.2.2
  · simp
theorem asI_yes (l : List UInt8) (h1 : l.length ≤ 4000) (h2 : 35 ∉ l) (h3 : (slg l).length ≤ 4000) : asI l = (slg l, true) := if_pos ⟨h1, h2, h3⟩
theorem asI_long (l : List UInt8) (h : ¬ l.length ≤ 4000) : asI l = ([], false) := if_neg fun hh => h hh.1
theorem asI_mem (l : List UInt8) (h : 35 ∈ l) : asI l = ([], false) := if_neg fun hh => hh.2.1 h
theorem asI_over (l : List UInt8) (h : ¬ (slg l).length ≤ 4000) : asI l = ([], false) := if_neg fun hh => h hh.2.2
/-- The first part, up to the first sign. -/
def first (l : List UInt8) : List UInt8 := (spl 35 l).headD []
theorem spl_app (b : UInt8) (l m : List UInt8) (h : b ∉ l) : spl b (l ++ b :: m) = l :: spl b m := by
  have hi : Lib.indexByte (l ++ b :: m) b = (l.length : Int) := by
    refine index_at b _ l.length (by simp) fun j hj e => ?_
    rw [List.getElem?_append_left hj] at e
    exact h (List.mem_of_getElem? e)
  rw [spl_hit b _ _ hi]
  simp
theorem first_slg (l : List UInt8) (h : 35 ∉ l) : first (slg l) = l := by
  unfold first slg
  rw [List.append_assoc, List.singleton_append, spl_app 35 l _ h]
  rfl
theorem first_free (l : List UInt8) : 35 ∉ first l := by
  unfold first
  cases hs : spl 35 l with
  | nil => simp
  | cons x r => exact spl_free 35 l x (by rw [hs]; simp)
def vfI (l : List UInt8) : List UInt8 × Bool := if l.length ≤ 4000 ∧ slg (first l) = l then (first l, true) else ([], false)
theorem vfI_len (l : List UInt8) : (vfI l).1.length ≤ 4000 := by
  unfold vfI
  split
  · next h =>
    have := (slg_len (first l)).1
    rw [h.2] at this
    simp; omega
  · simp
theorem vfI_long (l : List UInt8) (h : ¬ l.length ≤ 4000) : vfI l = ([], false) := if_neg fun hh => h hh.1
theorem vfI_ne (l : List UInt8) (h : slg (first l) ≠ l) : vfI l = ([], false) := if_neg fun hh => h hh.2
theorem vfI_yes (l : List UInt8) (h1 : l.length ≤ 4000) (h : slg (first l) = l) : vfI l = (first l, true) := if_pos ⟨h1, h⟩
/-- As the program asks it: t is what stands ahead of the last sign. -/
theorem vfI_ahead (l t m : List UInt8) (hl : l = t ++ 35 :: m) (hm : 35 ∉ m) : vfI l = if (asI t).2 = true ∧ (asI t).1 = l then (t, true) else ([], false) := by
  by_cases ht : 35 ∈ t
  · have e := asI_mem t ht
    rw [if_neg (by rw [e]; simp)]
    refine vfI_ne l fun hh => ?_
    have h1 : l.count 35 = (slg (first l)).count 35 := by rw [hh]
    have h2 : (slg (first l)).count 35 = 1 := by
      unfold slg
      rw [List.count_append, List.count_append, List.count_eq_zero_of_not_mem (first_free l), List.count_eq_zero_of_not_mem (dd_free _)]
      rfl
    have h3 : 1 ≤ t.count 35 := List.one_le_count_iff.2 ht
    rw [h2, hl, List.count_append, List.count_cons_self] at h1
    omega
  · have hf : first l = t := by
      unfold first
      rw [hl, spl_app 35 t m ht]
      rfl
    by_cases hs : slg t = l
    · by_cases h4 : l.length ≤ 4000
      · have := (slg_len t).1
        rw [hs] at this
        have e := asI_yes t (by omega) ht (by rw [hs]; exact h4)
        rw [if_pos (by rw [e]; exact ⟨rfl, hs⟩), vfI_yes l h4 (by rw [hf]; exact hs), hf]
      · rw [vfI_long l h4, if_neg]
        rintro ⟨h5, h6⟩
        have := asI_len t
        rw [h6] at this
        exact h4 this
    · rw [vfI_ne l (by rw [hf]; exact hs), if_neg]
      rintro ⟨h5, h6⟩
      unfold asI at h5 h6
      split at h6
      · exact hs h6
      · next hn => rw [if_neg hn] at h5; cases h5
theorem vfI_none (l : List UInt8) (h : 35 ∉ l) : vfI l = ([], false) := by
  refine vfI_ne l fun hh => ?_
  have h1 : (35 : UInt8) ∈ slg (first l) := by unfold slg; simp
  rw [hh] at h1
  exact h h1

end Go.Proofs.YtegpbgdmehipnaaDoor
