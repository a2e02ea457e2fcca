/-
  Plain: the sorted digits, and a least ring costs the same from each of its digits. No condition.
-/
import Derived.Test.YtfdhmijofpbkjaaLeastR
import Derived.Test.YtfdhmijofpbkjaaMemQ
namespace Go.Proofs.Ytfdhmijofpbkjaa
open Go.RowKit
set_option linter.unusedVariables false


/-- The changes along a list. -/
def al : List Nat → Nat
  | x :: y :: t => farT x y + al (y :: t)
  | _ => 0
theorem al_split (u : List Nat) (x : Nat) (v : List Nat) : al (u ++ x :: v) = al (u ++ [x]) + al (x :: v) := by
  induction u with
  | nil => simp [al]
  | cons a u ih =>
    cases u with
    | nil => simp [al]
    | cons b u =>
      have : al ((b :: u) ++ x :: v) = al ((b :: u) ++ [x]) + al (x :: v) := ih
      simp only [List.cons_append, al] at this ⊢
      omega
theorem cost_path (back : Nat) : ∀ (n : Nat) (rem : List Nat) (x : Nat), rem.length = n → (∀ p : List Nat, p.Perm rem → cost (back : Int) rem x ≤ al (x :: p ++ [back])) ∧ ∃ p : List Nat, p.Perm rem ∧ cost (back : Int) rem x = al (x :: p ++ [back])
  | 0, rem, x, h => by
    have : rem = [] := List.eq_nil_of_length_eq_zero h
    subst this
    have e : cost (back : Int) [] x = al (x :: [] ++ [back]) := by
      rw [cost_nil]
      unfold endc
      rw [if_neg (by omega)]
      simp [al]
    refine ⟨fun p hp => ?_, [], List.Perm.refl _, e⟩
    rw [List.Perm.eq_nil hp, e]
    exact Nat.le_refl _
  | n + 1, rem, x, h => by
    have hne : rem ≠ [] := by intro e; rw [e] at h; cases h
    have h1 := cost_cons (back : Int) rem x hne
    obtain ⟨h2, c, hc, h3⟩ := bestOf_in (rem.map fun d => farT x d + cost (back : Int) (rem.erase d) d) (by simpa using hne)
    refine ⟨fun p hp => ?_, ?_⟩
    · cases p with
      | nil => exact absurd (List.Perm.nil_eq hp).symm hne
      | cons d p =>
        have hd : d ∈ rem := hp.mem_iff.1 (by simp)
        have hp2 : p.Perm (rem.erase d) := by
          have := hp.erase d
          rwa [List.erase_cons_head] at this
        have ih := (cost_path back n (rem.erase d) d (by rw [List.length_erase_of_mem hd, h, Nat.add_sub_cancel])).1 p hp2
        have h4 := h2 _ (List.mem_map.2 ⟨d, hd, rfl⟩)
        show cost (back : Int) rem x ≤ farT x d + al (d :: p ++ [back])
        omega
    · obtain ⟨d, hd, rfl⟩ := List.mem_map.1 hc
      obtain ⟨p, hp, hpe⟩ := (cost_path back n (rem.erase d) d (by rw [List.length_erase_of_mem hd, h, Nat.add_sub_cancel])).2
      refine ⟨d :: p, (List.Perm.cons d hp).trans (List.perm_cons_erase hd).symm, ?_⟩
      show cost (back : Int) rem x = farT x d + al (d :: p ++ [back])
      rw [← hpe]
      omega
theorem ring_le (L : List Nat) (a b : Nat) (ha : a ∈ L) (hb : b ∈ L) : cost (a : Int) (L.erase a) a ≤ cost (b : Int) (L.erase b) b := by
  by_cases e : a = b
  · rw [e]; exact Nat.le_refl _
  obtain ⟨q, hq, hqe⟩ := (cost_path b _ (L.erase b) b rfl).2
  have haq : a ∈ q := hq.mem_iff.2 ((List.mem_erase_of_ne e).2 ha)
  obtain ⟨q1, q2, rfl⟩ := List.append_of_mem haq
  have hp : (q2 ++ b :: q1).Perm (L.erase a) := by
    have h1 : (b :: (q1 ++ a :: q2)).Perm L := (List.Perm.cons b hq).trans (List.perm_cons_erase hb).symm
    have h2 : (a :: (q2 ++ b :: q1)).Perm (b :: (q1 ++ a :: q2)) := by
      have h3 : (b :: (q1 ++ a :: q2)) = (b :: q1) ++ (a :: q2) := rfl
      have h4 : (a :: (q2 ++ b :: q1)) = (a :: q2) ++ (b :: q1) := rfl
      rw [h3, h4]
      exact List.perm_append_comm
    have h5 := (h2.trans h1).erase a
    rwa [List.erase_cons_head] at h5
  have h6 := (cost_path a _ (L.erase a) a rfl).1 _ hp
  have e1 : al (b :: (q1 ++ a :: q2) ++ [b]) = al ((b :: q1) ++ [a]) + al (a :: (q2 ++ [b])) := by
    have := al_split (b :: q1) a (q2 ++ [b])
    rw [← this]
    simp
  have e2 : al (a :: (q2 ++ b :: q1) ++ [a]) = al ((a :: q2) ++ [b]) + al (b :: (q1 ++ [a])) := by
    have := al_split (a :: q2) b (q1 ++ [a])
    rw [← this]
    simp
  rw [hqe, e1]
  rw [e2] at h6
  simp only [List.cons_append] at h6 ⊢
  omega
theorem sorted_eq : ∀ (l1 l2 : List Int), l1.Pairwise (· < ·) → l2.Pairwise (· < ·) → (∀ x, x ∈ l1 ↔ x ∈ l2) → l1 = l2
  | [], l2, _, _, h => by
    cases l2 with
    | nil => rfl
    | cons b t => exact absurd ((h b).2 (by simp)) (by simp)
  | a :: s, l2, h1, h2, h => by
    cases l2 with
    | nil => exact absurd ((h a).1 (by simp)) (by simp)
    | cons b t =>
      obtain ⟨p1, p2⟩ := List.pairwise_cons.1 h1
      obtain ⟨q1, q2⟩ := List.pairwise_cons.1 h2
      have hab : a = b := by
        rcases List.mem_cons.1 ((h a).1 (by simp)) with e | e
        · exact e
        · rcases List.mem_cons.1 ((h b).2 (by simp)) with e2 | e2
          · exact e2.symm
          · have := q1 a e; have := p1 b e2; omega
      subst hab
      rw [sorted_eq s t p2 q2 (fun x => by
        have hx := h x
        simp only [List.mem_cons] at hx
        constructor
        · intro hs
          rcases hx.1 (.inr hs) with e | e
          · have := p1 x hs; omega
          · exact e
        · intro ht
          rcases hx.2 (.inr ht) with e | e
          · have := q1 x ht; omega
          · exact e)]
theorem setN_bit (xs : List Int) (d : Nat) : ∀ i, (setN xs i).testBit d = true ↔ ∃ j, j < i ∧ (xs.getD j 0).toNat = d
  | 0 => by
    rw [setN, Nat.zero_testBit]
    constructor
    · intro h; cases h
    · rintro ⟨j, hj, _⟩; omega
  | i + 1 => by
    rw [setN, Nat.testBit_or, Nat.testBit_two_pow, Bool.or_eq_true, decide_eq_true_eq, setN_bit xs d i]
    constructor
    · rintro (⟨j, hj, e⟩ | e)
      · exact ⟨j, by omega, e⟩
      · exact ⟨i, by omega, e⟩
    · rintro ⟨j, hj, e⟩
      by_cases h : j = i
      · subst h; exact .inr e
      · exact .inl ⟨j, by omega, e⟩
theorem ord_mem (xs : List Int) (h : ordB xs = true) (x : Int) : x ∈ xs ↔ x ∈ intL (setL xs) := by
  have hr := ordB_rng xs h
  unfold intL setL bitsL
  rw [List.mem_map]
  constructor
  · intro hx
    obtain ⟨j, hj⟩ := List.mem_iff_getElem?.1 hx
    obtain ⟨h1, h2⟩ := List.getElem?_eq_some_iff.1 hj
    have e : xs.getD j 0 = x := by simp [List.getD, hj]
    have h3 := hr j h1
    rw [e] at h3
    refine ⟨x.toNat, List.mem_filter.2 ⟨List.mem_range.2 (by omega), ?_⟩, by omega⟩
    rw [setN_bit]
    exact ⟨j, h1, by rw [e]⟩
  · rintro ⟨d, hd, rfl⟩
    rw [List.mem_filter, setN_bit] at hd
    obtain ⟨_, j, hj, e⟩ := hd
    have h3 := hr j hj
    have e2 : xs.getD j 0 = (d : Int) := by omega
    rw [← e2, show xs.getD j 0 = xs[j] by simp [List.getD, hj]]
    exact List.getElem_mem _
theorem sort_is (xs : List Int) (h : ordB xs = true) : xs.mergeSort (fun x y => decide (x ≤ y)) = intL (setL xs) := by
  have hnd : xs.Nodup := by
    have := (ord_nodup xs xs.length (Nat.le_refl _) (of_decide_eq_true h)).1
    rwa [List.take_length] at this
  have hp := List.mergeSort_perm xs (fun x y => decide (x ≤ y))
  refine sorted_eq _ _ ?_ ?_ (fun x => ?_)
  · have h1 : (xs.mergeSort (fun x y => decide (x ≤ y))).Pairwise (fun a b => decide (a ≤ b) = true) := List.pairwise_mergeSort (by simp; omega) (by simp; omega) xs
    have h2 : (xs.mergeSort (fun x y => decide (x ≤ y))).Nodup := hp.nodup_iff.2 hnd
    refine (h1.and (List.nodup_iff_pairwise_ne.1 h2)).imp ?_
    rintro a b ⟨h3, h4⟩
    have := of_decide_eq_true h3
    omega
  · unfold intL setL bitsL
    rw [List.pairwise_map]
    refine List.Pairwise.imp ?_ (List.Pairwise.sublist List.filter_sublist List.pairwise_lt_range)
    intro a b hab
    omega
  · rw [hp.mem_iff]; exact ord_mem xs h x

end Go.Proofs.Ytfdhmijofpbkjaa
