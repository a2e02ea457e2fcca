/-
  Plain: what the program returns of orders and rings of least cost is what the reference returns. No condition.
-/
import Derived.Test.YtfdhmijofpbkjaaRingP
namespace Go.Proofs.Ytfdhmijofpbkjaa
open Go.RowKit
set_option linter.unusedVariables false


theorem remI_zero (L : List Nat) : remI L 0 = L := by
  unfold remI
  have e1 : ((List.range L.length).filter fun i => !(0 : Nat).testBit i) = List.range L.length := by
    rw [List.filter_eq_self]
    intro a _
    simp
  rw [e1]
  apply List.ext_getElem
  · simp
  · intro i h1 h2
    simp [List.getD, h2]
theorem remI_one (L : List Nat) (i : Nat) (h : L.Nodup) (hi : i < L.length) : remI L (2 ^ i) = L.erase (L.getD i 0) := by
  have h1 := remI_step L 0 i h hi
  rwa [Nat.zero_or, remI_zero] at h1
def backOf (L : List Nat) (ring : Bool) (i : Nat) : Int := if ring then (L.getD i 0 : Int) else -1
def liStep (L : List Nat) (ring : Bool) (acc : List Nat × Int) (i : Nat) : List Nat × Int :=
  if i = 0 ∨ (cost (backOf L ring i) (L.erase (L.getD i 0)) (L.getD i 0) : Int) < acc.2 then (L.getD i 0 :: orderOf (backOf L ring i) (L.erase (L.getD i 0)) (L.getD i 0), (cost (backOf L ring i) (L.erase (L.getD i 0)) (L.getD i 0) : Int)) else acc
def liAll (L : List Nat) (ring : Bool) (k : Nat) : List Nat × Int := (List.range k).foldl (liStep L ring) ([], 0)
theorem liAll_succ (L : List Nat) (ring : Bool) (k : Nat) : liAll L ring (k + 1) = liStep L ring (liAll L ring k) k := by
  unfold liAll
  rw [List.range_succ, List.foldl_append]
  rfl
theorem li_lo_k (L : List Nat) : ∀ k, 1 ≤ k → k ≤ L.length → liAll L false k = loAll L (L.take k) ∧ 0 ≤ (liAll L false k).2
  | 0, h, _ => by omega
  | k + 1, _, h => by
    have ht : L.take (k + 1) = L.take k ++ [L.getD k 0] := by
      rw [List.take_succ_eq_append_getElem (by omega)]
      simp [List.getD, List.getElem?_eq_getElem (show k < L.length by omega)]
    have hlo : loAll L (L.take (k + 1)) = loStep L (loAll L (L.take k)) (L.getD k 0) := by
      rw [ht]
      unfold loAll
      rw [List.foldl_append]
      rfl
    rw [liAll_succ, hlo]
    by_cases hk : k = 0
    · subst hk
      unfold liStep loStep
      rw [if_pos (.inl rfl), if_pos (.inl (by show ((-1 : Int)) < 0; omega))]
      exact ⟨rfl, by show (0 : Int) ≤ ((cost _ _ _ : Nat) : Int); omega⟩
    · obtain ⟨i1, i2⟩ := li_lo_k L k (by omega) (by omega)
      rw [← i1]
      have hb : backOf L false k = -1 := rfl
      unfold liStep loStep
      rw [hb]
      by_cases hc : (cost (-1) (L.erase (L.getD k 0)) (L.getD k 0) : Int) < (liAll L false k).2
      · rw [if_pos (.inr hc), if_pos (.inr hc)]
        exact ⟨rfl, by show (0 : Int) ≤ ((cost _ _ _ : Nat) : Int); omega⟩
      · rw [if_neg (by rintro (e | e); exact hk e; exact hc e), if_neg (by rintro (e | e); omega; exact hc e)]
        exact ⟨rfl, i2⟩
theorem li_lo (L : List Nat) : (liAll L false L.length).1 = (loAll L L).1 ∧ (liAll L false L.length).2 = if (loAll L L).2 < 0 then 0 else (loAll L L).2 := by
  cases hL : L with
  | nil => exact ⟨rfl, rfl⟩
  | cons d t =>
    rw [← hL]
    have h1 : 1 ≤ L.length := by rw [hL]; simp
    obtain ⟨i1, i2⟩ := li_lo_k L L.length h1 (Nat.le_refl _)
    rw [List.take_length] at i1
    rw [i1] at i2 ⊢
    exact ⟨rfl, by rw [if_neg (by omega)]⟩
theorem li_lr_k (L : List Nat) : ∀ k, 1 ≤ k → k ≤ L.length → liAll L true k = ((lrL L).1, ((lrL L).2 : Int))
  | 0, h, _ => by omega
  | k + 1, _, h => by
    rw [liAll_succ]
    cases hL : L with
    | nil => rw [hL] at h; simp at h
    | cons d t =>
      rw [← hL]
      have e0 : L.getD 0 0 = d := by rw [hL]; rfl
      have e1 : L.erase d = t := by rw [hL, List.erase_cons_head]
      have e2 : lrL L = (d :: orderOf d t d, cost d t d) := by rw [hL]; rfl
      by_cases hk : k = 0
      · subst hk
        unfold liStep backOf
        rw [if_pos (.inl rfl), if_pos rfl, e0, e1, e2]
      · have ih := li_lr_k L k (by omega) (by omega)
        rw [ih]
        unfold liStep backOf
        rw [if_pos rfl]
        have hr := ring_le L d (L.getD k 0) (by rw [hL]; simp) (by
          rw [show L.getD k 0 = L[k]'(by omega) by simp [List.getD, show k < L.length by omega]]
          exact List.getElem_mem _)
        rw [e1] at hr
        rw [if_neg (by
          rintro (e | e)
          · exact hk e
          · rw [e2] at e
            have e' : ((cost (L.getD k 0 : Int) (L.erase (L.getD k 0)) (L.getD k 0) : Nat) : Int) < ((cost (d : Int) t d : Nat) : Int) := e
            omega)]
theorem li_lr (L : List Nat) : liAll L true L.length = ((lrL L).1, ((lrL L).2 : Int)) := by
  cases hL : L with
  | nil => rfl
  | cons d t =>
    rw [← hL]
    exact li_lr_k L L.length (by rw [hL]; simp) (Nat.le_refl _)
def liI (xs : List Int) (ring : Bool) : List Int × Int × Bool := if ordB xs then (intL (liAll (setL xs) ring (setL xs).length).1, (liAll (setL xs) ring (setL xs).length).2, true) else ([], 0, false)
theorem liI_lo (xs : List Int) : liI xs false = loI xs := by
  unfold liI loI
  obtain ⟨h1, h2⟩ := li_lo (setL xs)
  rw [h1, h2]
theorem liI_lr (xs : List Int) : liI xs true = lrI xs := by
  unfold liI lrI
  rw [li_lr]
theorem setL_dig (xs : List Int) : (setL xs).length ≤ 10 ∧ (setL xs).Nodup ∧ ∀ i, i < (setL xs).length → (setL xs).getD i 0 < 10 := ⟨bitsL_len _, bitsL_nodup _, fun i hi => bitsL_lt _ _ (by
  rw [show (setL xs).getD i 0 = (setL xs)[i] by simp [List.getD, hi]]
  exact List.getElem_mem _)⟩

end Go.Proofs.Ytfdhmijofpbkjaa
