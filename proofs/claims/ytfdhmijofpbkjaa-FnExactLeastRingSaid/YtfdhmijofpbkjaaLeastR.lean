/-
  Plain: what the program and the reference return of orders and rings of least cost. No condition.
-/
import Derived.Test.YtfdhmijofpbkjaaLeastQ
import Derived.Test.YtfdhmijofpbkjaaLeastS
namespace Go.Proofs.Ytfdhmijofpbkjaa
open Go.RowKit
set_option linter.unusedVariables false


/-- One start more is looked at. -/
def loStep (rem : List Nat) (acc : List Nat × Int) (d : Nat) : List Nat × Int := if acc.2 < 0 ∨ (cost (-1) (rem.erase d) d : Int) < acc.2 then (d :: orderOf (-1) (rem.erase d) d, (cost (-1) (rem.erase d) d : Int)) else acc
def loAll (rem : List Nat) (ds : List Nat) : List Nat × Int := ds.foldl (loStep rem) ([], -1)
def setL (xs : List Int) : List Nat := bitsL (setN xs xs.length)
def loI (xs : List Int) : List Int × Int × Bool := if ordB xs then (intL (loAll (setL xs) (setL xs)).1, (if (loAll (setL xs) (setL xs)).2 < 0 then 0 else (loAll (setL xs) (setL xs)).2), true) else ([], 0, false)
def lrL : List Nat → List Nat × Nat
  | [] => ([], 0)
  | d :: t => (d :: orderOf d t d, cost d t d)
def lrI (xs : List Int) : List Int × Int × Bool := if ordB xs then (intL (lrL (setL xs)).1, ((lrL (setL xs)).2 : Int), true) else ([], 0, false)
/-- The starts before k. -/
def below (s k : Nat) : List Nat := (List.range k).filter fun d => s.testBit d
theorem below_skip (s k : Nat) (h : s.testBit k = false) : below s (k + 1) = below s k := by
  unfold below
  rw [List.range_succ, List.filter_append]
  simp [h]
theorem below_take (s k : Nat) (h : s.testBit k = true) : below s (k + 1) = below s k ++ [k] := by
  unfold below
  rw [List.range_succ, List.filter_append]
  simp [h]
theorem below_all (s : Nat) : below s 10 = bitsL s := rfl
theorem lo_take (s k : Nat) (h : s.testBit k = true) : loAll (bitsL s) (below s (k + 1)) = loStep (bitsL s) (loAll (bitsL s) (below s k)) k := by
  rw [below_take s k h]
  unfold loAll
  rw [List.foldl_append]
  rfl
theorem lo_rng (rem ds : List Nat) (hr : rem.length ≤ 10) : -1 ≤ (loAll rem ds).2 ∧ (loAll rem ds).2 ≤ 100 ∧ (loAll rem ds).1.length ≤ 11 := by
  have h : ∀ (ds : List Nat) (acc : List Nat × Int), -1 ≤ acc.2 ∧ acc.2 ≤ 100 ∧ acc.1.length ≤ 11 → -1 ≤ (ds.foldl (loStep rem) acc).2 ∧ (ds.foldl (loStep rem) acc).2 ≤ 100 ∧ (ds.foldl (loStep rem) acc).1.length ≤ 11 := by
    intro ds
    induction ds with
    | nil => exact fun _ h => h
    | cons d ds ih =>
      intro acc h
      refine ih _ ?_
      unfold loStep
      split
      · have h1 := cost_le (-1) _ (rem.erase d) d rfl
        have h2 : (rem.erase d).length ≤ 10 := Nat.le_trans List.length_erase_le hr
        have h3 : ∀ (back : Int) (f : Nat) (l : List Nat) (x : Nat), (go back f l x).length ≤ f := by
          intro back f
          induction f with
          | zero => intro l x; exact Nat.le_refl _
          | succ f ihf =>
            intro l x
            unfold go
            split
            · simp
            · rename_i d' _
              have := ihf (l.erase d') d'
              simp; omega
        have h4 := h3 (-1) (rem.erase d).length (rem.erase d) d
        refine ⟨by show -1 ≤ ((cost (-1) (rem.erase d) d : Nat) : Int); omega, by show ((cost (-1) (rem.erase d) d : Nat) : Int) ≤ 100; omega, ?_⟩
        show (d :: go (-1) (rem.erase d).length (rem.erase d) d).length ≤ 11
        simp; omega
      · exact h
  exact h ds ([], -1) ⟨by decide, by decide, by decide⟩
theorem loI_len (xs : List Int) : (loI xs).1.length ≤ 1073741824 := by
  unfold loI
  split
  · have := (lo_rng (setL xs) (setL xs) (bitsL_len _)).2.2
    show (intL _).length ≤ _
    unfold intL
    rw [List.length_map]; omega
  · exact Nat.zero_le _
theorem lr_first (s k : Nat) (hk : k < 10) (hb : s.testBit k = true) (hlo : ∀ d, d < k → s.testBit d = false) : lrL (bitsL s) = (k :: orderOf k ((bitsL s).erase k) k, cost k ((bitsL s).erase k) k) := by
  have h := find_bits s (fun _ => true) k hk hb rfl (fun d hd hbd => by rw [hlo d hd] at hbd; cases hbd)
  cases hL : bitsL s with
  | nil => rw [hL] at h; cases h
  | cons a t =>
    rw [hL] at h
    simp at h
    subst h
    rw [List.erase_cons_head]
    rfl
theorem lr_none (s : Nat) (hlo : ∀ d, d < 10 → s.testBit d = false) : bitsL s = [] := by
  unfold bitsL
  rw [List.filter_eq_nil_iff]
  intro d hd
  rw [hlo d (List.mem_range.1 hd)]
  decide
theorem go_len (back : Int) (f : Nat) : ∀ (l : List Nat) (x : Nat), (go back f l x).length ≤ f := by
  induction f with
  | zero => intro l x; exact Nat.le_refl _
  | succ f ihf =>
    intro l x
    unfold go
    split
    · simp
    · rename_i d' _
      have := ihf (l.erase d') d'
      simp; omega
theorem lrI_len (xs : List Int) : (lrI xs).1.length ≤ 1073741824 := by
  unfold lrI
  split
  · have h := bitsL_len (setN xs xs.length)
    show (intL (lrL (bitsL (setN xs xs.length))).1).length ≤ _
    generalize bitsL (setN xs xs.length) = L at h ⊢
    unfold intL
    rw [List.length_map]
    cases L with
    | nil => exact Nat.zero_le _
    | cons d t =>
      have := go_len d t.length t d
      show (d :: go d t.length t d).length ≤ _
      simp at h ⊢; omega
  · exact Nat.zero_le _

end Go.Proofs.Ytfdhmijofpbkjaa
