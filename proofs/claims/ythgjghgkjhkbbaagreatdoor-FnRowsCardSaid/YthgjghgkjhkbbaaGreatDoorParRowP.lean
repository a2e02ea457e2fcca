/-
  The row that a text tells: plain functions, no program in sight.
-/
import Derived.Test.YthgjghgkjhkbbaaGreatDoorSplitP
import Derived.Test.YthgjghgkjhkbbaaGreatDoorParse
import Derived.Test.YthgjghgkjhkbbaaGreatDoorTextP
import Derived.Test.YthgjghgkjhkbbaaGreatDoorRow
namespace Go.Proofs.YthgjghgkjhkbbaaGreatDoor
open Go.RowKit
set_option linter.unusedVariables false
set_option maxRecDepth 20000


def val (l : List UInt8) : Int × Bool := if l = [45] then (0, true) else prs l
def okW (l : List UInt8) : Bool := decide (l = [45]) || ((prs l).2 && !decide (l = []))
def vals (ps : List (List UInt8)) : List Int := ps.map fun l => (val l).1
def prow (l : List UInt8) : List Int × Bool := if l = [] then ([], true) else if (spl 32 l).all okW && decide ((spl 32 l).length ≤ 6) then (vals (spl 32 l), true) else ([], false)
theorem prs_yes (l : List UInt8) (h : (prs l).2 = true) : (prs l).1 = (maskN l 7 : Int) ∧ bars (maskN l 7) 7 = l := by
  unfold prs at h ⊢
  by_cases e : bars (maskN l 7) 7 = l
  · rw [if_pos e]; exact ⟨rfl, e⟩
  · rw [if_neg e] at h; cases h
theorem prs_rng (l : List UInt8) : 0 ≤ (prs l).1 ∧ (prs l).1 ≤ 127 := by
  have := maskN_lt7 l 7 (Nat.le_refl _)
  unfold prs
  split
  · exact ⟨by simp, by simp; omega⟩
  · exact ⟨by simp, by simp⟩
theorem val_rng (l : List UInt8) : 0 ≤ (val l).1 ∧ (val l).1 ≤ 127 := by
  unfold val
  split
  · exact ⟨by simp, by simp⟩
  · exact prs_rng l
theorem okW_val (l : List UInt8) (h : okW l = true) : (val l).2 = true ∧ wordC (val l).1 = l := by
  by_cases e : l = [45]
  · subst e; exact ⟨rfl, rfl⟩
  · unfold okW at h
    rw [decide_eq_false e, Bool.false_or, Bool.and_eq_true] at h
    obtain ⟨h1, h2⟩ := prs_yes l h.1
    unfold val
    rw [if_neg e]
    refine ⟨h.1, ?_⟩
    rw [h1, wordC_nat, if_neg, h2]
    intro e0
    rw [e0] at h2
    have : l = [] := h2.symm
    rw [this] at h
    simp at h
theorem val_not (l : List UInt8) (h : (val l).2 = true) (hn : okW l = false) : l = [] := by
  unfold val at h
  by_cases e : l = [45]
  · subst e; exact absurd hn (by decide)
  · rw [if_neg e] at h
    unfold okW at hn
    rw [decide_eq_false e, Bool.false_or, h, Bool.true_and] at hn
    simpa using hn
theorem okW_no (l : List UInt8) (h : (val l).2 = false) : okW l = false := by
  cases hh : okW l with
  | false => rfl
  | true => rw [(okW_val l hh).1] at h; cases h
theorem val_word (l : List UInt8) (h : (val l).2 = true) : l.length ≤ (wordC (val l).1).length ∧ (okW l = false → l.length < (wordC (val l).1).length) := by
  cases hk : okW l with
  | true => rw [(okW_val l hk).2]; exact ⟨Nat.le_refl _, fun e => by cases e⟩
  | false =>
    obtain rfl := val_not l h hk
    exact ⟨by decide, fun _ => by decide⟩
theorem vals_words (ps : List (List UInt8)) (h : ps.all okW = true) : (vals ps).map wordC = ps := by
  unfold vals
  rw [List.map_map]
  refine (List.map_congr_left fun x hx => ?_).trans (List.map_id _)
  exact (okW_val x (List.all_eq_true.1 h x hx)).2
theorem txt_vals (l : List UInt8) (h : (spl 32 l).all okW = true) : txt (vals (spl 32 l)) = l := by
  unfold txt
  rw [vals_words _ h]
  exact spl_join 32 l
theorem lens_more : ∀ (ps : List (List UInt8)), (∀ p ∈ ps, (val p).2 = true) → Lib.lens ps ≤ Lib.lens ((vals ps).map wordC) ∧ (ps.all okW = false → Lib.lens ps < Lib.lens ((vals ps).map wordC))
  | [], _ => ⟨Nat.le_refl _, fun h => by simp at h⟩
  | p :: r, h => by
    obtain ⟨h1, h2⟩ := lens_more r (fun q hq => h q (List.mem_cons_of_mem _ hq))
    obtain ⟨h3, h4⟩ := val_word p (h p List.mem_cons_self)
    have e1 : Lib.lens (p :: r) = p.length + Lib.lens r := by simp [Lib.lens]
    have e2 : Lib.lens ((vals (p :: r)).map wordC) = (wordC (val p).1).length + Lib.lens ((vals r).map wordC) := by simp [Lib.lens, vals]
    rw [e1, e2]
    refine ⟨by omega, fun hh => ?_⟩
    rw [List.all_cons, Bool.and_eq_false_iff] at hh
    rcases hh with hh | hh
    · have := h4 hh; omega
    · have := h2 hh; omega
theorem txt_ne (l : List UInt8) (h : ∀ p ∈ spl 32 l, (val p).2 = true) (hn : (spl 32 l).all okW = false) : txt (vals (spl 32 l)) ≠ l := by
  intro e
  have h1 := (lens_more _ h).2 hn
  have h2 := congrArg List.length (spl_join 32 l)
  have h3 := congrArg List.length e
  unfold txt at h3
  cases hs : spl 32 l with
  | nil => exact spl_ne 32 l hs
  | cons p r =>
    rw [hs] at h1 h2 h3
    have e2 : (vals (p :: r)).map wordC = wordC (val p).1 :: (vals r).map wordC := rfl
    rw [e2] at h1 h3
    rw [Lib.join_length] at h2 h3
    have e3 : ((vals r).map wordC).length = r.length := by simp [vals]
    rw [e3] at h3
    omega
theorem vals_len (ps : List (List UInt8)) : (vals ps).length = ps.length := by simp [vals]
theorem vals_isC (ps : List (List UInt8)) : (vals ps).all isC = true := by
  rw [List.all_eq_true]
  intro c hc
  unfold vals at hc
  rw [List.mem_map] at hc
  obtain ⟨l, _, rfl⟩ := hc
  exact decide_eq_true (val_rng l)
theorem vals_row (ps : List (List UInt8)) : isRow (vals ps) = decide (ps.length ≤ 6) := by
  unfold isRow
  rw [vals_isC, vals_len, Bool.and_true]
theorem len_48 (l : List UInt8) (h : (spl 32 l).all okW = true) (h6 : (spl 32 l).length ≤ 6) : l.length ≤ 48 := by
  have := txt_len (vals (spl 32 l))
  rw [txt_vals l h, vals_len] at this
  omega
theorem vals_step (ps : List (List UInt8)) (i : Nat) (p : List UInt8) (h : ps[i]? = some p) : vals (ps.take (i + 1)) = vals (ps.take i) ++ [(val p).1] := by
  obtain ⟨h1, h2⟩ := List.getElem?_eq_some_iff.1 h
  rw [List.take_succ_eq_append_getElem h1, h2]
  unfold vals
  rw [List.map_append]
  rfl
theorem prow_nil : prow [] = ([], true) := rfl
theorem prow_yes (l : List UInt8) (h0 : l ≠ []) (h : (spl 32 l).all okW = true) (h6 : (spl 32 l).length ≤ 6) : prow l = (vals (spl 32 l), true) := by
  unfold prow
  rw [if_neg h0, h, decide_eq_true h6]
  rfl
theorem prow_bad (l : List UInt8) (h0 : l ≠ []) (i : Nat) (p : List UInt8) (hp : (spl 32 l)[i]? = some p) (h : okW p = false) : prow l = ([], false) := by
  unfold prow
  rw [if_neg h0, if_neg]
  intro hh
  rw [Bool.and_eq_true] at hh
  have := List.all_eq_true.1 hh.1 p (List.mem_of_getElem? hp)
  rw [h] at this
  cases this
theorem prow_many (l : List UInt8) (h0 : l ≠ []) (h6 : ¬ (spl 32 l).length ≤ 6) : prow l = ([], false) := by
  unfold prow
  rw [if_neg h0, if_neg]
  intro hh
  rw [Bool.and_eq_true] at hh
  exact h6 (of_decide_eq_true hh.2)
theorem prow_long (l : List UInt8) (h : ¬ l.length ≤ 48) : prow l = ([], false) := by
  have h0 : l ≠ [] := by intro e; rw [e] at h; simp at h
  unfold prow
  rw [if_neg h0, if_neg]
  intro hh
  rw [Bool.and_eq_true] at hh
  exact h (len_48 l hh.1 (of_decide_eq_true hh.2))
theorem prow_not (l : List UInt8) (h0 : l ≠ []) (h : (spl 32 l).all okW = false) : prow l = ([], false) := by
  unfold prow
  rw [if_neg h0, h]
  rfl
theorem prow_len (l : List UInt8) : (prow l).1.length ≤ 6 := by
  unfold prow
  split
  · simp
  · split
    · next h =>
      rw [Bool.and_eq_true] at h
      rw [vals_len]
      exact of_decide_eq_true h.2
    · simp
theorem all_okW (ps : List (List UInt8)) (h : ∀ (i : Nat) p, ps[i]? = some p → okW p = true) : ps.all okW = true := by
  rw [List.all_eq_true]
  intro p hp
  obtain ⟨i, hi⟩ := List.mem_iff_getElem?.1 hp
  exact h i p hi

end Go.Proofs.YthgjghgkjhkbbaaGreatDoor
