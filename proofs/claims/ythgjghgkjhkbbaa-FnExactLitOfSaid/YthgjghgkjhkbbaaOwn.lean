/-
  A slice of integers that the call owns: how it is read, kept and written. No condition.
-/
import Derived.Test.YthgjghgkjhkbbaaBase
import Derived.Laws.OwnMore
namespace Go.Proofs.Ythgjghgkjhkbbaa
open Go.RowKit
set_option linter.unusedVariables false


/-- The slice v owns the integers xs, in a block from B on. -/
def Own (B : Nat) (w : World) (v : Value) (xs : List Int) : Prop := w.ownsRow B 3 1 v xs.length (xs.map (Value.int .i64))

theorem own_cases {B : Nat} {w : World} {v : Value} {xs : List Int} (h : Own B w v xs) :
    (v = .slice none 0 0 ∧ xs = []) ∨ ∃ g cap, v = .slice (some ⟨g, 0, none⟩) xs.length cap ∧ B ≤ g ∧ g < w.heap.size ∧ xs.length ≤ cap ∧ cap ≤ maxLen ∧
      (∀ j, j < xs.length → w.cell? ⟨g, j, none⟩ = some (.int .i64 (xs.getD j 0))) ∧ ∀ j, w.frozen? ⟨g, j, none⟩ = false := by
  have h' := h
  obtain ⟨hl, hv | ⟨g, cap, cur, hv, hb, hg, hn, hm, hs, ht⟩⟩ := h
  · left
    exact ⟨hv.1, List.eq_nil_of_length_eq_zero hv.2⟩
  · right
    subst hv
    refine ⟨g, cap, rfl, hb, (Array.getElem?_eq_some_iff.1 hg).1, hn, hm, fun j hj => ?_, fun j => World.ownsRow.frozenAt h' j⟩
    rw [World.ownsRow.cellAt h' j (by omega), List.getElem?_map, List.getElem?_eq_getElem hj]
    simp [List.getD, List.getElem?_eq_getElem hj]

theorem own_keepC {B C : Nat} {w w' : World} {v : Value} {xs : List Int} (h : Own B w v xs) (hb : Below C w w') (hC : ∀ k, v.ownBlock = some k → k < C) : Own B w' v xs := by
  obtain ⟨hl, hv | ⟨g, cap, cur, hv, hbg, hg, r⟩⟩ := h
  · exact ⟨hl, .inl hv⟩
  · refine ⟨hl, .inr ⟨g, cap, cur, hv, hbg, ?_, r⟩⟩
    rw [hb.block g (hC g (by rw [hv]; rfl))]; exact hg
theorem own_lt {B : Nat} {w : World} {v : Value} {xs : List Int} (h : Own B w v xs) : ∀ k, v.ownBlock = some k → B ≤ k ∧ k < w.heap.size := World.ownsRow.lt h
theorem own_keep {B : Nat} {w w' : World} {v : Value} {xs : List Int} (h : Own B w v xs) (hb : Below w.heap.size w w') : Own B w' v xs :=
  own_keepC h hb fun k hk => (own_lt h k hk).2
theorem own_set {B : Nat} {w : World} {g cap : Nat} {xs : List Int} (h : Own B w (.slice (some ⟨g, 0, none⟩) xs.length cap) xs) (j : Nat) (u : Int) :
    Own B (w.setCell ⟨g, j, none⟩ (.int .i64 u)) (.slice (some ⟨g, 0, none⟩) xs.length cap) (xs.set j u) := by
  have := (World.ownsRow.stored h j (.int .i64 u)).1
  unfold Own
  rw [List.map_set, List.length_set]
  exact this
theorem own_mono {B B' : Nat} {w : World} {v : Value} {xs : List Int} (h : Own B w v xs) (hB : B' ≤ B) : Own B' w v xs := by
  obtain ⟨hl, hv | ⟨g, cap, cur, hv, hbg, r⟩⟩ := h
  · exact ⟨hl, .inl hv⟩
  · exact ⟨hl, .inr ⟨g, cap, cur, hv, Nat.le_trans hB hbg, r⟩⟩

theorem below_drewN (w : World) (q : Nat) : Below w.heap.size w (w.drewN q) := ⟨rfl, rfl, rfl, Nat.le_refl _, fun _ _ => rfl⟩
theorem list_ext_getD {xs ys : List Int} {n : Nat} (hx : xs.length = n) (hy : ys.length = n) (h : ∀ j, j < n → xs.getD j 0 = ys.getD j 0) : xs = ys := by
  refine List.ext_getElem (hx.trans hy.symm) fun i h1 h2 => ?_
  have := h i (by omega)
  simpa [List.getD, List.getElem?_eq_getElem h1, List.getElem?_eq_getElem h2] using this

theorem own_shape {B : Nat} {w : World} {v : Value} {xs : List Int} (h : Own B w v xs) : ∃ a cap, v = .slice a xs.length cap := by
  rcases own_cases h with ⟨rfl, rfl⟩ | ⟨g, cap, rfl, _⟩
  · exact ⟨_, _, rfl⟩
  · exact ⟨_, _, rfl⟩

end Go.Proofs.Ythgjghgkjhkbbaa
