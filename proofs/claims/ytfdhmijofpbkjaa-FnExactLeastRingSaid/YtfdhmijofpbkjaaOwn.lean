/-
  A slice of integers that the call owns: how it is read, kept and written. No condition.
-/
import Derived.Test.YtfdhmijofpbkjaaBase
import Derived.Laws.OwnMore
namespace Go.Proofs.Ytfdhmijofpbkjaa
open Go.RowKit
set_option linter.unusedVariables false


/-- The slice v owns the integers xs, in a block from B on. -/
def Own (B : Nat) (w : World) (v : Value) (xs : List Int) : Prop := w.ownsRow B 3 1 v xs.length (xs.map (Value.int .i64))

theorem own_cases {B : Nat} {w : World} {v : Value} {xs : List Int} (h : Own B w v xs) :
    (v = .slice none 0 0 ∧ xs = []) ∨ ∃ g cap, v = .slice (some ⟨g, 0, none⟩) xs.length cap ∧ B ≤ g ∧ g < w.heap.size ∧ xs.length ≤ cap ∧ cap ≤ maxLen ∧
      (∀ j, j < xs.length → w.cell? ⟨g, j, none⟩ = some (.int .i64 (xs.getD j 0))) ∧ ∀ j, w.frozen? ⟨g, j, none⟩ = false := by
  have h' := h
  obtain ⟨hl, hv | ⟨g, cap, cur, hv, hb, hg, hn, hm, hs, ht⟩⟩ := h
  · left
    exact ⟨hv.1, List.eq_nil_of_length_eq_zero hv.2⟩
  · right
    subst hv
    refine ⟨g, cap, rfl, hb, (Array.getElem?_eq_some_iff.1 hg).1, hn, hm, fun j hj => ?_, fun j => World.ownsRow.frozenAt h' j⟩
    rw [World.ownsRow.cellAt h' j (by omega), List.getElem?_map, List.getElem?_eq_getElem hj]
    simp [List.getD, List.getElem?_eq_getElem hj]

theorem own_keepC {B C : Nat} {w w' : World} {v : Value} {xs : List Int} (h : Own B w v xs) (hb : Below C w w') (hC : ∀ k, v.ownBlock = some k → k < C) : Own B w' v xs := by
  obtain ⟨hl, hv | ⟨g, cap, cur, hv, hbg, hg, r⟩⟩ := h
  · exact ⟨hl, .inl hv⟩
  · refine ⟨hl, .inr ⟨g, cap, cur, hv, hbg, ?_, r⟩⟩
    rw [hb.block g (hC g (by rw [hv]; rfl))]; exact hg
theorem own_lt {B : Nat} {w : World} {v : Value} {xs : List Int} (h : Own B w v xs) : ∀ k, v.ownBlock = some k → B ≤ k ∧ k < w.heap.size := World.ownsRow.lt h
theorem own_keep {B : Nat} {w w' : World} {v : Value} {xs : List Int} (h : Own B w v xs) (hb : Below w.heap.size w w') : Own B w' v xs :=
  own_keepC h hb fun k hk => (own_lt h k hk).2
theorem own_set {B : Nat} {w : World} {g cap : Nat} {xs : List Int} (h : Own B w (.slice (some ⟨g, 0, none⟩) xs.length cap) xs) (j : Nat) (u : Int) :
    Own B (w.setCell ⟨g, j, none⟩ (.int .i64 u)) (.slice (some ⟨g, 0, none⟩) xs.length cap) (xs.set j u) := by
  have := (World.ownsRow.stored h j (.int .i64 u)).1
  unfold Own
  rw [List.map_set, List.length_set]
  exact this
theorem own_mono {B B' : Nat} {w : World} {v : Value} {xs : List Int} (h : Own B w v xs) (hB : B' ≤ B) : Own B' w v xs := by
  obtain ⟨hl, hv | ⟨g, cap, cur, hv, hbg, r⟩⟩ := h
  · exact ⟨hl, .inl hv⟩
  · exact ⟨hl, .inr ⟨g, cap, cur, hv, Nat.le_trans hB hbg, r⟩⟩

theorem below_drewN (w : World) (q : Nat) : Below w.heap.size w (w.drewN q) := ⟨rfl, rfl, rfl, Nat.le_refl _, fun _ _ => rfl⟩
theorem list_ext_getD {xs ys : List Int} {n : Nat} (hx : xs.length = n) (hy : ys.length = n) (h : ∀ j, j < n → xs.getD j 0 = ys.getD j 0) : xs = ys := by
  refine List.ext_getElem (hx.trans hy.symm) fun i h1 h2 => ?_
  have := h i (by omega)
  simpa [List.getD, List.getElem?_eq_getElem h1, List.getElem?_eq_getElem h2] using this

theorem own_shape {B : Nat} {w : World} {v : Value} {xs : List Int} (h : Own B w v xs) : ∃ a cap, v = .slice a xs.length cap := by
  rcases own_cases h with ⟨rfl, rfl⟩ | ⟨g, cap, rfl, _⟩
  · exact ⟨_, _, rfl⟩
  · exact ⟨_, _, rfl⟩

theorem own_push {B : Nat} {w : World} {v : Value} {ys : List Int} {x : Int} (h : w.ownsRow B 3 1 v (ys.length + 1) (ys.map (Value.int .i64) ++ [.int .i64 x])) : Own B w v (ys ++ [x]) := by
  unfold Own
  rw [List.map_append, List.length_append]
  exact h
theorem own_setCells {B : Nat} {g cap : Nat} : ∀ (ys : List Int) (o : Nat) (w : World) (xs : List Int), o + ys.length = xs.length → Own B w (.slice (some ⟨g, 0, none⟩) xs.length cap) xs →
    Own B (w.setCells g o (ys.map (Value.int .i64))) (.slice (some ⟨g, 0, none⟩) xs.length cap) (xs.take o ++ ys)
  | [], o, w, xs, h, ho => by
    have : xs.take o = xs := List.take_of_length_le (by simp at h; omega)
    simpa [World.setCells, this] using ho
  | y :: r, o, w, xs, h, ho => by
    have h1 := own_set ho o y
    have h2 := own_setCells (B := B) (cap := cap) r (o + 1) (w.setCell ⟨g, o, none⟩ (.int .i64 y)) (xs.set o y) (by rw [List.length_set]; simp at h; omega) (by rw [List.length_set]; exact h1)
    rw [List.length_set] at h2
    have e : (xs.set o y).take (o + 1) ++ r = xs.take o ++ y :: r := by
      have hlt : o < xs.length := by simp at h; omega
      rw [List.take_succ_eq_append_getElem (by rw [List.length_set]; exact hlt), List.getElem_set_self, List.append_assoc, List.take_set_of_le (Nat.le_refl _)]
      rfl
    rw [e] at h2
    exact h2
theorem below_setCells' {B g : Nat} {a : World} (hb : B ≤ g) : ∀ (vs : List Value) (o : Nat) (w : World), Below B a w → Below B a (w.setCells g o vs)
  | [], _, _, h => h
  | v :: r, o, w, h => below_setCells' hb r (o + 1) _ (h.setCell hb v)

/-- Of the heap at most the block that the slice v lies in has turned. -/
def Only (v : Value) (w w' : World) : Prop := ∀ k, v.ownBlock ≠ some k → w'.heap[k]? = w.heap[k]?
theorem only_refl (v : Value) (w : World) : Only v w w := fun _ _ => rfl
theorem only_set {g n cap : Nat} {w w' : World} (h : Only (.slice (some ⟨g, 0, none⟩) n cap) w w') (j : Nat) (u : Value) : Only (.slice (some ⟨g, 0, none⟩) n cap) w (w'.setCell ⟨g, j, none⟩ u) := fun k hk => by
  rw [Below.heap_setCell _ _ _ _ (fun e => hk (by rw [e]; rfl))]
  exact h k hk
theorem own_only {A : Nat} {v u : Value} {xs : List Int} {w w' : World} (h : Own A w u xs) (ho : Only v w w') (hne : ∀ k, u.ownBlock = some k → v.ownBlock ≠ some k) : Own A w' u xs := by
  obtain ⟨hl, hv | ⟨g, cap, cur, hv, hbg, hg, r⟩⟩ := h
  · exact ⟨hl, .inl hv⟩
  · refine ⟨hl, .inr ⟨g, cap, cur, hv, hbg, ?_, r⟩⟩
    rw [ho g (hne g (by rw [hv]; rfl))]; exact hg
/-- Two slices in blocks of different times are apart. -/
theorem own_apart {A B : Nat} {v u : Value} {xs ys : List Int} {w w' : World} (h : Own A w v xs) (k : Own B w' u ys) (hB : w.heap.size ≤ B) : (∀ k, u.ownBlock = some k → v.ownBlock ≠ some k) ∧ ∀ k, v.ownBlock = some k → u.ownBlock ≠ some k := by
  refine ⟨fun i hi e => ?_, fun i hi e => ?_⟩
  · have := (own_lt h i e).2; have := (own_lt k i hi).1; omega
  · have := (own_lt h i hi).2; have := (own_lt k i e).1; omega

end Go.Proofs.Ytfdhmijofpbkjaa
