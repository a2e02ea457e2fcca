/-
  A slice of strings that the call owns: how it is read, kept and written. No condition.
-/
import Derived.Test.YthgjghgkjhkbbaaGreatDoorOwn
import Derived.Lib.Hide
namespace Go.Proofs.YthgjghgkjhkbbaaGreatDoor
open Go.RowKit
set_option linter.unusedVariables false
set_option maxRecDepth 20000


theorem info_str : (Tryz.prog.info? 9).map (fun i => (i.zero, i.size, i.bytes)) = some (some (.string ⟨#[]⟩), 1, 16) := by kernel_rfl
/-- The slice v owns the strings xs, in a block from B on. -/
def OwnS (B : Nat) (w : World) (v : Value) (xs : List ByteArray) : Prop := w.ownsRow B 9 1 v xs.length (xs.map Value.string)
theorem ownS_cases {B : Nat} {w : World} {v : Value} {xs : List ByteArray} (h : OwnS B w v xs) :
    (v = .slice none 0 0 ∧ xs = []) ∨ ∃ g cap, v = .slice (some ⟨g, 0, none⟩) xs.length cap ∧ B ≤ g ∧ g < w.heap.size ∧ xs.length ≤ cap ∧ cap ≤ maxLen ∧
      (∀ j x, xs[j]? = some x → w.cell? ⟨g, j, none⟩ = some (.string x)) ∧ ∀ j, w.frozen? ⟨g, j, none⟩ = false := by
  have h' := h
  obtain ⟨hl, hv | ⟨g, cap, cur, hv, hb, hg, hn, hm, hs, ht⟩⟩ := h
  · left
    exact ⟨hv.1, List.eq_nil_of_length_eq_zero hv.2⟩
  · right
    subst hv
    refine ⟨g, cap, rfl, hb, (Array.getElem?_eq_some_iff.1 hg).1, hn, hm, fun j x hj => ?_, fun j => World.ownsRow.frozenAt h' j⟩
    have hlt : j < xs.length := (List.getElem?_eq_some_iff.1 hj).1
    rw [World.ownsRow.cellAt h' j (by omega), List.getElem?_map, hj]
    rfl
theorem ownS_keepC {B C : Nat} {w w' : World} {v : Value} {xs : List ByteArray} (h : OwnS B w v xs) (hb : Below C w w') (hC : ∀ k, v.ownBlock = some k → k < C) : OwnS B w' v xs := by
  obtain ⟨hl, hv | ⟨g, cap, cur, hv, hbg, hg, r⟩⟩ := h
  · exact ⟨hl, .inl hv⟩
  · refine ⟨hl, .inr ⟨g, cap, cur, hv, hbg, ?_, r⟩⟩
    rw [hb.block g (hC g (by rw [hv]; rfl))]; exact hg
theorem ownS_lt {B : Nat} {w : World} {v : Value} {xs : List ByteArray} (h : OwnS B w v xs) : ∀ k, v.ownBlock = some k → B ≤ k ∧ k < w.heap.size := World.ownsRow.lt h
theorem ownS_keep {B : Nat} {w w' : World} {v : Value} {xs : List ByteArray} (h : OwnS B w v xs) (hb : Below w.heap.size w w') : OwnS B w' v xs :=
  ownS_keepC h hb fun k hk => (ownS_lt h k hk).2
theorem ownS_set {B : Nat} {w : World} {g cap : Nat} {xs : List ByteArray} (h : OwnS B w (.slice (some ⟨g, 0, none⟩) xs.length cap) xs) (j : Nat) (u : ByteArray) :
    OwnS B (w.setCell ⟨g, j, none⟩ (.string u)) (.slice (some ⟨g, 0, none⟩) xs.length cap) (xs.set j u) := by
  have := (World.ownsRow.stored h j (.string u)).1
  unfold OwnS
  rw [List.map_set, List.length_set]
  exact this
theorem ownS_mono {B B' : Nat} {w : World} {v : Value} {xs : List ByteArray} (h : OwnS B w v xs) (hB : B' ≤ B) : OwnS B' w v xs := by
  obtain ⟨hl, hv | ⟨g, cap, cur, hv, hbg, r⟩⟩ := h
  · exact ⟨hl, .inl hv⟩
  · exact ⟨hl, .inr ⟨g, cap, cur, hv, Nat.le_trans hB hbg, r⟩⟩
theorem ownS_shape {B : Nat} {w : World} {v : Value} {xs : List ByteArray} (h : OwnS B w v xs) : ∃ a cap, v = .slice a xs.length cap := by
  rcases ownS_cases h with ⟨rfl, rfl⟩ | ⟨g, cap, rfl, _⟩
  · exact ⟨_, _, rfl⟩
  · exact ⟨_, _, rfl⟩
theorem ownS_push {B : Nat} {w : World} {v : Value} {ys : List ByteArray} {x : ByteArray} (h : w.ownsRow B 9 1 v (ys.length + 1) (ys.map Value.string ++ [.string x])) : OwnS B w v (ys ++ [x]) := by
  unfold OwnS
  rw [List.map_append, List.length_append]
  exact h
theorem ownS_nil (B : Nat) (w : World) : OwnS B w (.slice none 0 0) [] := ⟨by simp, .inl ⟨rfl, rfl⟩⟩
theorem ownS_only {A : Nat} {v u : Value} {xs : List ByteArray} {w w' : World} (h : OwnS A w u xs) (ho : Only v w w') (hne : ∀ k, u.ownBlock = some k → v.ownBlock ≠ some k) : OwnS A w' u xs := by
  obtain ⟨hl, hv | ⟨g, cap, cur, hv, hbg, hg, r⟩⟩ := h
  · exact ⟨hl, .inl hv⟩
  · refine ⟨hl, .inr ⟨g, cap, cur, hv, hbg, ?_, r⟩⟩
    rw [ho g (hne g (by rw [hv]; rfl))]; exact hg
theorem ownS_apart {A B : Nat} {v u : Value} {xs ys : List ByteArray} {w w' : World} (h : OwnS A w v xs) (k : OwnS B w' u ys) (hB : w.heap.size ≤ B) : (∀ k, u.ownBlock = some k → v.ownBlock ≠ some k) ∧ ∀ k, v.ownBlock = some k → u.ownBlock ≠ some k := by
  refine ⟨fun i hi e => ?_, fun i hi e => ?_⟩
  · have := (ownS_lt h i e).2; have := (ownS_lt k i hi).1; omega
  · have := (ownS_lt h i hi).2; have := (ownS_lt k i e).1; omega
theorem str_ext {xs ys : List ByteArray} {n : Nat} (hx : xs.length = n) (hy : ys.length = n) (h : ∀ j, j < n → xs[j]? = ys[j]?) : xs = ys := by
  refine List.ext_getElem? fun i => ?_
  by_cases hi : i < n
  · exact h i hi
  · rw [List.getElem?_eq_none (by omega), List.getElem?_eq_none (by omega)]

end Go.Proofs.YthgjghgkjhkbbaaGreatDoor
