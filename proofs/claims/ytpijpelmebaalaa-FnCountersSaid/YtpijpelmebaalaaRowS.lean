/-
  Slices of arrays of seven integers that the call owns: how they are read, kept and written; and how bars wear: plain functions. No condition.
-/
import Derived.Test.YtpijpelmebaalaaOwn
import Derived.Test.YtpijpelmebaalaaSl
import Derived.Test.YtpijpelmebaalaaCtrP
import Derived.Test.YtpijpelmebaalaaBit7
namespace Go.Proofs.Ytpijpelmebaalaa
open Go.RowKit
set_option linter.unusedVariables false


/-- The slice v owns n arrays of seven integers, xs row by row, in a block from B on. -/
def OwnR (B : Nat) (w : World) (v : Value) (n : Nat) (xs : List Int) : Prop := w.ownsRow B 58 7 v n (xs.map (Value.int .i64))
theorem ownR_len {B n : Nat} {w : World} {v : Value} {xs : List Int} (h : OwnR B w v n xs) : xs.length = n * 7 := by have := h.1; simpa using this
theorem ownR_cases {B n : Nat} {w : World} {v : Value} {xs : List Int} (h : OwnR B w v n xs) :
    (v = .slice none 0 0 ∧ n = 0 ∧ xs = []) ∨ ∃ g cap, v = .slice (some ⟨g, 0, none⟩) n cap ∧ B ≤ g ∧ g < w.heap.size ∧ n ≤ cap ∧ cap ≤ maxLen ∧
      (∀ j, j < n * 7 → w.cell? ⟨g, j, none⟩ = some (.int .i64 (xs.getD j 0))) ∧ ∀ j, w.frozen? ⟨g, j, none⟩ = false := by
  have h' := h
  have hlen := ownR_len h
  obtain ⟨hl, hv | ⟨g, cap, cur, hv, hb, hg, hn, hm, hs, ht⟩⟩ := h
  · left
    exact ⟨hv.1, hv.2, List.eq_nil_of_length_eq_zero (by rw [hlen, hv.2])⟩
  · right
    subst hv
    refine ⟨g, cap, rfl, hb, (Array.getElem?_eq_some_iff.1 hg).1, hn, hm, fun j hj => ?_, fun j => World.ownsRow.frozenAt h' j⟩
    rw [World.ownsRow.cellAt h' j hj, List.getElem?_map, List.getElem?_eq_getElem (by omega)]
    simp [List.getD, List.getElem?_eq_getElem (show j < xs.length by omega)]
theorem ownR_keepC {B C n : Nat} {w w' : World} {v : Value} {xs : List Int} (h : OwnR B w v n xs) (hb : Below C w w') (hC : ∀ k, v.ownBlock = some k → k < C) : OwnR B w' v n xs := by
  obtain ⟨hl, hv | ⟨g, cap, cur, hv, hbg, hg, r⟩⟩ := h
  · exact ⟨hl, .inl hv⟩
  · refine ⟨hl, .inr ⟨g, cap, cur, hv, hbg, ?_, r⟩⟩
    rw [hb.block g (hC g (by rw [hv]; rfl))]; exact hg
theorem ownR_lt {B n : Nat} {w : World} {v : Value} {xs : List Int} (h : OwnR B w v n xs) : ∀ k, v.ownBlock = some k → B ≤ k ∧ k < w.heap.size := World.ownsRow.lt h
theorem ownR_keep {B n : Nat} {w w' : World} {v : Value} {xs : List Int} (h : OwnR B w v n xs) (hb : Below w.heap.size w w') : OwnR B w' v n xs :=
  ownR_keepC h hb fun k hk => (ownR_lt h k hk).2
theorem ownR_set {B n : Nat} {w : World} {g cap : Nat} {xs : List Int} (h : OwnR B w (.slice (some ⟨g, 0, none⟩) n cap) n xs) (j : Nat) (u : Int) :
    OwnR B (w.setCell ⟨g, j, none⟩ (.int .i64 u)) (.slice (some ⟨g, 0, none⟩) n cap) n (xs.set j u) := by
  have := (World.ownsRow.stored h j (.int .i64 u)).1
  unfold OwnR
  rw [List.map_set]
  exact this
theorem ownR_mono {B B' n : Nat} {w : World} {v : Value} {xs : List Int} (h : OwnR B w v n xs) (hB : B' ≤ B) : OwnR B' w v n xs := by
  obtain ⟨hl, hv | ⟨g, cap, cur, hv, hbg, r⟩⟩ := h
  · exact ⟨hl, .inl hv⟩
  · exact ⟨hl, .inr ⟨g, cap, cur, hv, Nat.le_trans hB hbg, r⟩⟩
theorem ownR_only {A n : Nat} {v u : Value} {xs : List Int} {w w' : World} (h : OwnR A w u n xs) (ho : Only v w w') (hne : ∀ k, u.ownBlock = some k → v.ownBlock ≠ some k) : OwnR A w' u n xs := by
  obtain ⟨hl, hv | ⟨g, cap, cur, hv, hbg, hg, r⟩⟩ := h
  · exact ⟨hl, .inl hv⟩
  · refine ⟨hl, .inr ⟨g, cap, cur, hv, hbg, ?_, r⟩⟩
    rw [ho g (hne g (by rw [hv]; rfl))]; exact hg
theorem ownR_apart {A B n m : Nat} {v u : Value} {xs ys : List Int} {w w' : World} (h : OwnR A w v n xs) (k : OwnR B w' u m ys) (hB : w.heap.size ≤ B) : (∀ k, u.ownBlock = some k → v.ownBlock ≠ some k) ∧ ∀ k, v.ownBlock = some k → u.ownBlock ≠ some k := by
  refine ⟨fun i hi e => ?_, fun i hi e => ?_⟩
  · have := (ownR_lt h i e).2; have := (ownR_lt k i hi).1; omega
  · have := (ownR_lt h i hi).2; have := (ownR_lt k i e).1; omega
theorem ownR_nil (B : Nat) (w : World) : OwnR B w (.slice none 0 0) 0 [] := ⟨by simp, .inl ⟨rfl, rfl⟩⟩

def wBar (c x : Nat) (W : List Int) : Nat → List Int
  | 0 => W
  | b + 1 => (wBar c x W b).set (x * 7 + b) ((wBar c x W b).getD (x * 7 + b) 0 + (bitN c b : Int))
def wCell (xs ys W : List Int) : Nat → List Int
  | 0 => W
  | x + 1 => wBar ((xs.getD x 0).toNat ^^^ (ys.getD x 0).toNat) x (wCell xs ys W x) 7
def wRun (k f : Nat) : Nat → List Int
  | 0 => List.replicate (k * 7) 0
  | i + 1 => wCell (cRow ((f + i) % pw k) k) (cRow ((f + i + 1) % pw k) k) (wRun k f i) k
theorem wBar_len (c x : Nat) (W : List Int) : ∀ b, (wBar c x W b).length = W.length
  | 0 => rfl
  | b + 1 => by simp [wBar, wBar_len c x W b]
theorem wCell_len (xs ys W : List Int) : ∀ x, (wCell xs ys W x).length = W.length
  | 0 => rfl
  | x + 1 => by simp [wCell, wBar_len, wCell_len xs ys W x]
theorem wRun_len (k f : Nat) : ∀ i, (wRun k f i).length = k * 7
  | 0 => by simp [wRun]
  | i + 1 => by simp [wRun, wCell_len, wRun_len k f i]
/-- All numbers of the list lie from 0 to m. -/
def upTo (W : List Int) (m : Nat) : Prop := ∀ j, 0 ≤ W.getD j 0 ∧ W.getD j 0 ≤ (m : Int)
theorem upTo_set {W : List Int} {m : Nat} (h : upTo W m) (p : Nat) (z : Nat) (hz : z < 2) : upTo (W.set p (W.getD p 0 + (z : Int))) (m + 1) := fun j => by
  have h1 := h j
  have h2 := h p
  by_cases e : p = j
  · subst e
    by_cases hl : p < W.length
    · have : (W.set p (W.getD p 0 + (z : Int))).getD p 0 = W.getD p 0 + (z : Int) := by simp [List.getD, hl]
      rw [this]; omega
    · rw [List.set_eq_of_length_le (by omega)]; omega
  · have : (W.set p (W.getD p 0 + (z : Int))).getD j 0 = W.getD j 0 := by simp [List.getD, List.getElem?_set_ne e]
    rw [this]; omega
theorem wBar_to {c x : Nat} {W : List Int} {m : Nat} (h : upTo W m) : ∀ b, upTo (wBar c x W b) (m + b)
  | 0 => h
  | b + 1 => upTo_set (wBar_to h b) (x * 7 + b) (bitN c b) (bitN_lt c b)
theorem wCell_to {xs ys W : List Int} {m : Nat} (h : upTo W m) : ∀ x, upTo (wCell xs ys W x) (m + 7 * x)
  | 0 => h
  | x + 1 => wBar_to (wCell_to h x) 7
theorem wRun_to (k f : Nat) (hk : k ≤ 6) : ∀ i, upTo (wRun k f i) (42 * i)
  | 0 => fun j => by
    have : (List.replicate (k * 7) (0 : Int)).getD j 0 = 0 := by
      simp only [List.getD, List.getElem?_replicate]
      split <;> rfl
    rw [wRun, this]; simp
  | i + 1 => fun j => by
    have := wCell_to (xs := cRow ((f + i) % pw k) k) (ys := cRow ((f + i + 1) % pw k) k) (wRun_to k f hk i) k j
    rw [wRun]; omega
def wearI (f s k : Int) : Nat × List Int × Bool := if isCtr f k && isSt s then (k.toNat, wRun k.toNat f.toNat s.toNat, true) else (0, [], false)

end Go.Proofs.Ytpijpelmebaalaa
