/-
  A local array of integers: a block of its own, how it is read and written. No condition.
-/
import Derived.Test.YtfdhmijofpbkjaaOwn
import Derived.Lib.Hide
namespace Go.Proofs.Ytfdhmijofpbkjaa
open Go.RowKit
set_option linter.unusedVariables false


/-- The block g, of the type T, from B on, holds the integers xs. -/
def OwnT (T : TypeId) (B : Nat) (w : World) (g : Nat) (xs : List Int) : Prop := w.ownsRow B T 1 (.slice (some ⟨g, 0, none⟩) xs.length xs.length) xs.length (xs.map (Value.int .i64))
theorem ownT_cell {T : TypeId} {B : Nat} {w : World} {g : Nat} {xs : List Int} (h : OwnT T B w g xs) (j : Nat) (hj : j < xs.length) : w.cell? ⟨g, j, none⟩ = some (.int .i64 (xs.getD j 0)) := by
  rw [World.ownsRow.cellAt h j (by omega), List.getElem?_map, List.getElem?_eq_getElem hj]
  simp [List.getD, List.getElem?_eq_getElem hj]
theorem ownT_free {T : TypeId} {B : Nat} {w : World} {g : Nat} {xs : List Int} (h : OwnT T B w g xs) (j : Nat) : w.frozen? ⟨g, j, none⟩ = false := World.ownsRow.frozenAt h j
theorem ownT_lt {T : TypeId} {B : Nat} {w : World} {g : Nat} {xs : List Int} (h : OwnT T B w g xs) : B ≤ g ∧ g < w.heap.size := World.ownsRow.lt h g rfl
theorem ownT_keepC {T : TypeId} {B C : Nat} {w w' : World} {g : Nat} {xs : List Int} (h : OwnT T B w g xs) (hb : Below C w w') (hC : g < C) : OwnT T B w' g xs := by
  obtain ⟨hl, hv | ⟨g', cap, cur, hv, hbg, hg, r⟩⟩ := h
  · cases hv.1
  · have e : g = g' := by
      injection hv with h1
      injection h1 with h2
      injection h2
    subst e
    refine ⟨hl, .inr ⟨g, cap, cur, hv, hbg, ?_, r⟩⟩
    rw [hb.block g hC]; exact hg
theorem ownT_keep {T : TypeId} {B : Nat} {w w' : World} {g : Nat} {xs : List Int} (h : OwnT T B w g xs) (hb : Below w.heap.size w w') : OwnT T B w' g xs := ownT_keepC h hb (ownT_lt h).2
theorem ownT_set {T : TypeId} {B : Nat} {w : World} {g : Nat} {xs : List Int} (h : OwnT T B w g xs) (j : Nat) (u : Int) : OwnT T B (w.setCell ⟨g, j, none⟩ (.int .i64 u)) g (xs.set j u) := by
  have := (World.ownsRow.stored h j (.int .i64 u)).1
  unfold OwnT
  rw [List.map_set, List.length_set]
  exact this
theorem below_drew1 (w : World) : Below w.heap.size w w.drew := ⟨rfl, rfl, rfl, Nat.le_refl _, fun _ _ => rfl⟩
theorem ownT_new {T : TypeId} {B : Nat} (w : World) (cs : Array Value) (xs : List Int) (hB : B ≤ w.heap.size) (hx : xs.length ≤ maxLen) (h : cs.toList = xs.map (Value.int .i64)) : OwnT T B (w.alloc (.cells cs T)) w.heap.size xs := by
  unfold OwnT
  rw [← h]
  have hs : cs.size = xs.length := by have := congrArg List.length h; simpa using this
  exact World.ownsRow_lit w cs xs.length hB hx (by rw [hs, Nat.mul_one])
/-- Two arrays made one behind the other: both lie there. -/
theorem ownT_two (T : TypeId) (w : World) (cs : Array Value) (xs : List Int) (hx : xs.length ≤ maxLen) (h : cs.toList = xs.map (Value.int .i64)) :
    OwnT T w.heap.size ((w.alloc (.cells cs T)).alloc (.cells cs T)) w.heap.size xs ∧ OwnT T w.heap.size ((w.alloc (.cells cs T)).alloc (.cells cs T)) (w.heap.size + 1) xs ∧ Below w.heap.size w ((w.alloc (.cells cs T)).alloc (.cells cs T)) := by
  have hs : (w.alloc (.cells cs T)).heap.size = w.heap.size + 1 := by simp
  have hb : Below w.heap.size w ((w.alloc (.cells cs T)).alloc (.cells cs T)) := ((Below.refl _ _).alloc (Nat.le_refl _) _).alloc (by rw [hs]; omega) _
  refine ⟨ownT_keep (ownT_new w cs xs (Nat.le_refl _) hx h) ((Below.refl _ _).alloc (Nat.le_refl _) _), ?_, hb⟩
  rw [← hs]
  exact ownT_new (w.alloc (.cells cs T)) cs xs (by rw [hs]; omega) hx h

end Go.Proofs.Ytfdhmijofpbkjaa
