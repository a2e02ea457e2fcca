/-
  The table of changes: plain functions, and an array that cells are stored into one behind the other. No program in sight but the array.
-/
import Derived.Test.YtfdhmijofpbkjaaDigit
import Derived.Test.YtfdhmijofpbkjaaBits
import Derived.Test.YtfdhmijofpbkjaaArr
import Derived.Deep.MidRow
namespace Go.Proofs.Ytfdhmijofpbkjaa
open Go.RowKit
set_option linter.unusedVariables false


def dgN (d : Nat) : Nat := (dig.getD d 0).toNat
theorem dgN_is : ∀ d : Nat, d < 10 → dig.getD d 0 = (dgN d : Int) ∧ dgN d < 128 := by decide +kernel
def farT (i k : Nat) : Nat := cnt (dgN i ^^^ dgN k) 7
theorem farT_le (i k : Nat) : farT i k ≤ 7 := cnt_le _ _
def tabL (n : Nat) : List Int := (List.range 100).map fun j => if j < n then (farT (j / 10) (j % 10) : Int) else 0
theorem tabL_len (n : Nat) : (tabL n).length = 100 := by simp [tabL]
theorem tabL_set : ∀ a : Nat, a < 10 → ∀ b : Nat, b < 10 → (tabL (a * 10 + b)).set (a * 10 + b) (farT a b : Int) = tabL (a * 10 + b + 1) := by decide +kernel
theorem tabL_next (a : Nat) : tabL (a * 10 + 10) = tabL ((a + 1) * 10) := by rw [Nat.succ_mul]
def tabC : Array Value := ((tabL 100).map (Value.int .i64)).toArray
theorem tabC_size : tabC.size = 100 := by simp [tabC, tabL]

theorem ownT_setCells {T : TypeId} {B g : Nat} : ∀ (ys : List Int) (o : Nat) (w : World) (xs : List Int), o + ys.length = xs.length → OwnT T B w g xs → OwnT T B (w.setCells g o (ys.map (Value.int .i64))) g (xs.take o ++ ys)
  | [], o, w, xs, h, ho => by
    have : xs.take o = xs := List.take_of_length_le (by simp at h; omega)
    simpa [World.setCells, this] using ho
  | y :: r, o, w, xs, h, ho => by
    have h2 := ownT_setCells (T := T) (B := B) r (o + 1) (w.setCell ⟨g, o, none⟩ (.int .i64 y)) (xs.set o y) (by rw [List.length_set]; simp at h; omega) (ownT_set ho o y)
    have e : (xs.set o y).take (o + 1) ++ r = xs.take o ++ y :: r := by
      have hlt : o < xs.length := by simp at h; omega
      rw [List.take_succ_eq_append_getElem (by rw [List.length_set]; exact hlt), List.getElem_set_self, List.append_assoc, List.take_set_of_le (Nat.le_refl _)]
      rfl
    rw [e] at h2
    exact h2
theorem ownT_there {T : TypeId} {B : Nat} {w : World} {g n : Nat} {xs : List Int} (h : OwnT T B w g xs) (hn : xs.length = n) : w.there g 0 n := fun j hj => by
  rw [Nat.zero_add, ownT_cell h j (by omega)]
  exact ⟨rfl, ownT_free h j⟩
theorem ownT_heap {T : TypeId} {B : Nat} {w : World} {g : Nat} {xs : List Int} (h : OwnT T B w g xs) : w.heap[g]? = some (.cells ((xs.map (Value.int .i64)).toArray) T (0, 0)) := by
  obtain ⟨hl, hv | ⟨g', cap, cur, hv, hbg, hg, hn, hm, hs, ht⟩⟩ := h
  · cases hv.1
  · have e : g = g' ∧ xs.length = cap := by
      injection hv with h1 h2 h3
      injection h1 with h2'
      injection h2' with h4
      exact ⟨h4, h3⟩
    obtain ⟨rfl, rfl⟩ := e
    rw [hg]
    have : cur = (xs.map (Value.int .i64)).toArray := by
      have h2 : cur.toList = xs.map (Value.int .i64) := by
        rw [← ht, List.take_of_length_le]
        rw [Array.length_toList, hs]
        exact Nat.le_refl _
      rw [← h2]
    rw [this]
theorem below_setCellsN {N g : Nat} {a : World} (hb : N ≤ g) : ∀ (vs : List Value) (o : Nat) (w : World), Below N a w → Below N a (w.setCells g o vs)
  | [], _, _, h => h
  | v :: r, o, w, h => below_setCellsN hb r (o + 1) _ (h.setCell hb v)
theorem ones_all (xs : List Int) : ((xs.map (Value.int .i64)).toArray).all (·.oneCell') = true := all_oneCell_toArray (fun u hu => by
  rw [List.mem_map] at hu
  obtain ⟨x, _, rfl⟩ := hu
  rfl)

end Go.Proofs.Ytfdhmijofpbkjaa
