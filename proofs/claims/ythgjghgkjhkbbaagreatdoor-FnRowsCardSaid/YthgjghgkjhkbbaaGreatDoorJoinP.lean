/-
  Joining strings with a sign: plain functions, no program in sight.
-/
import Derived.Test.YthgjghgkjhkbbaaGreatDoorPlain
import Derived.Lib.Join
namespace Go.Proofs.YthgjghgkjhkbbaaGreatDoor
open Go.RowKit
set_option linter.unusedVariables false
set_option maxRecDepth 20000


theorem join_step (l : List (List UInt8)) (k : Nat) (y : List UInt8) (h : l[k]? = some y) (hk : 0 < k) (sep : List UInt8) : Lib.join (l.take (k + 1)) sep = Lib.join (l.take k) sep ++ sep ++ y := by
  cases l with
  | nil => simp at h
  | cons x r =>
    obtain ⟨m, rfl⟩ : ∃ m, k = m + 1 := ⟨k - 1, by omega⟩
    rw [List.take_succ_cons, List.take_succ_cons, Lib.join_cons, Lib.join_cons, Lib.joinTail_take_succ sep r m y (by simpa using h)]
    simp [List.append_assoc]
theorem join_first (l : List (List UInt8)) (y : List UInt8) (h : l[0]? = some y) (sep : List UInt8) : Lib.join (l.take 1) sep = y := by
  cases l with
  | nil => simp at h
  | cons x r => simp at h; subst h; simp [Lib.join_one]
/-- The length of the first k strings joined (k at least one). -/
theorem join_len (l : List (List UInt8)) (k : Nat) (h0 : 0 < k) (hk : k ≤ l.length) (b : UInt8) : (Lib.join (l.take k) [b]).length + 1 = k + Lib.lens (l.take k) := by
  cases l with
  | nil => simp at hk; omega
  | cons x r =>
    obtain ⟨m, rfl⟩ : ∃ m, k = m + 1 := ⟨k - 1, by omega⟩
    rw [List.take_succ_cons, Lib.join_length]
    simp at hk
    rw [List.length_take]
    simp
    omega
/-- No string bears the byte b, and joined they have at most 4000 bytes. -/
def joinOk (l : List (List UInt8)) (b : UInt8) : Bool := decide ((∀ s ∈ l, b ∉ s) ∧ l.length - 1 + Lib.lens l ≤ 4000)
theorem joinOk_bears (l : List (List UInt8)) (b : UInt8) (i : Nat) (s : List UInt8) (h : l[i]? = some s) (hb : b ∈ s) : joinOk l b = false :=
  decide_eq_false fun hh => hh.1 s (List.mem_of_getElem? h) hb
theorem joinOk_long (l : List (List UInt8)) (b : UInt8) (k : Nat) (h : 4000 < l.length - 1 + Lib.lens (l.take k)) : joinOk l b = false :=
  decide_eq_false fun hh => by have := Lib.lens_take_le l k; have := hh.2; omega
theorem joinOk_long2 (l : List (List UInt8)) (b : UInt8) (k : Nat) (h0 : 0 < k) (hk : k ≤ l.length) (h : 4000 < (Lib.join (l.take k) [b]).length) : joinOk l b = false :=
  decide_eq_false fun hh => by have := Lib.lens_take_le l k; have := hh.2; have := join_len l k h0 hk b; omega
theorem joinOk_yes (l : List (List UInt8)) (b : UInt8) (h1 : ∀ (i : Nat) s, l[i]? = some s → b ∉ s) (h2 : l.length - 1 + Lib.lens l ≤ 4000) : joinOk l b = true :=
  decide_eq_true ⟨fun s hs => by obtain ⟨i, hi⟩ := List.mem_iff_getElem?.1 hs; exact h1 i s hi, h2⟩

end Go.Proofs.YthgjghgkjhkbbaaGreatDoor
