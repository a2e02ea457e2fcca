/-
  The text of a row: plain functions, no program in sight.
-/
import Derived.Test.YthgjghgkjhkbbaaGreatDoorPlain
import Derived.Test.YthgjghgkjhkbbaaGreatDoorJoinP
namespace Go.Proofs.YthgjghgkjhkbbaaGreatDoor
open Go.RowKit
set_option linter.unusedVariables false
set_option maxRecDepth 20000

/-- A cell's word, a row's words, its text. -/
def wordC (c : Int) : List UInt8 := if c = 0 then [45] else bars c.toNat 7
theorem wordC_len (c : Int) : (wordC c).length ≤ 7 := by
  unfold wordC; split
  · simp
  · exact bars_len _ 7
theorem wordC_nat (c : Nat) : wordC (c : Int) = if c = 0 then [45] else bars c 7 := by
  unfold wordC
  by_cases h : c = 0
  · subst h; rfl
  · rw [if_neg h, if_neg (by omega), Int.toNat_natCast]
def txt (xs : List Int) : List UInt8 := Lib.join (xs.map wordC) [32]
def wds (xs : List Int) : List ByteArray := xs.map fun c => ByteArray.mk (wordC c).toArray
theorem wds_txt (xs : List Int) : Lib.join ((wds xs).map (·.data.toList)) [32] = txt xs := by
  unfold wds txt
  rw [List.map_map]
  congr 1
theorem at_map (xs : List Int) (k : Nat) (x : Int) (hk : k < xs.length) (hx : xs.getD k 0 = x) : (xs.map wordC)[k]? = some (wordC x) := by
  rw [List.getElem?_map, List.getElem?_eq_getElem hk]
  rw [← hx]
  simp [List.getD, List.getElem?_eq_getElem hk]
theorem txt_first (xs : List Int) (x : Int) (hk : 0 < xs.length) (hx : xs.getD 0 0 = x) : txt (xs.take 1) = wordC x := by
  unfold txt
  rw [List.map_take]
  exact join_first _ _ (at_map xs 0 x hk hx) _
theorem txt_step (xs : List Int) (k : Nat) (x : Int) (h0 : 0 < k) (hk : k < xs.length) (hx : xs.getD k 0 = x) : txt (xs.take (k + 1)) = txt (xs.take k) ++ [32] ++ wordC x := by
  unfold txt
  rw [List.map_take, List.map_take]
  exact join_step _ k _ (at_map xs k x hk hx) h0 _
theorem txt_len (xs : List Int) : (txt xs).length ≤ 8 * xs.length := by
  have h : ∀ (l : List (List UInt8)), (∀ s ∈ l, s.length ≤ 7) → (Lib.joinTail [32] l).length ≤ 8 * l.length := by
    intro l
    induction l with
    | nil => simp [Lib.joinTail]
    | cons a t ih =>
      intro hl
      have h1 := ih (fun s hs => hl s (by simp [hs]))
      have h2 := hl a (by simp)
      have e : Lib.joinTail [32] (a :: t) = [32] ++ a ++ Lib.joinTail [32] t := by simp [Lib.joinTail]
      rw [e, List.length_append, List.length_append, List.length_cons]
      simp; omega
  cases xs with
  | nil => simp [txt, Lib.join_nil]
  | cons a t =>
    have h1 := h (t.map wordC) (fun s hs => by rw [List.mem_map] at hs; obtain ⟨c, _, rfl⟩ := hs; exact wordC_len c)
    have h2 := wordC_len a
    rw [List.length_map] at h1
    unfold txt
    rw [List.map_cons, Lib.join_cons, List.length_append, List.length_cons]
    omega
theorem wds_step (xs : List Int) (k : Nat) (x : Int) (hk : k < xs.length) (hx : xs.getD k 0 = x) : wds (xs.take (k + 1)) = wds (xs.take k) ++ [ByteArray.mk (wordC x).toArray] := by
  have h2 : xs[k] = x := by simpa [List.getD, List.getElem?_eq_getElem hk] using hx
  rw [List.take_succ_eq_append_getElem hk, h2]
  unfold wds
  rw [List.map_append]
  rfl
theorem wds_len (xs : List Int) : (wds xs).length = xs.length := by simp [wds]
theorem mk_app (a b : List UInt8) : ByteArray.mk a.toArray ++ ByteArray.mk b.toArray = ByteArray.mk (a ++ b).toArray := ByteArray.mk_append_mk a b


end Go.Proofs.YthgjghgkjhkbbaaGreatDoor
