/-
  The parts of a text between bytes: plain functions, no program in sight.
-/
import Derived.Test.YthgjghgkjhkbbaaGreatDoorPlain
import Derived.Test.YthgjghgkjhkbbaaGreatDoorJoinP
import Derived.Lib.Split
import Derived.Lib.SplitLaws
import Derived.Lib.IndexLaws
import Derived.Lib.IndexBytes
import Derived.Lib.CountLaws
namespace Go.Proofs.YthgjghgkjhkbbaaGreatDoor
open Go.RowKit
set_option linter.unusedVariables false
set_option maxRecDepth 20000


def spl (b : UInt8) (l : List UInt8) : List (List UInt8) := Lib.split l [b]
theorem spl_miss (b : UInt8) (l : List UInt8) (h : Lib.indexByte l b = -1) : spl b l = [l] := by
  unfold spl Lib.split
  rw [Lib.count_miss (by rw [Lib.index_one]; exact h)]
  rfl
theorem spl_hit (b : UInt8) (l : List UInt8) (i : Nat) (h : Lib.indexByte l b = (i : Int)) : spl b l = l.take i :: spl b (l.drop (i + 1)) := by
  have hi : Lib.index l [b] = (i : Int) := by rw [Lib.index_one]; exact h
  unfold spl Lib.split
  rw [Lib.count_hit (by simp) hi, Nat.add_comm 1]
  have hne : ¬ ((i : Int) == -1) = true := by rw [beq_iff_eq]; omega
  rw [Lib.splitK, hi, if_neg hne]
  simp
/-- The first b of l stands at i. -/
theorem index_at (b : UInt8) (l : List UInt8) (i : Nat) (h : l[i]? = some b) (h0 : ∀ j, j < i → l[j]? ≠ some b) : Lib.indexByte l b = (i : Int) := by
  have hge := Lib.indexByte_ge l b
  by_cases hm : Lib.indexByte l b = -1
  · exact absurd h (Lib.indexByte_none hm i)
  · obtain ⟨o, ho⟩ : ∃ o : Nat, Lib.indexByte l b = (o : Int) := ⟨(Lib.indexByte l b).toNat, by omega⟩
    obtain ⟨h1, h2⟩ := Lib.indexByte_some ho
    rw [ho]
    have e1 : ¬ o < i := fun hlt => h0 o hlt h1
    have e2 : ¬ i < o := fun hlt => h2 i hlt h
    congr 1
    omega
theorem index_no (b : UInt8) (l : List UInt8) (h : ∀ j : Nat, l[j]? ≠ some b) : Lib.indexByte l b = -1 := by
  have hge := Lib.indexByte_ge l b
  by_cases hm : Lib.indexByte l b = -1
  · exact hm
  · obtain ⟨o, ho⟩ : ∃ o : Nat, Lib.indexByte l b = (o : Int) := ⟨(Lib.indexByte l b).toNat, by omega⟩
    exact absurd (Lib.indexByte_some ho).1 (h o)
/-- Each text has parts; joined they are the text; none bears the byte. -/
theorem spl_ind (b : UInt8) (P : List UInt8 → Prop) (h1 : ∀ l : List UInt8, (∀ j : Nat, l[j]? ≠ some b) → P l) (h2 : ∀ l i, Lib.indexByte l b = ((i : Nat) : Int) → P (l.drop (i + 1)) → P l) : ∀ l, P l := by
  intro l
  generalize hn : l.length = n
  induction n using Nat.strongRecOn generalizing l with
  | _ n ih =>
    have hge := Lib.indexByte_ge l b
    by_cases hm : Lib.indexByte l b = -1
    · exact h1 l (Lib.indexByte_none hm)
    · obtain ⟨o, ho⟩ : ∃ o : Nat, Lib.indexByte l b = (o : Int) := ⟨(Lib.indexByte l b).toNat, by omega⟩
      have hl : o < l.length := (List.getElem?_eq_some_iff.1 (Lib.indexByte_some ho).1).1
      exact h2 l o ho (ih (l.length - (o + 1)) (by omega) (l.drop (o + 1)) (by rw [List.length_drop]))
theorem spl_ne (b : UInt8) (l : List UInt8) : spl b l ≠ [] := by
  refine spl_ind b (fun l => spl b l ≠ []) (fun l h => ?_) (fun l i h _ => ?_) l
  · show spl b l ≠ []
    rw [spl_miss b l (index_no b l h)]; simp
  · show spl b l ≠ []
    rw [spl_hit b l i h]; simp
theorem spl_join (b : UInt8) (l : List UInt8) : Lib.join (spl b l) [b] = l := by
  refine spl_ind b (fun l => Lib.join (spl b l) [b] = l) (fun l h => ?_) (fun l i h ih => ?_) l
  · show Lib.join (spl b l) [b] = l
    rw [spl_miss b l (index_no b l h), Lib.join_one]
  · show Lib.join (spl b l) [b] = l
    obtain ⟨h1, _⟩ := Lib.indexByte_some h
    obtain ⟨hlt, hb⟩ := List.getElem?_eq_some_iff.1 h1
    rw [spl_hit b l i h]
    cases hs : spl b (l.drop (i + 1)) with
    | nil => exact absurd hs (spl_ne b _)
    | cons x r =>
      have ih' : Lib.join (spl b (l.drop (i + 1))) [b] = l.drop (i + 1) := ih
      rw [hs, Lib.join_cons] at ih'
      rw [Lib.join_cons]
      have e : Lib.joinTail [b] (x :: r) = [b] ++ (x ++ Lib.joinTail [b] r) := by simp [Lib.joinTail]
      rw [e, ih']
      have : l = l.take i ++ (b :: l.drop (i + 1)) := by
        rw [← hb, ← List.drop_eq_getElem_cons hlt, List.take_append_drop]
      simpa using this.symm
theorem spl_free (b : UInt8) (l : List UInt8) : ∀ x ∈ spl b l, b ∉ x := by
  refine spl_ind b (fun l => ∀ x ∈ spl b l, b ∉ x) (fun l h => ?_) (fun l i h ih => ?_) l
  · show ∀ x ∈ spl b l, b ∉ x
    rw [spl_miss b l (index_no b l h)]
    intro x hx hm
    simp at hx
    subst hx
    obtain ⟨k, hk⟩ := List.mem_iff_getElem?.1 hm
    exact h k hk
  · show ∀ x ∈ spl b l, b ∉ x
    rw [spl_hit b l i h]
    intro x hx
    rw [List.mem_cons] at hx
    rcases hx with rfl | hx
    · intro hm
      obtain ⟨k, hk⟩ := List.mem_iff_getElem?.1 hm
      have hlt : k < i := by
        have := (List.getElem?_eq_some_iff.1 hk).1
        rw [List.length_take] at this; omega
      rw [List.getElem?_take, if_pos hlt] at hk
      exact (Lib.indexByte_some h).2 k hlt hk
    · exact ih x hx
theorem spl_len (b : UInt8) (l : List UInt8) : (spl b l).length ≤ l.length + 1 := by
  refine spl_ind b (fun l => (spl b l).length ≤ l.length + 1) (fun l h => ?_) (fun l i h ih => ?_) l
  · show (spl b l).length ≤ l.length + 1
    rw [spl_miss b l (index_no b l h)]; simp
  · show (spl b l).length ≤ l.length + 1
    have ih' : (spl b (l.drop (i + 1))).length ≤ (l.drop (i + 1)).length + 1 := ih
    have hlt := (List.getElem?_eq_some_iff.1 (Lib.indexByte_some h).1).1
    rw [spl_hit b l i h, List.length_cons]
    rw [List.length_drop] at ih'
    omega
theorem spl_size (b : UInt8) (l : List UInt8) : ∀ x ∈ spl b l, x.length ≤ l.length := by
  refine spl_ind b (fun l => ∀ x ∈ spl b l, x.length ≤ l.length) (fun l h => ?_) (fun l i h ih => ?_) l
  · show ∀ x ∈ spl b l, x.length ≤ l.length
    rw [spl_miss b l (index_no b l h)]
    intro x hx
    simp at hx
    subst hx
    exact Nat.le_refl _
  · show ∀ x ∈ spl b l, x.length ≤ l.length
    rw [spl_hit b l i h]
    intro x hx
    rw [List.mem_cons] at hx
    rcases hx with rfl | hx
    · rw [List.length_take]; omega
    · have := ih x hx
      rw [List.length_drop] at this
      omega
def spS (b : UInt8) (s : ByteArray) : List ByteArray := (spl b s.data.toList).map fun l => ByteArray.mk l.toArray
theorem spS_len (b : UInt8) (s : ByteArray) : (spS b s).length ≤ s.size + 1 := by
  unfold spS; rw [List.length_map]; simpa using spl_len b s.data.toList
theorem spS_data (b : UInt8) (s : ByteArray) : (spS b s).map (·.data.toList) = spl b s.data.toList := by
  unfold spS; rw [List.map_map]
  refine (List.map_congr_left fun x _ => ?_).trans (List.map_id _)
  rfl
theorem ba_ext {x y : ByteArray} (h : x.data.toList = y.data.toList) : x = y := by
  obtain ⟨⟨a⟩⟩ := x
  obtain ⟨⟨c⟩⟩ := y
  simp at h
  rw [h]
theorem map_data_inj : ∀ {xs ys : List ByteArray}, xs.map (·.data.toList) = ys.map (·.data.toList) → xs = ys
  | [], [], _ => rfl
  | [], _ :: _, h => by simp at h
  | _ :: _, [], h => by simp at h
  | x :: xs, y :: ys, h => by
    simp only [List.map_cons, List.cons.injEq] at h
    rw [ba_ext h.1, map_data_inj h.2]
theorem splitB_is (b : UInt8) (s : ByteArray) : Lib.splitB ⟨#[b]⟩ 0 (Lib.countB s ⟨#[b]⟩) s = spS b s := by
  refine map_data_inj ?_
  rw [Lib.splitB_data, spS_data]
  rfl

end Go.Proofs.YthgjghgkjhkbbaaGreatDoor
