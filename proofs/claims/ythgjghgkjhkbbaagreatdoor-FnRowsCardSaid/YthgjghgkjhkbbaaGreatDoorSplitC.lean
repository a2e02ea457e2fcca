/-
  Contracts: the parts of a text between bytes (the reference and the library). Condition: at most 2^20 bytes.
-/
import Derived.Test.YthgjghgkjhkbbaaGreatDoorSplitP
import Derived.Test.YthgjghgkjhkbbaaGreatDoorStr
import Derived.Test.YthgjghgkjhkbbaaGreatDoorOwn
import Derived.Test.YthgjghgkjhkbbaaGreatDoorShelf
namespace Go.Proofs.YthgjghgkjhkbbaaGreatDoor
open Go.RowKit
set_option linter.unusedVariables false
set_option maxRecDepth 20000


def sp (b : UInt8) (l : List UInt8) : List ByteArray := (spl b l).map fun x => ByteArray.mk x.toArray
theorem sp_is (b : UInt8) (s : ByteArray) : spS b s = sp b s.data.toList := rfl
theorem extract_is (s : ByteArray) (f i : Nat) : s.extract f i = ⟨((s.data.toList.drop f).take (i - f)).toArray⟩ := by
  refine ba_ext ?_
  rw [ByteArray.data_extract, Array.toList_extract]
theorem drop_at (l : List UInt8) (f j : Nat) : (l.drop f)[j]? = l[f + j]? := by rw [List.getElem?_drop]
theorem sp_cut (b : UInt8) (s : ByteArray) (f i : Nat) (hf : f ≤ i) (hi : i < s.size) (hb : s[i] = b) (h : ∀ j, f ≤ j → j < i → s.data.toList[j]? ≠ some b) :
    sp b (s.data.toList.drop f) = s.extract f i :: sp b (s.data.toList.drop (i + 1)) := by
  have hix : Lib.indexByte (s.data.toList.drop f) b = ((i - f : Nat) : Int) := by
    refine index_at b _ (i - f) ?_ fun j hj => ?_
    · rw [drop_at, show f + (i - f) = i by omega, ← hb]
      exact List.getElem?_eq_getElem (by simpa using hi)
    · rw [drop_at]; exact h (f + j) (by omega) (by omega)
  unfold sp
  rw [spl_hit b _ _ hix, List.map_cons, List.drop_drop, show f + (i - f + 1) = i + 1 by omega, extract_is]
theorem sp_end (b : UInt8) (s : ByteArray) (f : Nat) (h : ∀ j, f ≤ j → j < s.size → s.data.toList[j]? ≠ some b) :
    sp b (s.data.toList.drop f) = [s.extract f s.size] := by
  have hix : Lib.indexByte (s.data.toList.drop f) b = -1 := by
    refine index_no b _ fun j => ?_
    rw [drop_at]
    by_cases hj : f + j < s.size
    · exact h (f + j) (by omega) hj
    · rw [List.getElem?_eq_none (by simpa using hj)]; simp
  unfold sp
  rw [spl_miss b _ hix, List.map_cons, List.map_nil, extract_is, List.take_of_length_le (by rw [List.length_drop]; simp)]
theorem ones_str' (b : ByteArray) : ∀ u ∈ [Value.string b], u.oneCell' = true := by
  intro u hu; simp at hu; subst hu; rfl
theorem news_str' {w : World} {g : Nat} {b : ByteArray} (h : w.cell? ⟨g, 0, none⟩ = some (.string b)) : ∀ j u, [Value.string b][j]? = some u → w.cell? ((⟨g, 0, none⟩ : Addr).add j) = some u := by
  intro j u hj
  match j, hj with
  | 0, hj => simp at hj; subst hj; simpa [Addr.add] using h

set_option maxHeartbeats 4000000 in
theorem l1Split_any (s : ByteArray) (b : UInt8) (w : World) (hs : s.size ≤ 1048576) :
    Calls Tryz.prog 84 #[.string s, .int .u8 b.toNat] w fun e w' => ∃ u, e = .returned u ∧ OwnS w.heap.size w' u (spS b s) ∧ Below w.heap.size w w' := by
  obtain ⟨i0, hi, hz0, hz1, hz2⟩ := info_parts info_str
  have HE : Hid (OwnS w.heap.size (w.alloc (.cells #[] 9)) (.slice (some ⟨w.heap.size, 0, none⟩) 0 0) []) := Lib.hid (World.ownsRow_lit w #[] 0 (Nat.le_refl _) (Nat.zero_le _) rfl)
  go_enter Tryz.func84, Tryz.ntmps84
  go_wp2
  go_loopw [5, 6, 7] (fun uv fv iv wr => ∃ (i f : Nat) (P : List ByteArray), f ≤ i ∧ i ≤ s.size ∧ iv = .int .i64 i ∧ fv = .int .i64 f ∧ OwnS w.heap.size wr uv P ∧ P ++ sp b (s.data.toList.drop f) = spS b s ∧ (∀ j, f ≤ j → j < i → s.data.toList[j]? ≠ some b) ∧ P.length ≤ f ∧ Below w.heap.size w wr) (fun _ _ iv _ => s.size - (intOf iv).toNat)
  case atStart => exact ⟨0, 0, [], Nat.le_refl _, Nat.zero_le _, rfl, rfl, HE.out, rfl, fun j h1 h2 => absurd h2 (Nat.not_lt_zero _), Nat.le_refl _, (Below.refl _ _).alloc (Nat.le_refl _) _⟩
  case round =>
    obtain ⟨i, f, P, hfi, hin, rfl, rfl, ho, hP, hall, hpl, hb⟩ := hrel
    have HO := Lib.hid ho
    have HB := Lib.hid hb
    have HP := Lib.hid hP
    have HA := Lib.hid hall
    have hsz0 := hb.size
    clear hP hall hb
    by_cases hlt : i < s.size
    · obtain ⟨c, hc⟩ : ∃ c, s[i] = c := ⟨_, rfl⟩
      by_cases he : c = b
      · have hb1 : (((s[i].toNat : Nat) : Int) == ((b.toNat : Nat) : Int)) = true := by rw [hc, he]; simp
        have HC := Lib.hid (sp_cut b s f i hfi hlt (hc.trans he) HA.out)
        have hown : wr.ownsRow w.heap.size 9 1 u5 _ _ := ho
        clear ho hc he
        go_wp2_with ((at_builtin; refine wpList_append_own _ rfl _ _ 55 rfl w.heap.size 9 i0 (.string ⟨#[]⟩) 1 16 Tryz.underlying55 hi hz0 hz1 hz2 rfl (by decide) _ _ _ rfl (hown.alloc _) ⟨wr.heap.size, 0, none⟩ 1 1 [.string (s.extract f i)] rfl rfl (news_str' (by simp)) (ones_str' _) (by unfold maxLen; omega) (by omega) (by simp; omega) ?_))
        intro v' w3 hown' hgrow _
        have HO3 := Lib.hid (ownS_push hown')
        have HB3 : Hid (Below w.heap.size w w3) := Lib.hid ((HB.out.alloc hsz0 _).grown hgrow (by simp; omega) (fun k hk => (World.ownsRow.lt hown k hk).1))
        clear hown hown' hgrow
        go_wp2
        go_roundw
        case rel => exact ⟨i + 1, i + 1, _, by omega, by omega, by go_num, by go_num, HO3.out, by rw [List.append_assoc, ← HP.out, HC.out]; rfl, fun j h1 h2 => by omega, by simp; omega, HB3.out⟩
        case measure => simp [intOf]; omega
      · have hb1 : (((s[i].toNat : Nat) : Int) == ((b.toNat : Nat) : Int)) = false := by
          rw [hc, beq_eq_false_iff_ne]
          intro h
          exact he (UInt8.toNat_inj.1 (by omega))
        have HN : Hid (s.data.toList[i]? ≠ some b) := Lib.hid (by
          rw [List.getElem?_eq_getElem (by simpa using hlt)]
          intro h
          injection h with h
          exact he (hc.symm.trans h))
        clear ho hc he
        go_wp2
        go_roundw
        case rel => exact ⟨i + 1, f, P, by omega, by omega, by go_num, rfl, HO.out, HP.out, fun j h1 h2 => by by_cases e : j = i; (subst e; exact HN.out); exact HA.out j h1 (by omega), hpl, HB.out⟩
        case measure => simp [intOf]; omega
    · obtain rfl : i = s.size := by omega
      have HC := Lib.hid (sp_end b s f HA.out)
      have hown : wr.ownsRow w.heap.size 9 1 u5 _ _ := ho
      clear ho
      go_wp2_with ((at_builtin; refine wpList_append_own _ rfl _ _ 55 rfl w.heap.size 9 i0 (.string ⟨#[]⟩) 1 16 Tryz.underlying55 hi hz0 hz1 hz2 rfl (by decide) _ _ _ rfl (hown.alloc _) ⟨wr.heap.size, 0, none⟩ 1 1 [.string (s.extract f s.size)] rfl rfl (news_str' (by simp)) (ones_str' _) (by unfold maxLen; omega) (by omega) (by simp; omega) ?_))
      intro v' w3 hown' hgrow _
      have HO3 := Lib.hid (ownS_push hown')
      have HB3 : Hid (Below w.heap.size w w3) := Lib.hid ((HB.out.alloc hsz0 _).grown hgrow (by simp; omega) (fun k hk => (World.ownsRow.lt hown k hk).1))
      clear hown hown' hgrow
      go_wp2
      go_ret
      exact ⟨_, rfl, by rw [← HP.out, HC.out]; exact HO3.out, HB3.out⟩

theorem split_any (s : ByteArray) (b : UInt8) (m : Int) (w : World) (hs : s.size ≤ 1048576) (hm : w.cell? ⟨0, 0, none⟩ = some (.int .i64 m)) :
    Calls Tryz.prog 60 #[.string s, .string ⟨#[b]⟩] w fun e w' => ∃ u, e = .returned u ∧ OwnS w.heap.size w' u (spS b s) ∧ Below w.heap.size w w' := by
  refine (Tryz.strings_Split s ⟨#[b]⟩ m w (by omega) hm (Nat.le_refl 1)).mono ?_
  rintro e w' ⟨rfl, rfl⟩
  have hl : (spS b s).length = Lib.countB s ⟨#[b]⟩ + 1 := by rw [← splitB_is, Lib.splitB_all ⟨#[b]⟩ (Nat.le_refl 1) _ _ _ rfl]
  rw [splitB_is, ← hl]
  refine ⟨_, rfl, ?_, (Below.refl _ _).alloc (Nat.le_refl _) _⟩
  unfold OwnS
  have := World.ownsRow_lit (base := w.heap.size) (e := 9) (size := 1) w ((spS b s).map Value.string).toArray (spS b s).length (Nat.le_refl _) (by have := spS_len b s; unfold maxLen; omega) (by simp)
  simpa using this

end Go.Proofs.YthgjghgkjhkbbaaGreatDoor
