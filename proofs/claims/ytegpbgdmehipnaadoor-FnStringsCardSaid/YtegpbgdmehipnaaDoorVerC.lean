/-
  Contracts: the text whose checksum is appended (the reference and the program). Condition: at most 2^20 bytes; the table of the powers of ten lies as the program lays it.
-/
import Derived.Test.YtegpbgdmehipnaaDoorSealC
namespace Go.Proofs.YtegpbgdmehipnaaDoor
open Go.RowKit
set_option linter.unusedVariables false


theorem spS_first (s : ByteArray) : (spS 35 s)[0]? = some ⟨(first s.data.toList).toArray⟩ := by
  unfold spS first
  have h := spl_ne 35 s.data.toList
  cases hs : spl 35 s.data.toList with
  | nil => exact absurd hs h
  | cons x r => rfl
theorem first_len (l : List UInt8) : (first l).length ≤ l.length := by
  unfold first
  cases hs : spl 35 l with
  | nil => simp
  | cons x r => exact spl_size 35 l x (by rw [hs]; simp)
set_option maxHeartbeats 2000000 in
theorem specVerify_any (s : ByteArray) (w : World) (hs : s.size ≤ 1048576) :
    Calls Tryd.prog 21 #[.string s] w fun e w' => e = .returned (.tuple #[.string ⟨(vfI s.data.toList).1.toArray⟩, .bool (vfI s.data.toList).2]) ∧ Below w.heap.size w w' := by
  have hl := sz_list s
  by_cases h4 : s.size ≤ 4000
  · have HSP : Hid (∀ w, Calls Tryd.prog 41 #[.string s, .int .u8 35] w fun e w' => ∃ u, e = .returned u ∧ OwnS w.heap.size w' u (spS 35 s) ∧ Below w.heap.size w w') := Lib.hid (fun w => l1Split_any s 35 w hs)
    have hfl := first_len s.data.toList
    have HSE := Lib.hid (fun w => l1Seal_any ⟨(first s.data.toList).toArray⟩ w (by simp only [ByteArray.size, List.size_toArray]; omega))
    rw [show (⟨(first s.data.toList).toArray⟩ : ByteArray).data.toList = first s.data.toList from rfl] at HSE
    have H0 := Lib.hid (spS_first s)
    have HY := Lib.hid (vfI_yes s.data.toList (by omega))
    have HN := Lib.hid (vfI_ne s.data.toList)
    have hsn := spS_len 35 s
    generalize hvi : vfI s.data.toList = r at HY HN ⊢
    generalize first s.data.toList = t at HSE H0 HY HN
    generalize slg t = z at HSE HY HN
    clear hvi hfl
    go_enter Tryd.func21, Tryd.ntmps21
    go_wp2_with fail
    refine (HSP.out _).mono ?_
    rintro e w1 ⟨u1, rfl, ho1, hb1⟩
    rcases ownS_cases ho1 with ⟨_, he⟩ | ⟨g, cap, rfl, hg1, hg2, hg3, hg4, hgc, hgf⟩
    · have := H0.out; rw [he] at this; cases this
    · have hc0 : w1.cell? ⟨g, 0, none⟩ = some (.string ⟨t.toArray⟩) := hgc 0 _ H0.out
      have hn0 : 0 < (spS 35 s).length := (List.getElem?_eq_some_iff.1 H0.out).1
      generalize (spS 35 s).length = n at hn0 hsn ⊢
      clear hgc hgf ho1 hg1 hg3 hg4
      by_cases he : z = s.data.toList
      · have HR := Lib.hid (HY.out he)
        have hb3 : (z == s.toList) = true := by rw [ByteArray.toList_eq]; simp [he]
        clear he hl
        go_wp2_with ((go_at_call 45; refine (HSE.out _).mono ?_; rintro e w2 ⟨rfl, hb2⟩))
        go_ret2
        rw [HR.out]
        exact ⟨rfl, bt hb1 hb2⟩
      · have HR := Lib.hid (HN.out he)
        have hb3 : (z == s.toList) = false := by rw [ByteArray.toList_eq]; simpa using he
        clear he hl
        go_wp2_with ((go_at_call 45; refine (HSE.out _).mono ?_; rintro e w2 ⟨rfl, hb2⟩))
        go_ret2
        rw [HR.out]
        exact ⟨rfl, bt hb1 hb2⟩
  · have HR := Lib.hid (vfI_long s.data.toList (by omega))
    rw [HR.out]
    clear hl
    go_enter Tryd.func21, Tryd.ntmps21
    go_wp2
    go_ret2
    exact ⟨rfl, Below.refl _ _⟩

theorem bang_at (s : ByteArray) (i : Nat) (h : i < s.size) : s.data.toList[i]? = some (s.data[i]!) := by
  have h2 : i < s.data.size := h
  rw [Array.getElem?_toList, getElem!_pos s.data i h2]
  exact Array.getElem?_eq_getElem h2
theorem last_split (s : ByteArray) (i : Nat) (hi : i < s.size) (hb : ((s.data[i]!).toNat : Int) = 35) (h : ∀ j, i < j → j < s.size → ((s.data[j]!).toNat : Int) ≠ 35) :
    s.data.toList = s.data.toList.take i ++ 35 :: s.data.toList.drop (i + 1) ∧ (35 : UInt8) ∉ s.data.toList.drop (i + 1) := by
  have hl := sz_list s
  have hlt : i < s.data.toList.length := by omega
  have h1 : s.data.toList[i] = 35 := by
    have h2 := bang_at s i hi
    rw [List.getElem?_eq_getElem hlt] at h2
    injection h2 with h2
    rw [h2]
    exact UInt8.toNat_inj.1 (by have : (35 : UInt8).toNat = 35 := rfl; omega)
  refine ⟨?_, ?_⟩
  · rw [← h1, ← List.drop_eq_getElem_cons hlt, List.take_append_drop]
  · intro hm
    obtain ⟨k, hk⟩ := List.mem_iff_getElem?.1 hm
    rw [List.getElem?_drop] at hk
    have hk2 := (List.getElem?_eq_some_iff.1 hk).1
    have h3 := bang_at s (i + 1 + k) (by omega)
    rw [hk] at h3
    injection h3 with h3
    have h4 := h (i + 1 + k) (by omega) (by omega)
    rw [← h3] at h4
    exact h4 rfl
theorem last_none (s : ByteArray) (h : ∀ j, j < s.size → ((s.data[j]!).toNat : Int) ≠ 35) : (35 : UInt8) ∉ s.data.toList := by
  intro hm
  obtain ⟨k, hk⟩ := List.mem_iff_getElem?.1 hm
  have hk2 := (List.getElem?_eq_some_iff.1 hk).1
  rw [sz_list] at hk2
  have h3 := bang_at s k hk2
  rw [hk] at h3
  injection h3 with h3
  have h4 := h k hk2
  rw [← h3] at h4
  exact h4 rfl

set_option maxHeartbeats 2000000 in
theorem implVerify_any (s : ByteArray) (w : World) (hs : s.size ≤ 1048576) (hF : Facts w) :
    Calls Tryd.prog 22 #[.string s] w fun e w' => e = .returned (.tuple #[.string ⟨(vfI s.data.toList).1.toArray⟩, .bool (vfI s.data.toList).2]) ∧ Below w.heap.size w w' := by
  have HL : Hid (∀ w, Calls Tryd.prog 48 #[.string s, .string ⟨#[35]⟩] w fun e w' => e = .returned (.int .i64 (Lib.lastIndexByte s 35)) ∧ w' = w) := Lib.hid (fun w => Tryd.strings_LastIndex_one s ⟨#[35]⟩ rfl (by omega) w)
  rcases Lib.lastIndexByte_spec s 35 with ⟨he, hall⟩ | ⟨i, hi, he, hb, hall⟩
  · have HR := Lib.hid (vfI_none s.data.toList (last_none s hall))
    rw [HR.out]
    rw [he] at HL
    clear hall he hF
    go_enter Tryd.func22, Tryd.ntmps22
    go_wp2_with ((go_at_call 48; refine (HL.out _).mono ?_; rintro e w1 ⟨rfl, rfl⟩))
    go_ret2
    exact ⟨rfl, Below.refl _ _⟩
  · obtain ⟨h1, h2⟩ := last_split s i hi hb hall
    have hl := sz_list s
    have HV := Lib.hid (vfI_ahead s.data.toList _ _ h1 h2)
    have hex : s.extract 0 i = ⟨(s.data.toList.take i).toArray⟩ := by rw [extract_is, List.drop_zero, Nat.sub_zero]
    have HEX := Lib.hid hex
    have HA := Lib.hid (implAppend_any (s.extract 0 i) w (by rw [ByteArray.size_extract]; omega) hF)
    rw [show (s.extract 0 i).data.toList = s.data.toList.take i by rw [hex]] at HA
    have hal := asI_len (s.data.toList.take i)
    rw [he] at HL
    generalize vfI s.data.toList = r at HV ⊢
    generalize s.data.toList.take i = t at HV HEX HA hal
    obtain ⟨a1, ha1⟩ : ∃ a, (asI t).1 = a := ⟨_, rfl⟩
    obtain ⟨a2, ha2⟩ : ∃ a, (asI t).2 = a := ⟨_, rfl⟩
    rw [ha1, ha2] at HV HA
    rw [ha1] at hal
    have hi0 : (0 : Int) ≤ (i : Int) := by omega
    have hi1 : (i : Int) ≤ (s.size : Int) := by omega
    clear h1 h2 hb hall he hF ha1 ha2 hex
    cases a2 with
    | false =>
      have HR : Hid (r = ([], false)) := Lib.hid (by rw [HV.out, if_neg (by simp)])
      clear hl
      go_enter Tryd.func22, Tryd.ntmps22
      go_wp2_with (first | (go_at_call 48; refine (HL.out _).mono ?_; rintro e w1 ⟨rfl, rfl⟩) | (go_at_call 20; refine HA.out.mono ?_; rintro e w2 ⟨rfl, hb2⟩))
      go_ret2
      rw [HR.out]
      exact ⟨rfl, hb2⟩
    | true =>
      by_cases hq : a1 = s.data.toList
      · have HR : Hid (r = (t, true)) := Lib.hid (by rw [HV.out, if_pos ⟨rfl, hq⟩])
        have hb3 : (a1 == s.toList) = true := by rw [ByteArray.toList_eq]; simp [hq]
        clear hq hl
        go_enter Tryd.func22, Tryd.ntmps22
        go_wp2_with (first | (go_at_call 48; refine (HL.out _).mono ?_; rintro e w1 ⟨rfl, rfl⟩) | (go_at_call 20; refine HA.out.mono ?_; rintro e w2 ⟨rfl, hb2⟩))
        go_ret2
        rw [HR.out]
        exact ⟨(by rw [HEX.out] <;> first | done | rfl), hb2⟩
      · have HR : Hid (r = ([], false)) := Lib.hid (by rw [HV.out, if_neg (by rintro ⟨_, h⟩; exact hq h)])
        have hb3 : (a1 == s.toList) = false := by rw [ByteArray.toList_eq]; simpa using hq
        clear hq hl
        go_enter Tryd.func22, Tryd.ntmps22
        go_wp2_with (first | (go_at_call 48; refine (HL.out _).mono ?_; rintro e w1 ⟨rfl, rfl⟩) | (go_at_call 20; refine HA.out.mono ?_; rintro e w2 ⟨rfl, hb2⟩))
        go_ret2
        rw [HR.out]
        exact ⟨rfl, hb2⟩

end Go.Proofs.YtegpbgdmehipnaaDoor
