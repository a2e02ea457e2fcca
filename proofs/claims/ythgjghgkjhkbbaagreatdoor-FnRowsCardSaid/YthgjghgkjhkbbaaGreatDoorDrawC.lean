/-
  Contracts of the draws of a cell and of a spoilt text. Condition: at most a million draws.
-/
import Derived.Test.YthgjghgkjhkbbaaGreatDoorCurM
import Derived.Test.YthgjghgkjhkbbaaGreatDoorDigit
import Derived.Lib.Hide
import Derived.Deep.QuietTactic
import Derived.BigQuiet
import Derived.IntWalk
namespace Go.Proofs.YthgjghgkjhkbbaaGreatDoor
open Go.RowKit
set_option linter.unusedVariables false
set_option maxRecDepth 20000


theorem KB.of_below {g : Nat} {a b : World} (h : Below a.heap.size a b) : KB g a b := ⟨h.size, fun k hk _ => h.block k hk⟩
theorem three (j : Nat) (h : j < 3) : j = 0 ∨ j = 1 ∨ j = 2 := by omega
theorem sevenC (d : Nat) (hd : d < 7) : d = 0 ∨ d = 1 ∨ d = 2 ∨ d = 3 ∨ d = 4 ∨ d = 5 ∨ d = 6 := by omega
set_option maxHeartbeats 2000000 in
theorem cell_s (N M g : Nat) (w : World) (h : CurS N M w g) (hM : M ≤ 800000) :
    Calls Tryz.prog 81 #[.pointer (some ⟨g, 0, none⟩)] w fun e w' => ∃ x : Int, e = .returned (.int .i64 x) ∧ CurS N (M + 20) w' g ∧ Below N w w' ∧ KB g w w' := by
  have hg := curS_lt h
  have hNg : N ≤ g := by obtain ⟨_, _, _, _, _, _, _, _, _, hh⟩ := h; exact hh
  have HC := Lib.hid h
  clear h
  go_enter Tryz.func81, Tryz.ntmps81
  go_wp2_with fail
  refine (pick_s N M g 40 _ HC.out (by omega) (by omega)).mono ?_
  rintro e w1 ⟨r, rfl, p0, p1, p2, hc1, hb1, hk1⟩
  have hr := p1 (by omega)
  obtain ⟨n, rfl⟩ := Int.eq_ofNat_of_zero_le p0
  have hn : n < 40 := by omega
  have HC1 := Lib.hid hc1
  have HB1 := Lib.hid hb1
  have HK1 := Lib.hid hk1
  have hg1 := curS_lt hc1
  have hz1 := hk1.1
  clear hc1 hb1 hk1 p1 p2 hr p0
  by_cases h0 : n = 0
  · subst h0
    go_wp2_with fail
    refine (among_s N _ g w1.heap.size 3 (fun _ => True) _ (curS_keep HC1.out ((Below.refl _ _).alloc (Nat.le_refl _) _)) (by omega) (by omega) (by omega) (by omega) (fun j hj => ?_)).mono ?_
    · rcases three j hj with rfl | rfl | rfl <;> exact ⟨_, by simp; rfl, trivial⟩
    rintro e w2 ⟨y, rfl, hy, hc2, hb2, hk2⟩
    go_wp2
    go_ret
    exact ⟨y, rfl, curS_more hc2 (by omega), (HB1.out.alloc (by omega) _).trans hb2, (HK1.out.trans (KB.alloc w1 _)).trans hk2⟩
  · by_cases h3 : n ≤ 3
    · have hn3 : n = 1 ∨ n = 2 ∨ n = 3 := by omega
      clear h0 h3 hn
      rcases hn3 with rfl | rfl | rfl
      all_goals
        go_wp2_with fail
        refine (among_s N _ g w1.heap.size 3 (fun _ => True) _ (curS_keep HC1.out ((Below.refl _ _).alloc (Nat.le_refl _) _)) (by omega) (by omega) (by omega) (by omega) (fun j hj => ?_)).mono ?_
        · rcases three j hj with rfl | rfl | rfl <;> exact ⟨_, by simp; rfl, trivial⟩
        rintro e w2 ⟨y, rfl, hy, hc2, hb2, hk2⟩
        go_wp2
        go_ret
        exact ⟨y, rfl, curS_more hc2 (by omega), (HB1.out.alloc (by omega) _).trans hb2, (HK1.out.trans (KB.alloc w1 _)).trans hk2⟩
    · have e0 : ((n : Int) == 0) = false := by rw [beq_eq_false_iff_ne]; omega
      have e1 : ((n : Int) == 1) = false := by rw [beq_eq_false_iff_ne]; omega
      have e2 : ((n : Int) == 2) = false := by rw [beq_eq_false_iff_ne]; omega
      have e3 : ((n : Int) == 3) = false := by rw [beq_eq_false_iff_ne]; omega
      clear h0 h3
      go_wp2_with fail
      refine (one_s N _ g 3 _ HC1.out (by omega) (by omega)).mono ?_
      rintro e w2 ⟨r, rfl, hc2, hb2, hk2⟩
      have HC2 := Lib.hid hc2
      have HB2 : Hid (Below N w w2) := Lib.hid (HB1.out.trans hb2)
      have HK2 : Hid (KB g w w2) := Lib.hid (HK1.out.trans hk2)
      clear hc2 hb2 hk2
      cases r with
      | true =>
        go_wp2_with fail
        refine (pick_s N _ g 128 _ HC2.out (by omega) (by omega)).mono ?_
        rintro e w3 ⟨r, rfl, p0, p1, p2, hc3, hb3, hk3⟩
        go_wp2
        go_ret
        exact ⟨r, rfl, curS_more hc3 (by omega), HB2.out.trans hb3, HK2.out.trans hk3⟩
      | false =>
        go_wp2_with fail
        refine (pick_s N _ g 10 _ HC2.out (by omega) (by omega)).mono ?_
        rintro e w3 ⟨r, rfl, p0, p1, p2, hc3, hb3, hk3⟩
        have hr := p1 (by omega)
        obtain ⟨d, rfl⟩ := Int.eq_ofNat_of_zero_le p0
        have hd : d < 10 := by omega
        have HC3 := Lib.hid hc3
        have HB3 : Hid (Below N w w3) := Lib.hid (HB2.out.trans hb3)
        have HK3 : Hid (KB g w w3) := Lib.hid (HK2.out.trans hk3)
        have hz3 := curS_lt hc3
        clear hc3 hb3 hk3 p0 p1 p2 hr
        go_wp2_with fail
        refine (l2Digit_any d _ hd).mono ?_
        rintro e w4 ⟨rfl, hb4⟩
        have HC4 := Lib.hid (curS_keep HC3.out hb4)
        have HB4 := Lib.hid (HB3.out.trans (hb4.mono (by omega)))
        have HK4 := Lib.hid (HK3.out.trans (KB.of_below hb4))
        clear hb4
        generalize dig.getD d 0 = x
        go_wp2_with fail
        refine (one_s N _ g 5 _ HC4.out (by omega) (by omega)).mono ?_
        rintro e w5 ⟨r, rfl, hc5, hb5, hk5⟩
        have HC5 := Lib.hid hc5
        have HB5 : Hid (Below N w w5) := Lib.hid (HB4.out.trans hb5)
        have HK5 : Hid (KB g w w5) := Lib.hid (HK4.out.trans hk5)
        clear hc5 hb5 hk5
        cases r with
        | false =>
          go_wp2
          go_ret
          exact ⟨x, rfl, curS_more HC5.out (by omega), HB5.out, HK5.out⟩
        | true =>
          go_wp2_with fail
          refine (pick_s N _ g 7 _ HC5.out (by omega) (by omega)).mono ?_
          rintro e w6 ⟨r, rfl, p0, p1, p2, hc6, hb6, hk6⟩
          have hr := p1 (by omega)
          obtain ⟨k, rfl⟩ := Int.eq_ofNat_of_zero_le p0
          have hk : k < 7 := by omega
          have HC6 := Lib.hid hc6
          have HB6 : Hid (Below N w w6) := Lib.hid (HB5.out.trans hb6)
          have HK6 : Hid (KB g w w6) := Lib.hid (HK5.out.trans hk6)
          clear hc6 hb6 hk6 p0 p1 p2 hr
          rcases sevenC k hk with rfl | rfl | rfl | rfl | rfl | rfl | rfl
          all_goals
            go_wp2
            go_ret
            exact ⟨_, rfl, curS_more HC6.out (by omega), HB6.out, HK6.out⟩

set_option maxHeartbeats 2000000 in
theorem spoilt_s (N M g : Nat) (t x : ByteArray) (w : World) (h : CurS N M w g) (hM : M ≤ 800000) (ht : t.size ≤ 1000) (hx : 1 ≤ x.size) (hx2 : x.size ≤ 1000) :
    Calls Tryz.prog 59 #[.pointer (some ⟨g, 0, none⟩), .string t, .string x] w fun e w' => ∃ y : ByteArray, e = .returned (.string y) ∧ y.size ≤ t.size + 1 ∧ CurS N (M + 20) w' g ∧ Below N w w' ∧ KB g w w' := by
  have HC := Lib.hid h
  clear h
  by_cases hi : t.toList.isEmpty = true
  · have hxI : (1 : Int) ≤ (x.size : Int) := by omega
    have hsz : (x.extract 0 1).size ≤ t.size + 1 := by rw [ByteArray.size_extract]; omega
    go_enter Tryz.func59, Tryz.ntmps59
    go_wp2
    go_ret
    exact ⟨_, rfl, hsz, curS_more HC.out (by omega), Below.refl _ _, Nat.le_refl _, fun _ _ _ => rfl⟩
  · have hi' : t.toList.isEmpty = false := by simpa using hi
    have h1 : 1 ≤ t.size := by
      rcases Nat.eq_zero_or_pos t.size with h | h
      · obtain ⟨⟨l⟩⟩ := t
        cases l with
        | nil => exact (hi (by unfold ByteArray.toList; unfold ByteArray.toList.loop; rfl)).elim
        | cons _ _ => simp [ByteArray.size] at h
      · exact h
    clear hi
    go_enter Tryz.func59, Tryz.ntmps59
    go_wp2_with fail
    refine (pick_s N M g t.size _ HC.out (by omega) (by omega)).mono ?_
    rintro e w1 ⟨r, rfl, p0, p1, p2, hc1, hb1, hk1⟩
    have hr := p1 (by omega)
    obtain ⟨i, rfl⟩ := Int.eq_ofNat_of_zero_le p0
    have hiN : i < t.size := by omega
    have HC1 := Lib.hid hc1
    have HB1 := Lib.hid hb1
    have HK1 := Lib.hid hk1
    clear hc1 hb1 hk1 p1 p2
    go_wp2_with fail
    refine (pick_s N _ g x.size _ HC1.out (by omega) (by omega)).mono ?_
    rintro e w2 ⟨r, rfl, q0, q1, q2, hc2, hb2, hk2⟩
    have hr2 := q1 (by omega)
    obtain ⟨j, rfl⟩ := Int.eq_ofNat_of_zero_le q0
    have hjN : j < x.size := by omega
    have HC2 := Lib.hid hc2
    have HB2 : Hid (Below N w w2) := Lib.hid (HB1.out.trans hb2)
    have HK2 : Hid (KB g w w2) := Lib.hid (HK1.out.trans hk2)
    clear hc2 hb2 hk2 q1 q2
    have hj1 : (j : Int) ≤ (x.size : Int) := by omega
    have he : (x.extract j x.size).size = x.size - j := by rw [ByteArray.size_extract]; omega
    have hW : ((x.extract j x.size).extract 0 1).size = 1 := by rw [ByteArray.size_extract, he]; omega
    have he1 : (1 : Int) ≤ ((x.extract j x.size).size : Int) := by omega
    go_wp2_with fail
    refine (pick_s N _ g 3 _ HC2.out (by omega) (by omega)).mono ?_
    rintro e w3 ⟨r, rfl, s0, s1, s2, hc3, hb3, hk3⟩
    have hr3 := s1 (by omega)
    obtain ⟨k, rfl⟩ := Int.eq_ofNat_of_zero_le s0
    have hkN : k < 3 := by omega
    have HC3 := Lib.hid hc3
    have HB3 : Hid (Below N w w3) := Lib.hid (HB2.out.trans hb3)
    have HK3 : Hid (KB g w w3) := Lib.hid (HK2.out.trans hk3)
    clear hc3 hb3 hk3 s1 s2
    generalize (x.extract j x.size).extract 0 1 = W at hW ⊢
    have z0 : (t.extract 0 i).size = i := by rw [ByteArray.size_extract]; omega
    have z1 : (t.extract i t.size).size = t.size - i := by rw [ByteArray.size_extract]; omega
    have z2 : (t.extract (i + 1) t.size).size = t.size - (i + 1) := by rw [ByteArray.size_extract]; omega
    have z3 : (t.extract 0 i ++ W).size = i + 1 := by rw [ByteArray.size_append, z0, hW]
    have hf0 : (t.extract 0 i ++ W ++ t.extract i t.size).size ≤ t.size + 1 := by rw [ByteArray.size_append, z3, z1]; omega
    have hf1 : (t.extract 0 i ++ W ++ t.extract (i + 1) t.size).size ≤ t.size + 1 := by rw [ByteArray.size_append, z3, z2]; omega
    have hf2 : (t.extract 0 i ++ t.extract (i + 1) t.size).size ≤ t.size + 1 := by rw [ByteArray.size_append, z0, z2]; omega
    have HF0 := Lib.hid hf0
    have HF1 := Lib.hid hf1
    have HF2 := Lib.hid hf2
    have hii : (i : Int) < (t.size : Int) := by omega
    have hi2 : ((i : Int) + 1).toNat = i + 1 := by omega
    clear hf0 hf1 hf2 he he1 hr hr2 hr3 q0 p0 s0
    have hg3 := curS_lt HC3.out
    have hNg : N ≤ g := by obtain ⟨_, _, _, _, _, _, _, _, _, hh⟩ := HC3.out; exact hh
    have HQ : Hid (∀ q, Below w3.heap.size w3 (w3.drewN q)) := Lib.hid (fun q => ⟨rfl, rfl, rfl, Nat.le_refl _, fun _ _ => rfl⟩)
    have hwi : IntKind.i64.wrap ((i : Int) + 1) = (i : Int) + 1 := IntWalk.i64_in _ (by omega)
    rcases three k hkN with rfl | rfl | rfl
    · go_wp2
      go_quiet (fail)
      go_wp2
      go_ret
      exact ⟨_, rfl, HF0.out, curS_more (curS_keep HC3.out (HQ.out _)) (by omega), HB3.out.trans ((HQ.out _).mono (by omega)), HK3.out.trans (KB.of_below (HQ.out _))⟩
    · go_wp2
      go_quiet (fail)
      go_wp2
      go_ret
      exact ⟨_, rfl, HF1.out, curS_more (curS_keep HC3.out (HQ.out _)) (by omega), HB3.out.trans ((HQ.out _).mono (by omega)), HK3.out.trans (KB.of_below (HQ.out _))⟩
    · go_wp2
      go_quiet (fail)
      go_wp2
      go_ret
      exact ⟨_, rfl, HF2.out, curS_more (curS_keep HC3.out (HQ.out _)) (by omega), HB3.out.trans ((HQ.out _).mono (by omega)), HK3.out.trans (KB.of_below (HQ.out _))⟩

end Go.Proofs.YthgjghgkjhkbbaaGreatDoor
