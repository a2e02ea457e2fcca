/-
  Contracts of the draws of a counter. Condition: at most a million draws.
-/
import Derived.Test.YtpijpelmebaalaaCurM
import Derived.Test.YtpijpelmebaalaaCtrC
import Derived.Test.YtpijpelmebaalaaCtrF
import Derived.Lib.Hide
namespace Go.Proofs.Ytpijpelmebaalaa
open Go.RowKit
set_option linter.unusedVariables false


def minI (a b : Int) : Int := if a < b then a else b
def maxI (a b : Int) : Int := if b < a then a else b
theorem minI_r (a b : Int) : minI a b ≤ b := by unfold minI; split <;> omega
theorem maxI_rng (z : Int) (h : z ≤ 99) : 0 ≤ maxI 0 z ∧ maxI 0 z ≤ 99 := by unfold maxI; split <;> omega
theorem l1Least_any (a b : Int) (w : World) :
    Calls Try.prog 91 #[.int .i64 a, .int .i64 b] w fun e w' => e = .returned (.int .i64 (minI a b)) ∧ w = w' := by
  unfold minI
  by_cases h : a < b
  · rw [if_pos h]
    go_enter Try.func91, Try.ntmps91
    go_wp2
    go_ret
    exact ⟨rfl, rfl⟩
  · rw [if_neg h]
    have hd : decide (a < b) = false := decide_eq_false h
    go_enter Try.func91, Try.ntmps91
    go_wp2
    go_ret
    exact ⟨rfl, rfl⟩
theorem l1Most_any (a b : Int) (w : World) :
    Calls Try.prog 92 #[.int .i64 a, .int .i64 b] w fun e w' => e = .returned (.int .i64 (maxI a b)) ∧ w = w' := by
  unfold maxI
  by_cases h : b < a
  · rw [if_pos h]
    go_enter Try.func92, Try.ntmps92
    go_wp2
    go_ret
    exact ⟨rfl, rfl⟩
  · rw [if_neg h]
    have hd : decide (b < a) = false := decide_eq_false h
    go_enter Try.func92, Try.ntmps92
    go_wp2
    go_ret
    exact ⟨rfl, rfl⟩
theorem KB.of_belowK {g : Nat} {a b : World} (h : Below a.heap.size a b) : KB g a b := ⟨h.size, fun k hk _ => h.block k hk⟩
theorem twelve (j : Nat) (h : j < 12) : j = 0 ∨ j = 1 ∨ j = 2 ∨ j = 3 ∨ j = 4 ∨ j = 5 ∨ j = 6 ∨ j = 7 ∨ j = 8 ∨ j = 9 ∨ j = 10 ∨ j = 11 := by omega
set_option maxHeartbeats 4000000 in
theorem counter_s (N M g : Nat) (w : World) (h : CurS N M w g) (hM : M ≤ 800000) :
    Calls Try.prog 78 #[.pointer (some ⟨g, 0, none⟩)] w fun e w' => ∃ n k : Int, e = .returned (.tuple #[.int .i64 n, .int .i64 k]) ∧ (-10 ≤ n ∧ n ≤ 1000000) ∧ 0 ≤ k ∧ k ≤ 7 ∧ CurS N (M + 20) w' g ∧ Below N w w' ∧ KB g w w' := by
  have hg := curS_lt h
  have hNg : N ≤ g := by obtain ⟨_, _, _, _, _, _, _, _, _, hh⟩ := h; exact hh
  have HC := Lib.hid h
  clear h
  go_enter Try.func78, Try.ntmps78
  go_wp2_with fail
  refine (among_s N _ g w.heap.size 12 (fun x => 0 ≤ x ∧ x ≤ 7) _ (curS_keep HC.out ((Below.refl _ _).alloc (Nat.le_refl _) _)) (by omega) (by omega) (by omega) (by omega) (fun j hj => ?_)).mono ?_
  · rcases twelve j hj with rfl | rfl | rfl | rfl | rfl | rfl | rfl | rfl | rfl | rfl | rfl | rfl <;> exact ⟨_, by simp; rfl, by omega, by omega⟩
  rintro e w1 ⟨k, rfl, hk07, hc1, hb1, hk1⟩
  obtain ⟨hk0, hk7⟩ := hk07
  have HC1 := Lib.hid hc1
  have HB1 : Hid (Below N w w1) := Lib.hid (((Below.refl N w).alloc (by omega) _).trans hb1)
  have HK1 : Hid (KB g w w1) := Lib.hid ((KB.alloc w _).trans hk1)
  clear hc1 hb1 hk1
  go_wp2_with fail
  refine (l1In_any k 1 6 _).mono ?_
  rintro e w2 ⟨rfl, rfl⟩
  by_cases hin : 1 ≤ k ∧ k ≤ 6
  · rw [show inB k 1 6 = true by unfold inB; rw [decide_eq_true hin.1, decide_eq_true hin.2]; rfl]
    obtain ⟨j, rfl⟩ := Int.eq_ofNat_of_zero_le hk0
    have hj1 : 1 ≤ j := by omega
    have hj6 : j ≤ 6 := by omega
    have HT := Lib.hid (fun w => l4Top_any j w hj6)
    have hp := pw_le j hj6
    generalize pw j = p at HT hp
    clear hin hk0 hk7
    go_wp2_with fail
    refine (pick_s N _ g 10 _ HC1.out (by omega) (by omega)).mono ?_
    rintro e w2 ⟨n, rfl, p0, p1, p2, hc, hb, hk⟩
    have hr2 := p1 (by omega)
    have hz2 := p0
    have HC2 := Lib.hid hc
    have HB2 := Lib.hid (HB1.out.trans hb)
    have HK2 := Lib.hid (HK1.out.trans hk)
    clear hc hb hk p0 p1 p2
    go_wp2_with fail
    refine (pick_s N _ g 5 _ HC2.out (by omega) (by omega)).mono ?_
    rintro e w3 ⟨m, rfl, p0, p1, p2, hc, hb, hk⟩
    have hr3 := p1 (by omega)
    have hz3 := p0
    have HC3 := Lib.hid hc
    have HB3 := Lib.hid (HB2.out.trans hb)
    have HK3 := Lib.hid (HK2.out.trans hk)
    clear hc hb hk p0 p1 p2
    obtain ⟨m, rfl⟩ := Int.eq_ofNat_of_zero_le hz3
    by_cases m0 : m = 0
    · subst m0
      go_wp2_with fail
      refine (HT.out _).mono ?_
      rintro e wt ⟨rfl, rfl⟩
      go_wp2_with fail
      refine (pick_s N _ g 3 _ HC3.out (by omega) (by omega)).mono ?_
      rintro e wz ⟨q, rfl, p0, p1, p2, hc, hb, hk⟩
      have hrz := p1 (by omega)
      have hzz := p0
      have HCz := Lib.hid hc
      have HBz := Lib.hid (HB3.out.trans hb)
      have HKz := Lib.hid (HK3.out.trans hk)
      clear hc hb hk p0 p1 p2
      go_wp2_with fail
      refine (one_s N _ g 24 _ HCz.out (by omega) (by omega)).mono ?_
      rintro e wy ⟨r, rfl, hcy, hby, hky⟩
      have HCy := Lib.hid hcy
      have HBy := Lib.hid (HBz.out.trans hby)
      have HKy := Lib.hid (HKz.out.trans hky)
      have hgy := curS_lt hcy
      clear hcy hby hky
      cases r with
      | false =>
        go_wp2
        go_ret2
        exact ⟨_, _, rfl, by omega, by omega, by omega, curS_more HCy.out (by omega), HBy.out, HKy.out⟩
      | true =>
        go_wp2_with fail
        refine (HT.out _).mono ?_
        rintro e wt ⟨rfl, rfl⟩
        go_wp2_with fail
        refine (among_s N _ g wy.heap.size 2 (fun x => -1 ≤ x ∧ x ≤ 1000000) _ (curS_keep HCy.out ((Below.refl _ _).alloc (Nat.le_refl _) _)) (by omega) (by omega) (by omega) (by omega) (fun j hj => ?_)).mono ?_
        · have : j = 0 ∨ j = 1 := by omega
          rcases this with rfl | rfl <;> exact ⟨_, by simp; rfl, by omega, by omega⟩
        rintro e wu ⟨x, rfl, hx, hcu, hbu, hku⟩
        go_wp2
        go_ret2
        exact ⟨_, _, rfl, by omega, by omega, by omega, curS_more hcu (by omega), (HBy.out.alloc (by omega) _).trans hbu, (HKy.out.trans (KB.alloc wy _)).trans hku⟩
    · by_cases m1 : m = 1
      · subst m1
        go_wp2_with fail
        refine (HT.out _).mono ?_
        rintro e wt ⟨rfl, rfl⟩
        go_wp2_with fail
        refine (l1Least_any p 60000 _).mono ?_
        rintro e wt ⟨rfl, rfl⟩
        have hmx : minI p 60000 ≤ 60000 := minI_r _ _
        generalize minI (p : Int) 60000 = z at hmx ⊢
        go_wp2_with fail
        refine (pick_s N _ g z _ HC3.out (by omega) (by omega)).mono ?_
        rintro e wz ⟨q, rfl, p0, p1, p2, hc, hb, hk⟩
        have HCz := Lib.hid hc
        have HBz := Lib.hid (HB3.out.trans hb)
        have HKz := Lib.hid (HK3.out.trans hk)
        have hzz := p0
        have hrz := p2
        clear hc hb hk p0 p1 p2
        go_wp2_with fail
        refine (one_s N _ g 24 _ HCz.out (by omega) (by omega)).mono ?_
        rintro e wy ⟨r, rfl, hcy, hby, hky⟩
        have HCy := Lib.hid hcy
        have HBy := Lib.hid (HBz.out.trans hby)
        have HKy := Lib.hid (HKz.out.trans hky)
        have hgy := curS_lt hcy
        clear hcy hby hky
        cases r with
        | false =>
          go_wp2
          go_ret2
          exact ⟨_, _, rfl, by omega, by omega, by omega, curS_more HCy.out (by omega), HBy.out, HKy.out⟩
        | true =>
          go_wp2_with fail
          refine (HT.out _).mono ?_
          rintro e wt ⟨rfl, rfl⟩
          go_wp2_with fail
          refine (among_s N _ g wy.heap.size 2 (fun x => -1 ≤ x ∧ x ≤ 1000000) _ (curS_keep HCy.out ((Below.refl _ _).alloc (Nat.le_refl _) _)) (by omega) (by omega) (by omega) (by omega) (fun j hj => ?_)).mono ?_
          · have : j = 0 ∨ j = 1 := by omega
            rcases this with rfl | rfl <;> exact ⟨_, by simp; rfl, by omega, by omega⟩
          rintro e wu ⟨x, rfl, hx, hcu, hbu, hku⟩
          go_wp2
          go_ret2
          exact ⟨_, _, rfl, by omega, by omega, by omega, curS_more hcu (by omega), (HBy.out.alloc (by omega) _).trans hbu, (HKy.out.trans (KB.alloc wy _)).trans hku⟩
      · by_cases m2 : m = 2
        · subst m2
          go_wp2_with fail
          refine (HT.out _).mono ?_
          rintro e wt ⟨rfl, rfl⟩
          go_wp2_with fail
          refine (pick_s N _ g 4 _ HC3.out (by omega) (by omega)).mono ?_
          rintro e wz ⟨q, rfl, p0, p1, p2, hc, hb, hk⟩
          have hrz := p1 (by omega)
          have hzz := p0
          have HCz := Lib.hid hc
          have HBz := Lib.hid (HB3.out.trans hb)
          have HKz := Lib.hid (HK3.out.trans hk)
          clear hc hb hk p0 p1 p2
          go_wp2_with fail
          refine (l1Least_any _ _ _).mono ?_
          rintro e wt ⟨rfl, rfl⟩
          have hmx : minI ((p : Int) - 1) (99 - q) ≤ 99 - q := minI_r _ _
          generalize minI ((p : Int) - 1) (99 - q) = z at hmx ⊢
          go_wp2_with fail
          refine (l1Most_any 0 z _).mono ?_
          rintro e wt ⟨rfl, rfl⟩
          have hm1 : 0 ≤ maxI 0 z ∧ maxI 0 z ≤ 99 := maxI_rng z (by omega)
          generalize maxI 0 z = y at hm1 ⊢
          clear hmx
          go_wp2_with fail
          refine (one_s N _ g 24 _ HCz.out (by omega) (by omega)).mono ?_
          rintro e wy ⟨r, rfl, hcy, hby, hky⟩
          have HCy := Lib.hid hcy
          have HBy := Lib.hid (HBz.out.trans hby)
          have HKy := Lib.hid (HKz.out.trans hky)
          have hgy := curS_lt hcy
          clear hcy hby hky
          cases r with
          | false =>
            go_wp2
            go_ret2
            exact ⟨_, _, rfl, by omega, by omega, by omega, curS_more HCy.out (by omega), HBy.out, HKy.out⟩
          | true =>
            go_wp2_with fail
            refine (HT.out _).mono ?_
            rintro e wt ⟨rfl, rfl⟩
            go_wp2_with fail
            refine (among_s N _ g wy.heap.size 2 (fun x => -1 ≤ x ∧ x ≤ 1000000) _ (curS_keep HCy.out ((Below.refl _ _).alloc (Nat.le_refl _) _)) (by omega) (by omega) (by omega) (by omega) (fun j hj => ?_)).mono ?_
            · have : j = 0 ∨ j = 1 := by omega
              rcases this with rfl | rfl <;> exact ⟨_, by simp; rfl, by omega, by omega⟩
            rintro e wu ⟨x, rfl, hx, hcu, hbu, hku⟩
            go_wp2
            go_ret2
            exact ⟨_, _, rfl, by omega, by omega, by omega, curS_more hcu (by omega), (HBy.out.alloc (by omega) _).trans hbu, (HKy.out.trans (KB.alloc wy _)).trans hku⟩
        · have n0 : ((m : Int) == 0) = false := by rw [beq_eq_false_iff_ne]; omega
          have n1 : ((m : Int) == 1) = false := by rw [beq_eq_false_iff_ne]; omega
          have n2 : ((m : Int) == 2) = false := by rw [beq_eq_false_iff_ne]; omega
          have HCz := HC3
          have HBz := HB3
          have HKz := HK3
          clear m0 m1 m2
          go_wp2_with fail
          refine (one_s N _ g 24 _ HCz.out (by omega) (by omega)).mono ?_
          rintro e wy ⟨r, rfl, hcy, hby, hky⟩
          have HCy := Lib.hid hcy
          have HBy := Lib.hid (HBz.out.trans hby)
          have HKy := Lib.hid (HKz.out.trans hky)
          have hgy := curS_lt hcy
          clear hcy hby hky
          cases r with
          | false =>
            go_wp2
            go_ret2
            exact ⟨_, _, rfl, by omega, by omega, by omega, curS_more HCy.out (by omega), HBy.out, HKy.out⟩
          | true =>
            go_wp2_with fail
            refine (HT.out _).mono ?_
            rintro e wt ⟨rfl, rfl⟩
            go_wp2_with fail
            refine (among_s N _ g wy.heap.size 2 (fun x => -1 ≤ x ∧ x ≤ 1000000) _ (curS_keep HCy.out ((Below.refl _ _).alloc (Nat.le_refl _) _)) (by omega) (by omega) (by omega) (by omega) (fun j hj => ?_)).mono ?_
            · have : j = 0 ∨ j = 1 := by omega
              rcases this with rfl | rfl <;> exact ⟨_, by simp; rfl, by omega, by omega⟩
            rintro e wu ⟨x, rfl, hx, hcu, hbu, hku⟩
            go_wp2
            go_ret2
            exact ⟨_, _, rfl, by omega, by omega, by omega, curS_more hcu (by omega), (HBy.out.alloc (by omega) _).trans hbu, (HKy.out.trans (KB.alloc wy _)).trans hku⟩
  · rw [show inB k 1 6 = false by unfold inB; rw [Bool.and_eq_false_iff]; by_cases h1 : 1 ≤ k; exact .inr (decide_eq_false (by omega)); exact .inl (decide_eq_false h1)]
    go_wp2_with fail
    refine (pick_s N _ g 10 _ HC1.out (by omega) (by omega)).mono ?_
    rintro e w3 ⟨r, rfl, p0, p1, p2, hc3, hb3, hk3⟩
    have hr := p1 (by omega)
    go_wp2
    go_ret2
    exact ⟨_, _, rfl, by omega, by omega, by omega, curS_more hc3 (by omega), HB1.out.trans hb3, HK1.out.trans hk3⟩

end Go.Proofs.Ytpijpelmebaalaa
