/-
  The law FnExactRowText returns true. Condition: none but that the argument is a slice that came in.
-/
import Derived.Test.YthgjghgkjhkbbaaTextB
import Derived.Test.YthgjghgkjhkbbaaIsRow
namespace Go.Proofs.Ythgjghgkjhkbbaa
open Go.RowKit
set_option linter.unusedVariables false


def txI (xs : List Int) : ByteArray × Bool := if isRow xs then (⟨(txt xs).toArray⟩, true) else (⟨#[]⟩, false)
theorem txI_len (xs : List Int) : (txI xs).1.size ≤ 1000 := by
  unfold txI
  split
  · next h => have := isRow_len xs h; have := txt_len xs; simp [ByteArray.size]; omega
  · simp [ByteArray.size]

set_option maxHeartbeats 1000000 in
theorem specRowText_any {A : Nat} (v : Value) (xs : List Int) (w : World) (hv : Own A w v xs) (hx : xs.length ≤ 1073741824) :
    Calls Try.prog 24 #[v] w fun e w' => e = .returned (.tuple #[.string (txI xs).1, .bool (txI xs).2]) ∧ Below w.heap.size w w' := by
  have H1 := Lib.hid (l2Row_any v xs w hv hx)
  by_cases hr : isRow xs = true
  · have e : txI xs = (⟨(txt xs).toArray⟩, true) := if_pos hr
    have H2 := Lib.hid (fun w (h : Own A w v xs) => l2Text_any v xs w h hr)
    rw [e]
    rw [hr] at H1
    have HV := Lib.hid hv
    obtain ⟨a0, c0, rfl⟩ := own_shape hv
    clear e hr hv
    go_enter Try.func24, Try.ntmps24
    go_wp2_with (first | (go_at_call 48; refine H1.out.mono ?_; rintro e w1 ⟨rfl, hb1⟩) | (go_at_call 59; refine (H2.out _ (own_keep HV.out hb1)).mono ?_; rintro e w2 ⟨rfl, rfl⟩))
    go_ret2
    exact ⟨rfl, hb1⟩
  · have hr' : isRow xs = false := by simpa using hr
    have e : txI xs = (⟨#[]⟩, false) := if_neg hr
    rw [e]
    rw [hr'] at H1
    clear hv e hr hr'
    go_enter Try.func24, Try.ntmps24
    go_wp2_with ((go_at_call 48; refine H1.out.mono ?_; rintro e w1 ⟨rfl, hb1⟩))
    go_ret2
    exact ⟨rfl, hb1⟩

set_option maxHeartbeats 1000000 in
theorem implRowText_any {A : Nat} (v : Value) (xs : List Int) (w : World) (hv : Own A w v xs) (hx : xs.length ≤ 1073741824) :
    Calls Try.prog 25 #[v] w fun e w' => e = .returned (.tuple #[.string (txI xs).1, .bool (txI xs).2]) ∧ Below w.heap.size w w' := by
  have H1 := Lib.hid (implIsRow_any v xs w hv hx)
  by_cases hr : isRow xs = true
  · have e : txI xs = (⟨(txt xs).toArray⟩, true) := if_pos hr
    have H2 := Lib.hid (fun w (h : Own A w v xs) => rowText_any v xs w h hr)
    rw [e]
    rw [hr] at H1
    have HV := Lib.hid hv
    obtain ⟨a0, c0, rfl⟩ := own_shape hv
    clear e hr hv
    go_enter Try.func25, Try.ntmps25
    go_wp2_with (first | (go_at_call 12; refine H1.out.mono ?_; rintro e w1 ⟨rfl, hb1⟩) | (go_at_call 60; refine (H2.out _ (own_keep HV.out hb1)).mono ?_; rintro e w2 ⟨rfl, hb2⟩))
    go_ret2
    exact ⟨rfl, bt hb1 hb2⟩
  · have hr' : isRow xs = false := by simpa using hr
    have e : txI xs = (⟨#[]⟩, false) := if_neg hr
    rw [e]
    rw [hr'] at H1
    clear hv e hr hr'
    go_enter Try.func25, Try.ntmps25
    go_wp2_with ((go_at_call 12; refine H1.out.mono ?_; rintro e w1 ⟨rfl, hb1⟩))
    go_ret2
    exact ⟨rfl, hb1⟩

set_option maxHeartbeats 2000000 in
theorem walkFnExactRowText (a : Option Addr) (len cap : Nat) (zs : List Int) (w : World) (ha : InRow .i64 w a len cap zs) :
    Calls Try.prog 8 #[.slice a len cap] w fun e w' => e = .returned (.bool true) ∧ Below w.heap.size w w' := by
  have hlm : len ≤ 9223372036854775807 := by
    rcases ha with ⟨rfl, rfl, rfl, rfl⟩ | ⟨x, rfl, hlc, hm, _⟩
    · omega
    · unfold maxLen at hm; omega
  have hzl : (zs.take len).length ≤ len := by rw [List.length_take]; omega
  by_cases hl : len ≤ 1048576
  · have hz2 : (zs.take len).length ≤ 1073741824 := by omega
    have HT := Lib.hid (fun w hw => toIntS_any a len cap zs w _ ha hl hw)
    generalize zs.take len = xs at HT hz2 hzl
    have H1 := Lib.hid (fun (A : Nat) v w (h : Own A w v xs) => specRowText_any v xs w h hz2)
    have H2 := Lib.hid (fun (A : Nat) v w (h : Own A w v xs) => implRowText_any v xs w h hz2)
    have hsz := txI_len xs
    generalize (txI xs).1 = r1 at H1 H2 hsz
    generalize (txI xs).2 = r2 at H1 H2
    have HZ := Lib.hid hz2
    clear ha hzl hz2
    go_enter Try.func8, Try.ntmps8
    go_wp2_with fail
    refine (HT.out _ (Below.refl _ _)).mono ?_
    rintro e w1 ⟨v1, rfl, ho1, hb1⟩
    go_wp2_with fail
    refine (H1.out _ _ _ ho1).mono ?_
    rintro e w2 ⟨rfl, hb2⟩
    go_wp2_with fail
    refine (HT.out _ (bt hb1 hb2)).mono ?_
    rintro e w3 ⟨x0, rfl, ho3, hb3⟩
    go_wp2_with fail
    refine (H2.out _ _ _ ho3).mono ?_
    rintro e w4 ⟨rfl, hb4⟩
    go_wp2_with fail
    refine (HT.out _ (bt (bt hb1 hb2) (bt hb3 hb4))).mono ?_
    rintro e w5 ⟨x1, rfl, ho5, hb5⟩
    go_wp2_with fail
    refine (eqIntS_any _ _ _ _ _ (own_keep (own_keep ho3 hb4) hb5) ho5 HZ.out HZ.out).mono ?_
    rintro e w6 ⟨rfl, hb6⟩
    rw [decide_eq_true rfl]
    go_wp2
    go_ret
    exact ⟨rfl, bt (bt (bt hb1 hb2) (bt hb3 hb4)) (bt hb5 hb6)⟩
  · go_enter Try.func8, Try.ntmps8
    go_wp2
    go_ret
    exact ⟨rfl, Below.refl _ _⟩

end Go.Proofs.Ythgjghgkjhkbbaa
