/-
  The law FnExactRowText returns true. Condition: none but that the argument is a slice that came in.
-/
import Derived.Test.YthgjghgkjhkbbaaGreatDoorTextB
import Derived.Test.YthgjghgkjhkbbaaGreatDoorIsRow
namespace Go.Proofs.YthgjghgkjhkbbaaGreatDoor
open Go.RowKit
set_option linter.unusedVariables false
set_option maxRecDepth 20000


def txI (xs : List Int) : ByteArray × Bool := if isRow xs then (⟨(txt xs).toArray⟩, true) else (⟨#[]⟩, false)
theorem txI_len (xs : List Int) : (txI xs).1.size ≤ 1000 := by
  unfold txI
  split
  · next h => have := isRow_len xs h; have := txt_len xs; simp [ByteArray.size]; omega
  · simp [ByteArray.size]

set_option maxHeartbeats 1000000 in
theorem specRowText_any {A : Nat} (v : Value) (xs : List Int) (w : World) (hv : Own A w v xs) (hx : xs.length ≤ 1073741824) :
    Calls Tryz.prog 27 #[v] w fun e w' => e = .returned (.tuple #[.string (txI xs).1, .bool (txI xs).2]) ∧ Below w.heap.size w w' := by
  have H1 := Lib.hid (l2Row_any v xs w hv hx)
  by_cases hr : isRow xs = true
  · have e : txI xs = (⟨(txt xs).toArray⟩, true) := if_pos hr
    have H2 := Lib.hid (fun w (h : Own A w v xs) => l2Text_any v xs w h hr)
    rw [e]
    rw [hr] at H1
    have HV := Lib.hid hv
    obtain ⟨a0, c0, rfl⟩ := own_shape hv
    clear e hr hv
    go_enter Tryz.func27, Tryz.ntmps27
    go_wp2_with (first | (go_at_call 39; refine H1.out.mono ?_; rintro e w1 ⟨rfl, hb1⟩) | (go_at_call 57; refine (H2.out _ (own_keep HV.out hb1)).mono ?_; rintro e w2 ⟨rfl, rfl⟩))
    go_ret2
    exact ⟨rfl, hb1⟩
  · have hr' : isRow xs = false := by simpa using hr
    have e : txI xs = (⟨#[]⟩, false) := if_neg hr
    rw [e]
    rw [hr'] at H1
    clear hv e hr hr'
    go_enter Tryz.func27, Tryz.ntmps27
    go_wp2_with ((go_at_call 39; refine H1.out.mono ?_; rintro e w1 ⟨rfl, hb1⟩))
    go_ret2
    exact ⟨rfl, hb1⟩

set_option maxHeartbeats 1000000 in
theorem implRowText_any {A : Nat} (v : Value) (xs : List Int) (w : World) (hv : Own A w v xs) (hx : xs.length ≤ 1073741824) :
    Calls Tryz.prog 26 #[v] w fun e w' => e = .returned (.tuple #[.string (txI xs).1, .bool (txI xs).2]) ∧ Below w.heap.size w w' := by
  have H1 := Lib.hid (implIsRow_any v xs w hv hx)
  by_cases hr : isRow xs = true
  · have e : txI xs = (⟨(txt xs).toArray⟩, true) := if_pos hr
    have H2 := Lib.hid (fun w (h : Own A w v xs) => rowText_any v xs w h hr)
    rw [e]
    rw [hr] at H1
    have HV := Lib.hid hv
    obtain ⟨a0, c0, rfl⟩ := own_shape hv
    clear e hr hv
    go_enter Tryz.func26, Tryz.ntmps26
    go_wp2_with (first | (go_at_call 12; refine H1.out.mono ?_; rintro e w1 ⟨rfl, hb1⟩) | (go_at_call 56; refine (H2.out _ (own_keep HV.out hb1)).mono ?_; rintro e w2 ⟨rfl, hb2⟩))
    go_ret2
    exact ⟨rfl, bt hb1 hb2⟩
  · have hr' : isRow xs = false := by simpa using hr
    have e : txI xs = (⟨#[]⟩, false) := if_neg hr
    rw [e]
    rw [hr'] at H1
    clear hv e hr hr'
    go_enter Tryz.func26, Tryz.ntmps26
    go_wp2_with ((go_at_call 12; refine H1.out.mono ?_; rintro e w1 ⟨rfl, hb1⟩))
    go_ret2
    exact ⟨rfl, hb1⟩

end Go.Proofs.YthgjghgkjhkbbaaGreatDoor
