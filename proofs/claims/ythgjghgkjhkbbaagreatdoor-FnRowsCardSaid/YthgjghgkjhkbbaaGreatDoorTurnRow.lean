/-
  The law FnExactTurnRow returns true, whatever the list. No condition.
-/
import Derived.Test.YthgjghgkjhkbbaaGreatDoorBack
namespace Go.Proofs.YthgjghgkjhkbbaaGreatDoor
open Go.RowKit
set_option linter.unusedVariables false
set_option maxRecDepth 20000


def turnFromR (xs : List Int) : List Int := if isRow xs then tRow turnFrom xs else []
theorem turnFromR_len (xs : List Int) : (turnFromR xs).length ≤ 6 := by
  unfold turnFromR
  split
  · next h => have := isRow_len xs h; simpa [tRow] using this
  · simp

set_option maxHeartbeats 1000000 in
theorem specTurnRow_any {A : Nat} (v : Value) (xs : List Int) (w : World) (hv : Own A w v xs) (hx : xs.length ≤ 1073741824) :
    Calls Tryz.prog 11 #[v] w fun e w' => ∃ u, e = .returned (.tuple #[u, .bool (isRow xs)]) ∧ Own w.heap.size w' u (turnFromR xs) ∧ Below w.heap.size w w' := by
  have H1 := Lib.hid (l2Row_any v xs w hv hx)
  have HK := Lib.hid (fun w1 (h : Below w.heap.size w w1) => own_keep hv h)
  by_cases hr : isRow xs = true
  · have H2 := Lib.hid (fun w1 (h : Own A w1 v xs) => l2TurnRow_any v xs w1 h hr)
    have e : turnFromR xs = tRow turnFrom xs := if_pos hr
    rw [e]
    rw [hr] at H1 ⊢
    clear hv e hr
    go_enter Tryz.func11, Tryz.ntmps11
    go_wp2_with (first | (go_at_call 39; refine H1.out.mono ?_; rintro e w1 ⟨rfl, hb1⟩) | (go_at_call 40; refine (H2.out _ (HK.out _ hb1)).mono ?_; rintro e w2 ⟨u, rfl, ho2, hb2⟩))
    go_ret2
    exact ⟨_, rfl, own_mono ho2 hb1.size, bt hb1 hb2⟩
  · have hr' : isRow xs = false := by simpa using hr
    have e : turnFromR xs = [] := if_neg hr
    rw [e]
    rw [hr'] at H1 ⊢
    clear hv e hr hr'
    go_enter Tryz.func11, Tryz.ntmps11
    go_wp2_with ((go_at_call 39; refine H1.out.mono ?_; rintro e w1 ⟨rfl, hb1⟩))
    go_ret2
    exact ⟨_, rfl, own_mono (World.ownsRow_lit w1 #[] 0 (Nat.le_refl _) (Nat.zero_le _) rfl) hb1.size, bt hb1 ((Below.refl _ _).alloc (Nat.le_refl _) _)⟩

set_option maxHeartbeats 1000000 in
theorem implTurnRow_any {A : Nat} (v : Value) (xs : List Int) (w : World) (hv : Own A w v xs) (hx : xs.length ≤ 1073741824) :
    Calls Tryz.prog 10 #[v] w fun e w' => ∃ u, e = .returned (.tuple #[u, .bool (isRow xs)]) ∧ Own w.heap.size w' u (turnFromR xs) ∧ Below w.heap.size w w' := by
  have H1 := Lib.hid (implIsRow_any v xs w hv hx)
  have HK := Lib.hid (fun w1 (h : Below w.heap.size w w1) => own_keep hv h)
  by_cases hr : isRow xs = true
  · have H2 := Lib.hid (fun w1 (h : Own A w1 v xs) => backTurned_any v xs w1 h hr)
    have e : turnFromR xs = tRow turnFrom xs := if_pos hr
    rw [e]
    rw [hr] at H1 ⊢
    clear hv e hr
    go_enter Tryz.func10, Tryz.ntmps10
    go_wp2_with (first | (go_at_call 12; refine H1.out.mono ?_; rintro e w1 ⟨rfl, hb1⟩) | (go_at_call 37; refine (H2.out _ (HK.out _ hb1)).mono ?_; rintro e w2 ⟨u, rfl, ho2, hb2⟩))
    go_ret2
    exact ⟨_, rfl, own_mono ho2 hb1.size, bt hb1 hb2⟩
  · have hr' : isRow xs = false := by simpa using hr
    have e : turnFromR xs = [] := if_neg hr
    rw [e]
    rw [hr'] at H1 ⊢
    clear hv e hr hr'
    go_enter Tryz.func10, Tryz.ntmps10
    go_wp2_with ((go_at_call 12; refine H1.out.mono ?_; rintro e w1 ⟨rfl, hb1⟩))
    go_ret2
    exact ⟨_, rfl, World.ownsRow_nil _ _ _ _, hb1⟩

end Go.Proofs.YthgjghgkjhkbbaaGreatDoor
