/-
  The law FnExactStepChanges returns true, whatever the numbers. No condition.
-/
import Derived.Test.YtpijpelmebaalaaCtrE
namespace Go.Proofs.Ytpijpelmebaalaa
open Go.RowKit
set_option linter.unusedVariables false


def stI (n k : Int) : Int × Bool := if isCtr n k then (((stepN k.toNat n.toNat : Nat) : Int), true) else (0, false)

set_option maxHeartbeats 1000000 in
theorem implStepChanges_any (n k : Int) (w : World) :
    Calls Try.prog 21 #[.int .i64 n, .int .i64 k] w fun e w' => e = .returned (.tuple #[.int .i64 (stI n k).1, .bool (stI n k).2]) ∧ Below w.heap.size w w' := by
  have H1 := Lib.hid (isCounter_any n k)
  unfold stI
  by_cases hc : isCtr n k = true
  · rw [if_pos hc]
    rw [hc] at H1
    obtain ⟨m, j, rfl, rfl, h1, h6, hm⟩ := ctr_nat hc
    have H2 := Lib.hid (fun w => stepChanges_any m j w h1 h6 hm)
    rw [Int.toNat_natCast, Int.toNat_natCast]
    generalize stepN j m = s at H2
    clear hc hm
    go_enter Try.func21, Try.ntmps21
    go_wp2_with (first | (go_at_call 56; refine (H1.out _).mono ?_; rintro e w1 ⟨rfl, rfl⟩) | (go_at_call 59; refine (H2.out _).mono ?_; rintro e w2 ⟨rfl, hb2⟩))
    go_ret2
    exact ⟨rfl, hb2⟩
  · rw [if_neg hc]
    have hc' : isCtr n k = false := by simpa using hc
    rw [hc'] at H1
    clear hc hc'
    go_enter Try.func21, Try.ntmps21
    go_wp2_with ((go_at_call 56; refine (H1.out _).mono ?_; rintro e w1 ⟨rfl, rfl⟩))
    go_ret2
    exact ⟨rfl, Below.refl _ _⟩

theorem st_zero : isSt 0 = true := rfl
set_option maxHeartbeats 1000000 in
theorem specStepChanges_any (n k : Int) (w : World) :
    Calls Try.prog 20 #[.int .i64 n, .int .i64 k] w fun e w' => e = .returned (.tuple #[.int .i64 (stI n k).1, .bool (stI n k).2]) ∧ Below w.heap.size w w' := by
  have H1 := Lib.hid (l4Good_any n 0 k)
  rw [st_zero, Bool.and_true] at H1
  unfold stI
  by_cases hc : isCtr n k = true
  · rw [if_pos hc]
    rw [hc] at H1
    obtain ⟨m, j, rfl, rfl, h1, h6, hm⟩ := ctr_nat hc
    have H2 := Lib.hid (fun w => l4Step_any m j w h1 h6 hm)
    rw [Int.toNat_natCast, Int.toNat_natCast]
    generalize stepN j m = s at H2
    clear hc hm
    go_enter Try.func20, Try.ntmps20
    go_wp2_with (first | (go_at_call 54; refine (H1.out _).mono ?_; rintro e w1 ⟨rfl, rfl⟩) | (go_at_call 58; refine (H2.out _).mono ?_; rintro e w2 ⟨rfl, hb2⟩))
    go_ret2
    exact ⟨rfl, hb2⟩
  · rw [if_neg hc]
    have hc' : isCtr n k = false := by simpa using hc
    rw [hc'] at H1
    clear hc hc'
    go_enter Try.func20, Try.ntmps20
    go_wp2_with ((go_at_call 54; refine (H1.out _).mono ?_; rintro e w1 ⟨rfl, rfl⟩))
    go_ret2
    exact ⟨rfl, Below.refl _ _⟩

set_option maxHeartbeats 1000000 in
theorem walkFnExactStepChanges (n : Int) (k : Int) (w : World) (wn : (Lit.int .i64 n).wf = true) (wk : (Lit.int .i64 k).wf = true) :
    Calls Try.prog 4 #[.int .i64 n, .int .i64 k] w fun e w' => e = .returned (.bool true) ∧ Below w.heap.size w w' := by
  have H1 := Lib.hid (specStepChanges_any n k)
  have H2 := Lib.hid (implStepChanges_any n k)
  generalize (stI n k).1 = r0 at H1 H2
  generalize (stI n k).2 = r1 at H1 H2
  go_enter Try.func4, Try.ntmps4
  go_wp2_with (first | (go_at_call 20; refine (H1.out _).mono ?_; rintro e w1 ⟨rfl, hb1⟩) | (go_at_call 21; refine (H2.out _).mono ?_; rintro e w2 ⟨rfl, hb2⟩))
  go_ret
  exact ⟨rfl, bt hb1 hb2⟩

end Go.Proofs.Ytpijpelmebaalaa
