/-
  The law FnExactTurnedNumber returns true. Condition: the table of the powers of ten lies as the program lays it.
-/
import Derived.Test.YthgjghgkjhkbbaaGreatDoorRowOf
import Derived.Test.YthgjghgkjhkbbaaGreatDoorTurnP
import Derived.Test.YthgjghgkjhkbbaaGreatDoorBack
import Derived.Test.YthgjghgkjhkbbaaGreatDoorNum
namespace Go.Proofs.YthgjghgkjhkbbaaGreatDoor
open Go.RowKit
set_option linter.unusedVariables false
set_option maxRecDepth 20000


def tnI (n : Int) : Int × Bool := if inB n 0 999999 then numV (tRow turnFrom (cRow n.toNat (nd n.toNat))) else (0, false)
set_option maxHeartbeats 1000000 in
theorem specTurned_any (n : Int) (w : World) :
    Calls Tryz.prog 19 #[.int .i64 n] w fun e w' => e = .returned (.tuple #[.int .i64 (tnI n).1, .bool (tnI n).2]) ∧ Below w.heap.size w w' := by
  have H1 := Lib.hid (l1In_any n 0 999999)
  by_cases hg : inB n 0 999999 = true
  · have e : tnI n = numV (tRow turnFrom (cRow n.toNat (nd n.toNat))) := if_pos hg
    rw [e]
    rw [hg] at H1
    obtain ⟨m, rfl, hm⟩ := inB_nat hg
    rw [Int.toNat_natCast]
    have H2 := Lib.hid (fun w => l2RowOf_any m w hm)
    have hr := isRow_c m
    have hr2 := isRow_len _ (isRow_turn _ hr)
    have H3 := Lib.hid (fun (A : Nat) v w (h : Own A w v (cRow m (nd m))) => l2TurnRow_any v _ w h hr)
    have H4 := Lib.hid (fun (A : Nat) v w (h : Own A w v (tRow turnFrom (cRow m (nd m)))) => l2NumberOf_any v _ w h hr2)
    generalize (numV (tRow turnFrom (cRow m (nd m)))).1 = r1 at H4 ⊢
    generalize (numV (tRow turnFrom (cRow m (nd m)))).2 = r2 at H4 ⊢
    generalize tRow turnFrom (cRow m (nd m)) = ys at H3 H4
    generalize cRow m (nd m) = xs at H2 H3
    clear e hg hr hr2
    go_enter Tryz.func19, Tryz.ntmps19
    go_wp2_with ((go_at_call 34; refine (H1.out _).mono ?_; rintro e w1 ⟨rfl, rfl⟩))
    go_wp2_with ((go_at_call 35; refine (H2.out _).mono ?_; rintro e w2 ⟨u2, rfl, ho2, hb2⟩))
    go_wp2_with ((go_at_call 40; refine (H3.out _ _ _ ho2).mono ?_; rintro e w3 ⟨u3, rfl, ho3, hb3⟩))
    go_wp2_with ((go_at_call 46; refine (H4.out _ _ _ ho3).mono ?_; rintro e w4 ⟨rfl, hb4⟩))
    go_ret2
    exact ⟨rfl, bt (bt hb2 hb3) hb4⟩
  · have e : tnI n = (0, false) := if_neg hg
    rw [e]
    have hg' : inB n 0 999999 = false := by simpa using hg
    rw [hg'] at H1
    clear e hg hg'
    go_enter Tryz.func19, Tryz.ntmps19
    go_wp2_with ((go_at_call 34; refine (H1.out _).mono ?_; rintro e w1 ⟨rfl, rfl⟩))
    go_ret2
    exact ⟨rfl, Below.refl _ _⟩

set_option maxHeartbeats 1000000 in
theorem implTurned_any (n : Int) (w : World) (hF : Facts w) :
    Calls Tryz.prog 18 #[.int .i64 n] w fun e w' => e = .returned (.tuple #[.int .i64 (tnI n).1, .bool (tnI n).2]) ∧ Below w.heap.size w w' := by
  have H1 := Lib.hid (isNumber_any n)
  by_cases hg : inB n 0 999999 = true
  · have e : tnI n = numV (tRow turnFrom (cRow n.toNat (nd n.toNat))) := if_pos hg
    rw [e]
    rw [hg] at H1
    obtain ⟨m, rfl, hm⟩ := inB_nat hg
    rw [Int.toNat_natCast]
    have H2 := Lib.hid (rowOf_any m w hm hF)
    have hr := isRow_c m
    have hr1 := isRow_turn _ hr
    have hr2 := isRow_len _ hr1
    have H3 := Lib.hid (fun (A : Nat) v w (h : Own A w v (cRow m (nd m))) => backTurned_any v _ w h hr)
    have H4 := Lib.hid (fun (A : Nat) v w (h : Own A w v (tRow turnFrom (cRow m (nd m)))) => implNumberOf_any v _ w h (by omega))
    rw [show numI (tRow turnFrom (cRow m (nd m))) = numV (tRow turnFrom (cRow m (nd m))) from if_pos hr1] at H4
    generalize (numV (tRow turnFrom (cRow m (nd m)))).1 = r1 at H4 ⊢
    generalize (numV (tRow turnFrom (cRow m (nd m)))).2 = r2 at H4 ⊢
    generalize tRow turnFrom (cRow m (nd m)) = ys at H3 H4
    generalize cRow m (nd m) = xs at H2 H3
    clear e hg hr hr1 hr2 hF
    go_enter Tryz.func18, Tryz.ntmps18
    go_wp2_with ((go_at_call 32; refine (H1.out _).mono ?_; rintro e w1 ⟨rfl, rfl⟩))
    go_wp2_with ((go_at_call 33; refine H2.out.mono ?_; rintro e w2 ⟨u2, rfl, ho2, hb2⟩))
    go_wp2_with ((go_at_call 37; refine (H3.out _ _ _ ho2).mono ?_; rintro e w3 ⟨u3, rfl, ho3, hb3⟩))
    go_wp2_with ((go_at_call 15; refine (H4.out _ _ _ ho3).mono ?_; rintro e w4 ⟨rfl, hb4⟩))
    go_ret2
    exact ⟨rfl, bt (bt hb2 hb3) hb4⟩
  · have e : tnI n = (0, false) := if_neg hg
    rw [e]
    have hg' : inB n 0 999999 = false := by simpa using hg
    rw [hg'] at H1
    clear e hg hg' hF
    go_enter Tryz.func18, Tryz.ntmps18
    go_wp2_with ((go_at_call 32; refine (H1.out _).mono ?_; rintro e w1 ⟨rfl, rfl⟩))
    go_ret2
    exact ⟨rfl, Below.refl _ _⟩

end Go.Proofs.YthgjghgkjhkbbaaGreatDoor
