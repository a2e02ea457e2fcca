/-
  The law FnExactRowOf returns true. Condition: the table of the powers of ten lies as the program lays it.
-/
import Derived.Test.YthgjghgkjhkbbaaGreatDoorRowC
import Derived.Test.YthgjghgkjhkbbaaGreatDoorCtrS
import Derived.Test.YthgjghgkjhkbbaaGreatDoorIn
import Derived.Test.YthgjghgkjhkbbaaGreatDoorSl
namespace Go.Proofs.YthgjghgkjhkbbaaGreatDoor
open Go.RowKit
set_option linter.unusedVariables false
set_option maxRecDepth 20000


def roI (n : Int) : List Int × Bool := if inB n 0 999999 then (cRow n.toNat (nd n.toNat), true) else ([], false)
theorem inB_nat {n : Int} (h : inB n 0 999999 = true) : ∃ m : Nat, n = m ∧ m < 1000000 := by
  unfold inB at h
  simp only [Bool.and_eq_true, decide_eq_true_eq] at h
  exact ⟨n.toNat, by omega, by omega⟩
theorem roI_len (n : Int) : (roI n).1.length ≤ 1073741824 := by
  unfold roI
  split
  · rw [cRow_len]; have := (nd_rng n.toNat).2; omega
  · simp

set_option maxHeartbeats 1000000 in
theorem specRowOf_any (n : Int) (w : World) :
    Calls Tryz.prog 7 #[.int .i64 n] w fun e w' => ∃ u, e = .returned (.tuple #[u, .bool (roI n).2]) ∧ Own w.heap.size w' u (roI n).1 ∧ Below w.heap.size w w' := by
  have H1 := Lib.hid (l1In_any n 0 999999)
  by_cases hg : inB n 0 999999 = true
  · have e : roI n = (cRow n.toNat (nd n.toNat), true) := if_pos hg
    rw [e]
    rw [hg] at H1
    obtain ⟨m, rfl, hm⟩ := inB_nat hg
    rw [Int.toNat_natCast]
    have H2 := Lib.hid (fun w => l2RowOf_any m w hm)
    clear e hg
    go_enter Tryz.func7, Tryz.ntmps7
    go_wp2_with (first | (go_at_call 34; refine (H1.out _).mono ?_; rintro e w1 ⟨rfl, rfl⟩) | (go_at_call 35; refine (H2.out _).mono ?_; rintro e w2 ⟨u2, rfl, ho2, hb2⟩))
    go_ret2
    exact ⟨_, rfl, ho2, hb2⟩
  · have e : roI n = ([], false) := if_neg hg
    rw [e]
    have hg' : inB n 0 999999 = false := by simpa using hg
    rw [hg'] at H1
    clear e hg hg'
    go_enter Tryz.func7, Tryz.ntmps7
    go_wp2_with ((go_at_call 34; refine (H1.out _).mono ?_; rintro e w1 ⟨rfl, rfl⟩))
    go_ret2
    exact ⟨_, rfl, World.ownsRow_lit w #[] 0 (Nat.le_refl _) (Nat.zero_le _) rfl, (Below.refl _ _).alloc (Nat.le_refl _) _⟩

theorem isNumber_any (n : Int) (w : World) :
    Calls Tryz.prog 32 #[.int .i64 n] w fun e w' => e = .returned (.bool (inB n 0 999999)) ∧ w = w' := by
  have H1 := Lib.hid (within_any n 0 999999)
  generalize inB n 0 999999 = b at H1
  go_enter Tryz.func32, Tryz.ntmps32
  go_wp2_with ((go_at_call 50; refine (H1.out _).mono ?_; rintro e w1 ⟨rfl, rfl⟩))
  go_ret
  exact ⟨rfl, rfl⟩

set_option maxHeartbeats 1000000 in
theorem implRowOf_any (n : Int) (w : World) (hF : Facts w) :
    Calls Tryz.prog 6 #[.int .i64 n] w fun e w' => ∃ u, e = .returned (.tuple #[u, .bool (roI n).2]) ∧ Own w.heap.size w' u (roI n).1 ∧ Below w.heap.size w w' := by
  have H1 := Lib.hid (isNumber_any n)
  by_cases hg : inB n 0 999999 = true
  · have e : roI n = (cRow n.toNat (nd n.toNat), true) := if_pos hg
    rw [e]
    rw [hg] at H1
    obtain ⟨m, rfl, hm⟩ := inB_nat hg
    rw [Int.toNat_natCast]
    have H2 := Lib.hid (rowOf_any m w hm hF)
    clear e hg hF
    go_enter Tryz.func6, Tryz.ntmps6
    go_wp2_with (first | (go_at_call 32; refine (H1.out _).mono ?_; rintro e w1 ⟨rfl, rfl⟩) | (go_at_call 33; refine H2.out.mono ?_; rintro e w2 ⟨u2, rfl, ho2, hb2⟩))
    go_ret2
    exact ⟨_, rfl, ho2, hb2⟩
  · have e : roI n = ([], false) := if_neg hg
    rw [e]
    have hg' : inB n 0 999999 = false := by simpa using hg
    rw [hg'] at H1
    clear e hg hg' hF
    go_enter Tryz.func6, Tryz.ntmps6
    go_wp2_with ((go_at_call 32; refine (H1.out _).mono ?_; rintro e w1 ⟨rfl, rfl⟩))
    go_ret2
    exact ⟨_, rfl, World.ownsRow_nil _ _ _ _, Below.refl _ _⟩

end Go.Proofs.YthgjghgkjhkbbaaGreatDoor
