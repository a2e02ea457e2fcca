/-
  The law FnExactRowOf returns true. Condition: the table of the powers of ten lies as the program lays it.
-/
import Derived.Test.YthgjghgkjhkbbaaDoorRowC
import Derived.Test.YthgjghgkjhkbbaaDoorCtrS
import Derived.Test.YthgjghgkjhkbbaaDoorIn
import Derived.Test.YthgjghgkjhkbbaaDoorSl
namespace Go.Proofs.YthgjghgkjhkbbaaDoor
open Go.RowKit
set_option linter.unusedVariables false


def roI (n : Int) : List Int × Bool := if inB n 0 999999 then (cRow n.toNat (nd n.toNat), true) else ([], false)
theorem inB_nat {n : Int} (h : inB n 0 999999 = true) : ∃ m : Nat, n = m ∧ m < 1000000 := by
  unfold inB at h
  simp only [Bool.and_eq_true, decide_eq_true_eq] at h
  exact ⟨n.toNat, by omega, by omega⟩
theorem roI_len (n : Int) : (roI n).1.length ≤ 1073741824 := by
  unfold roI
  split
  · rw [cRow_len]; have := (nd_rng n.toNat).2; omega
  · simp

set_option maxHeartbeats 1000000 in
theorem specRowOf_any (n : Int) (w : World) :
    Calls Tryd.prog 7 #[.int .i64 n] w fun e w' => ∃ u, e = .returned (.tuple #[u, .bool (roI n).2]) ∧ Own w.heap.size w' u (roI n).1 ∧ Below w.heap.size w w' := by
  have H1 := Lib.hid (l1In_any n 0 999999)
  by_cases hg : inB n 0 999999 = true
  · have e : roI n = (cRow n.toNat (nd n.toNat), true) := if_pos hg
    rw [e]
    rw [hg] at H1
    obtain ⟨m, rfl, hm⟩ := inB_nat hg
    rw [Int.toNat_natCast]
    have H2 := Lib.hid (fun w => l2RowOf_any m w hm)
    clear e hg
    go_enter Tryd.func7, Tryd.ntmps7
    go_wp2_with (first | (go_at_call 18; refine (H1.out _).mono ?_; rintro e w1 ⟨rfl, rfl⟩) | (go_at_call 19; refine (H2.out _).mono ?_; rintro e w2 ⟨u2, rfl, ho2, hb2⟩))
    go_ret2
    exact ⟨_, rfl, ho2, hb2⟩
  · have e : roI n = ([], false) := if_neg hg
    rw [e]
    have hg' : inB n 0 999999 = false := by simpa using hg
    rw [hg'] at H1
    clear e hg hg'
    go_enter Tryd.func7, Tryd.ntmps7
    go_wp2_with ((go_at_call 18; refine (H1.out _).mono ?_; rintro e w1 ⟨rfl, rfl⟩))
    go_ret2
    exact ⟨_, rfl, World.ownsRow_lit w #[] 0 (Nat.le_refl _) (Nat.zero_le _) rfl, (Below.refl _ _).alloc (Nat.le_refl _) _⟩

theorem isNumber_any (n : Int) (w : World) :
    Calls Tryd.prog 20 #[.int .i64 n] w fun e w' => e = .returned (.bool (inB n 0 999999)) ∧ w = w' := by
  have H1 := Lib.hid (within_any n 0 999999)
  generalize inB n 0 999999 = b at H1
  go_enter Tryd.func20, Tryd.ntmps20
  go_wp2_with ((go_at_call 32; refine (H1.out _).mono ?_; rintro e w1 ⟨rfl, rfl⟩))
  go_ret
  exact ⟨rfl, rfl⟩

set_option maxHeartbeats 1000000 in
theorem implRowOf_any (n : Int) (w : World) (hF : Facts w) :
    Calls Tryd.prog 8 #[.int .i64 n] w fun e w' => ∃ u, e = .returned (.tuple #[u, .bool (roI n).2]) ∧ Own w.heap.size w' u (roI n).1 ∧ Below w.heap.size w w' := by
  have H1 := Lib.hid (isNumber_any n)
  by_cases hg : inB n 0 999999 = true
  · have e : roI n = (cRow n.toNat (nd n.toNat), true) := if_pos hg
    rw [e]
    rw [hg] at H1
    obtain ⟨m, rfl, hm⟩ := inB_nat hg
    rw [Int.toNat_natCast]
    have H2 := Lib.hid (rowOf_any m w hm hF)
    clear e hg hF
    go_enter Tryd.func8, Tryd.ntmps8
    go_wp2_with (first | (go_at_call 20; refine (H1.out _).mono ?_; rintro e w1 ⟨rfl, rfl⟩) | (go_at_call 21; refine H2.out.mono ?_; rintro e w2 ⟨u2, rfl, ho2, hb2⟩))
    go_ret2
    exact ⟨_, rfl, ho2, hb2⟩
  · have e : roI n = ([], false) := if_neg hg
    rw [e]
    have hg' : inB n 0 999999 = false := by simpa using hg
    rw [hg'] at H1
    clear e hg hg' hF
    go_enter Tryd.func8, Tryd.ntmps8
    go_wp2_with ((go_at_call 20; refine (H1.out _).mono ?_; rintro e w1 ⟨rfl, rfl⟩))
    go_ret2
    exact ⟨_, rfl, World.ownsRow_nil _ _ _ _, Below.refl _ _⟩

theorem facts_r {W : World} (h : laidMetH Tryd.prog Rows.fnExactRowOfRow.laid W) : Facts W := facts_of h
set_option maxHeartbeats 4000000 in
theorem walkFnExactRowOf (n : Int) (w : World) (wn : (Lit.int .i64 n).wf = true) (hF : Facts w) :
    Calls Tryd.prog 3 #[.int .i64 n] w fun e w' => e = .returned (.bool true) ∧ Below w.heap.size w w' := by
  have H1 := Lib.hid (specRowOf_any n)
  have H2 := Lib.hid (fun w => implRowOf_any n w)
  have HF := Lib.hid hF
  clear hF
  have hrl : ((roI n).1).length ≤ 1073741824 := roI_len n
  generalize (roI n).1 = rs at H1 H2 hrl
  generalize (roI n).2 = r0 at H1 H2
  have HR := Lib.hid hrl
  have hq8 : (0 : Int) ≤ 1 + (rs.length : Int) := by omega
  have hq8' : 1 + (rs.length : Int) ≤ 1073741825 := by omega
  clear hrl
  go_enter Tryd.func3, Tryd.ntmps3
  go_wp2_with fail
  refine (H1.out _).mono ?_
  rintro e w2 ⟨w0, rfl, hr2, hb2⟩
  go_wp2_with fail
  refine (H2.out _ (facts_keep HF.out hb2)).mono ?_
  rintro e w4 ⟨g0, rfl, hr4, hb4⟩
  have hB4 := bt hb2 hb4
  have hw4 := own_keep hr2 hb4
  go_wp2_with fail
  refine (eqIntS_any _ _ _ _ _ hr4 hw4 HR.out HR.out).mono ?_
  rintro e w5 ⟨rfl, hb5⟩
  rw [decide_eq_true rfl]
  have hB5 := bt hB4 hb5
  have hw5 := own_keep hw4 hb5
  have hg5 := own_keep hr4 hb5
  go_wp2_with fail
  refine (markIntS_any _ rs 1 w5 hg5 HR.out (by omega) (by omega)).mono ?_
  rintro e w10 ⟨rfl, ho10, hb10, hz10, hon10⟩
  have hB10 : Below w.heap.size w w10 := hB5.trans (hb10.mono hb2.size)
  have hw10 := own_only hw5 hon10 (own_apart hr2 hr4 (Nat.le_refl _)).2
  go_wp2_with fail
  refine (heldIntS_any _ rs.length 1 w10 ho10 HR.out (by omega) (by omega)).mono ?_
  rintro e w11 ⟨rfl, hb11⟩
  have hB11 := bt hB10 hb11
  go_wp2_with fail
  refine (H2.out _ (facts_keep HF.out hB11)).mono ?_
  rintro e w13 ⟨h0, rfl, hr13, hb13⟩
  have hB13 := bt hB11 hb13
  have hb1013 := bt hb11 hb13
  go_wp2_with fail
  refine (eqIntS_any _ _ _ _ _ hr13 (own_keep hw10 hb1013) HR.out HR.out).mono ?_
  rintro e w14 ⟨rfl, hb14⟩
  rw [decide_eq_true rfl]
  have hB14 := bt hB13 hb14
  go_wp2_with fail
  refine (heldIntS_any _ rs.length 1 w14 (own_keep ho10 (bt hb1013 hb14)) HR.out (by omega) (by omega)).mono ?_
  rintro e w15 ⟨rfl, hb15⟩
  have hB15 := bt hB14 hb15
  go_wp2
  go_ret
  exact ⟨rfl, hB15⟩

end Go.Proofs.YthgjghgkjhkbbaaDoor
