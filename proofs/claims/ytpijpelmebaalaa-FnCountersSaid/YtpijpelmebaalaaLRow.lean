/-
  The law FnExactCounterRow returns true, whatever the numbers. No condition.
-/
import Derived.Test.YtpijpelmebaalaaCtrR
import Derived.Test.YtpijpelmebaalaaCtrT
import Derived.Test.YtpijpelmebaalaaSl
namespace Go.Proofs.Ytpijpelmebaalaa
open Go.RowKit
set_option linter.unusedVariables false


def crR (n k : Int) : List Int := if isCtr n k then cRow n.toNat k.toNat else []
theorem crR_len (n k : Int) : (crR n k).length ≤ 1073741824 := by
  unfold crR
  split
  · next h =>
    obtain ⟨m, j, rfl, rfl, h1, h6, hm⟩ := ctr_nat h
    rw [cRow_len]; omega
  · simp
set_option maxHeartbeats 1000000 in
theorem implCounterRow_any (n k : Int) (w : World) :
    Calls Try.prog 16 #[.int .i64 n, .int .i64 k] w fun e w' => ∃ u, e = .returned (.tuple #[u, .bool (isCtr n k)]) ∧ Own w.heap.size w' u (crR n k) ∧ Below w.heap.size w w' := by
  have H1 := Lib.hid (isCounter_any n k)
  unfold crR
  by_cases hc : isCtr n k = true
  · rw [if_pos hc, hc]
    rw [hc] at H1
    obtain ⟨m, j, rfl, rfl, h1, h6, hm⟩ := ctr_nat hc
    have H2 := Lib.hid (fun w => counterRow_any m j w h1 h6 hm)
    rw [Int.toNat_natCast, Int.toNat_natCast]
    generalize cRow m j = s at H2
    clear hc hm
    go_enter Try.func16, Try.ntmps16
    go_wp2_with (first | (go_at_call 56; refine (H1.out _).mono ?_; rintro e w1 ⟨rfl, rfl⟩) | (go_at_call 57; refine (H2.out _).mono ?_; rintro e w2 ⟨u, rfl, ho2, hb2⟩))
    go_ret2
    exact ⟨_, rfl, ho2, hb2⟩
  · rw [if_neg hc]
    have hc' : isCtr n k = false := by simpa using hc
    rw [hc'] at H1 ⊢
    clear hc hc'
    go_enter Try.func16, Try.ntmps16
    go_wp2_with ((go_at_call 56; refine (H1.out _).mono ?_; rintro e w1 ⟨rfl, rfl⟩))
    go_ret2
    exact ⟨_, rfl, World.ownsRow_nil _ _ _ _, Below.refl _ _⟩

theorem st_zero' : isSt 0 = true := rfl
set_option maxHeartbeats 1000000 in
theorem specCounterRow_any (n k : Int) (w : World) :
    Calls Try.prog 15 #[.int .i64 n, .int .i64 k] w fun e w' => ∃ u, e = .returned (.tuple #[u, .bool (isCtr n k)]) ∧ Own w.heap.size w' u (crR n k) ∧ Below w.heap.size w w' := by
  have H1 := Lib.hid (l4Good_any n 0 k)
  rw [st_zero', Bool.and_true] at H1
  unfold crR
  by_cases hc : isCtr n k = true
  · rw [if_pos hc, hc]
    rw [hc] at H1
    obtain ⟨m, j, rfl, rfl, h1, h6, hm⟩ := ctr_nat hc
    have H2 := Lib.hid (fun w => l4Row_any m j w h1 h6 hm)
    rw [Int.toNat_natCast, Int.toNat_natCast]
    generalize cRow m j = s at H2
    clear hc hm
    go_enter Try.func15, Try.ntmps15
    go_wp2_with (first | (go_at_call 54; refine (H1.out _).mono ?_; rintro e w1 ⟨rfl, rfl⟩) | (go_at_call 55; refine (H2.out _).mono ?_; rintro e w2 ⟨u, rfl, ho2, hb2⟩))
    go_ret2
    exact ⟨_, rfl, ho2, hb2⟩
  · rw [if_neg hc]
    have hc' : isCtr n k = false := by simpa using hc
    rw [hc'] at H1 ⊢
    clear hc hc'
    go_enter Try.func15, Try.ntmps15
    go_wp2_with ((go_at_call 54; refine (H1.out _).mono ?_; rintro e w1 ⟨rfl, rfl⟩))
    go_ret2
    exact ⟨_, rfl, World.ownsRow_lit w #[] 0 (Nat.le_refl _) (Nat.zero_le _) rfl, (Below.refl _ _).alloc (Nat.le_refl _) _⟩

set_option maxHeartbeats 4000000 in
theorem walkFnExactCounterRow (n : Int) (k : Int) (w : World) (wn : (Lit.int .i64 n).wf = true) (wk : (Lit.int .i64 k).wf = true) :
    Calls Try.prog 3 #[.int .i64 n, .int .i64 k] w fun e w' => e = .returned (.bool true) ∧ Below w.heap.size w w' := by
  have H1 := Lib.hid (specCounterRow_any n k)
  have H2 := Lib.hid (implCounterRow_any n k)
  have hrl : (crR n k).length ≤ 1073741824 := crR_len n k
  generalize crR n k = rs at H1 H2 hrl
  generalize isCtr n k = r0 at H1 H2
  have HR := Lib.hid hrl
  have hq8 : (0 : Int) ≤ 1 + (rs.length : Int) := by omega
  have hq8' : 1 + (rs.length : Int) ≤ 1073741825 := by omega
  clear hrl
  go_enter Try.func3, Try.ntmps3
  go_wp2_with fail
  refine (H1.out _).mono ?_
  rintro e w2 ⟨w0, rfl, hr2, hb2⟩
  go_wp2_with fail
  refine (H2.out _).mono ?_
  rintro e w4 ⟨g0, rfl, hr4, hb4⟩
  have hB4 := bt hb2 hb4
  have hw4 := own_keep hr2 hb4
  go_wp2_with fail
  refine (eqIntS_any _ _ _ _ _ hr4 hw4 HR.out HR.out).mono ?_
  rintro e w5 ⟨rfl, hb5⟩
  rw [decide_eq_true rfl]
  have hB5 := bt hB4 hb5
  have hw5 := own_keep hw4 hb5
  have hg5 := own_keep hr4 hb5
  go_wp2_with fail
  refine (markIntS_any _ rs 1 w5 hg5 HR.out (by omega) (by omega)).mono ?_
  rintro e w10 ⟨rfl, ho10, hb10, hz10, hon10⟩
  have hB10 : Below w.heap.size w w10 := hB5.trans (hb10.mono hb2.size)
  have hw10 := own_only hw5 hon10 (own_apart hr2 hr4 (Nat.le_refl _)).2
  go_wp2_with fail
  refine (heldIntS_any _ rs.length 1 w10 ho10 HR.out (by omega) (by omega)).mono ?_
  rintro e w11 ⟨rfl, hb11⟩
  have hB11 := bt hB10 hb11
  go_wp2_with fail
  refine (H2.out _).mono ?_
  rintro e w13 ⟨h0, rfl, hr13, hb13⟩
  have hB13 := bt hB11 hb13
  have hb1013 := bt hb11 hb13
  go_wp2_with fail
  refine (eqIntS_any _ _ _ _ _ hr13 (own_keep hw10 hb1013) HR.out HR.out).mono ?_
  rintro e w14 ⟨rfl, hb14⟩
  rw [decide_eq_true rfl]
  have hB14 := bt hB13 hb14
  go_wp2_with fail
  refine (heldIntS_any _ rs.length 1 w14 (own_keep ho10 (bt hb1013 hb14)) HR.out (by omega) (by omega)).mono ?_
  rintro e w15 ⟨rfl, hb15⟩
  have hB15 := bt hB14 hb15
  go_wp2
  go_ret
  exact ⟨rfl, hB15⟩

end Go.Proofs.Ytpijpelmebaalaa
