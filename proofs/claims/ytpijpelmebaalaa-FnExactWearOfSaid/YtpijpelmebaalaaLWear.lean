/-
  The law FnExactWearOf returns true. Condition: none but that the arguments are numbers of the machine.
-/
import Derived.Test.YtpijpelmebaalaaWear
import Derived.Test.YtpijpelmebaalaaSl7
import Derived.Test.YtpijpelmebaalaaWear2
namespace Go.Proofs.Ytpijpelmebaalaa
open Go.RowKit
set_option linter.unusedVariables false


theorem wearI_len (f s k : Int) : (wearI f s k).2.1.length = (wearI f s k).1 * 7 ∧ (wearI f s k).1 ≤ 6 := by
  unfold wearI
  split
  · next h =>
    simp only [Bool.and_eq_true] at h
    obtain ⟨m, j, rfl, rfl, _, h6, _⟩ := ctr_nat h.1
    exact ⟨by simp [wRun_len], by simpa using h6⟩
  · exact ⟨rfl, Nat.zero_le _⟩

set_option maxHeartbeats 4000000 in
theorem walkFnExactWearOf (f s k : Int) (w : World) (wf : (Lit.int .i64 f).wf = true) (ws : (Lit.int .i64 s).wf = true) (wk : (Lit.int .i64 k).wf = true) :
    Calls Try.prog 6 #[.int .i64 f, .int .i64 s, .int .i64 k] w fun e w' => e = .returned (.bool true) ∧ Below w.heap.size w w' := by
  have H1 := Lib.hid (fun w => specWearOf_any f s k w wf ws wk)
  have H2 := Lib.hid (fun w => implWearOf_any f s k w wf ws wk)
  have hL := wearI_len f s k
  generalize (wearI f s k).1 = n at H1 H2 hL
  generalize (wearI f s k).2.1 = rs at H1 H2 hL
  generalize (wearI f s k).2.2 = r at H1 H2
  have hn6 : n ≤ 6 := hL.2
  have hq8 : (0 : Int) ≤ 1 + ((n * 7 : Nat) : Int) := by omega
  have hq8' : 1 + ((n * 7 : Nat) : Int) ≤ 43 := by omega
  clear hL wf ws wk
  go_enter Try.func6, Try.ntmps6
  go_wp2_with fail
  refine (H1.out _).mono ?_
  rintro e w2 ⟨w0, rfl, hr2, hb2⟩
  go_wp2_with fail
  refine (H2.out _).mono ?_
  rintro e w4 ⟨g0, rfl, hr4, hb4⟩
  have hB4 := bt hb2 hb4
  have hw4 := ownR_keep hr2 hb4
  go_wp2_with fail
  refine (eqIntA7S_same _ _ _ _ _ hr4 hw4 hn6).mono ?_
  rintro e w5 ⟨rfl, hb5⟩
  have hB5 := bt hB4 hb5
  have hw5 := ownR_keep hw4 hb5
  have hg5 := ownR_keep hr4 hb5
  go_wp2_with fail
  refine (markIntA7S_any _ n rs 1 w5 hg5 hn6 (by omega) (by omega)).mono ?_
  rintro e w10 ⟨rfl, ho10, hb10, hz10, hon10⟩
  have hB10 : Below w.heap.size w w10 := hB5.trans (hb10.mono hb2.size)
  have hw10 := ownR_only hw5 hon10 (ownR_apart hr2 hr4 (Nat.le_refl _)).2
  go_wp2_with fail
  refine (heldIntA7S_any _ n 1 w10 ho10 hn6 (by omega) (by omega)).mono ?_
  rintro e w11 ⟨rfl, hb11⟩
  have hB11 := bt hB10 hb11
  go_wp2_with fail
  refine (H2.out _).mono ?_
  rintro e w13 ⟨h0, rfl, hr13, hb13⟩
  have hB13 := bt hB11 hb13
  have hb1013 := bt hb11 hb13
  go_wp2_with fail
  refine (eqIntA7S_same _ _ _ _ _ hr13 (ownR_keep hw10 hb1013) hn6).mono ?_
  rintro e w14 ⟨rfl, hb14⟩
  have hB14 := bt hB13 hb14
  go_wp2_with fail
  refine (heldIntA7S_any _ n 1 w14 (ownR_keep ho10 (bt hb1013 hb14)) hn6 (by omega) (by omega)).mono ?_
  rintro e w15 ⟨rfl, hb15⟩
  have hB15 := bt hB14 hb15
  go_wp2
  go_ret
  exact ⟨rfl, hB15⟩

end Go.Proofs.Ytpijpelmebaalaa
