/-
  The law FnExactFormatInt returns true. Condition: the table of the powers of ten lies as the program lays it.
-/
import Derived.Test.YtegpbgdmehipnaaDoorNumT
import Derived.Test.YtegpbgdmehipnaaDoorItoa
import Derived.Test.YtegpbgdmehipnaaDoorIn
namespace Go.Proofs.YtegpbgdmehipnaaDoor
open Go.RowKit
set_option linter.unusedVariables false


theorem itoa_pos (n : Nat) : Lib.itoa (n : Int) = Lib.decDigits n := by unfold Lib.itoa; rw [if_neg (by omega)]; rfl
theorem itoa_neg (m : Nat) (h : 1 ≤ m) : Lib.itoa (-(m : Int)) = 45 :: Lib.decDigits m := by
  unfold Lib.itoa
  rw [if_pos (by omega)]
  rw [Int.natAbs_neg, Int.natAbs_natCast]
theorem l1Num_any (n : Int) (w : World) (h0 : -999999 ≤ n) (h1 : n ≤ 999999) :
    Calls Tryd.prog 36 #[.int .i64 n] w fun e w' => e = .returned (.string ⟨(Lib.itoa n).toArray⟩) ∧ Below w.heap.size w w' := by
  by_cases hn : 0 ≤ n
  · obtain ⟨m, rfl⟩ := Int.eq_ofNat_of_zero_le hn
    rw [itoa_pos]
    refine (l1NumP_any 5 (by omega) m w (by simp; omega)).mono ?_
    rintro e w' ⟨rfl, q, rfl⟩
    exact ⟨rfl, rfl, rfl, rfl, Nat.le_refl _, fun _ _ => rfl⟩
  · obtain ⟨m, hm⟩ := Int.eq_ofNat_of_zero_le (show 0 ≤ -n by omega)
    obtain rfl : n = -(m : Int) := by omega
    rw [itoa_neg m (by omega)]
    exact l1NumN_any 5 (by omega) m w (by omega) (by simp; omega)
theorem itoa_len (n : Int) (h0 : -999999 ≤ n) (h1 : n ≤ 999999) : (Lib.itoa n).length ≤ 7 := by
  by_cases hn : 0 ≤ n
  · obtain ⟨m, rfl⟩ := Int.eq_ofNat_of_zero_le hn
    rw [itoa_pos]
    have := dd_len 5 m (by simp; omega)
    omega
  · obtain ⟨m, hm⟩ := Int.eq_ofNat_of_zero_le (show 0 ≤ -n by omega)
    obtain rfl : n = -(m : Int) := by omega
    rw [itoa_neg m (by omega)]
    have := dd_len 5 m (by simp; omega)
    simp; omega
def fmI (n : Int) : ByteArray × Bool := if inB n (-999999) 999999 then (⟨(Lib.itoa n).toArray⟩, true) else (⟨#[]⟩, false)
theorem inB_both {n : Int} (h : inB n (-999999) 999999 = true) : -999999 ≤ n ∧ n ≤ 999999 := by
  unfold inB at h
  simp only [Bool.and_eq_true, decide_eq_true_eq] at h
  exact h

set_option maxHeartbeats 1000000 in
theorem specFormat_any (n : Int) (w : World) :
    Calls Tryd.prog 10 #[.int .i64 n] w fun e w' => e = .returned (.tuple #[.string (fmI n).1, .bool (fmI n).2]) ∧ Below w.heap.size w w' := by
  have H1 := Lib.hid (l1In_any n (-999999) 999999)
  by_cases hg : inB n (-999999) 999999 = true
  · have e : fmI n = (⟨(Lib.itoa n).toArray⟩, true) := if_pos hg
    rw [e]
    rw [hg] at H1
    obtain ⟨h0, h1⟩ := inB_both hg
    have H2 := Lib.hid (fun w => l1Num_any n w h0 h1)
    generalize Lib.itoa n = l at H2 ⊢
    clear e hg h0 h1
    go_enter Tryd.func10, Tryd.ntmps10
    go_wp2_with (first | (go_at_call 35; refine (H1.out _).mono ?_; rintro e w1 ⟨rfl, rfl⟩) | (go_at_call 36; refine (H2.out _).mono ?_; rintro e w2 ⟨rfl, hb2⟩))
    go_ret2
    exact ⟨rfl, hb2⟩
  · have e : fmI n = (⟨#[]⟩, false) := if_neg hg
    rw [e]
    have hg' : inB n (-999999) 999999 = false := by simpa using hg
    rw [hg'] at H1
    clear e hg hg'
    go_enter Tryd.func10, Tryd.ntmps10
    go_wp2_with ((go_at_call 35; refine (H1.out _).mono ?_; rintro e w1 ⟨rfl, rfl⟩))
    go_ret2
    exact ⟨rfl, Below.refl _ _⟩

set_option maxHeartbeats 1000000 in
theorem implFormat_any (n : Int) (w : World) (hF : Facts w) :
    Calls Tryd.prog 11 #[.int .i64 n] w fun e w' => e = .returned (.tuple #[.string (fmI n).1, .bool (fmI n).2]) ∧ Below w.heap.size w w' := by
  have H1 := Lib.hid (within_any n (-999999) 999999)
  by_cases hg : inB n (-999999) 999999 = true
  · have e : fmI n = (⟨(Lib.itoa n).toArray⟩, true) := if_pos hg
    rw [e]
    rw [hg] at H1
    obtain ⟨h0, h1⟩ := inB_both hg
    have H2 := Lib.hid (itoaL_any n w (by omega) (by omega) hF)
    generalize Lib.itoa n = l at H2 ⊢
    clear e hg h0 h1 hF
    go_enter Tryd.func11, Tryd.ntmps11
    go_wp2_with (first | (go_at_call 37; refine (H1.out _).mono ?_; rintro e w1 ⟨rfl, rfl⟩) | (go_at_call 38; refine H2.out.mono ?_; rintro e w2 ⟨rfl, hb2⟩))
    go_ret2
    exact ⟨rfl, hb2⟩
  · have e : fmI n = (⟨#[]⟩, false) := if_neg hg
    rw [e]
    have hg' : inB n (-999999) 999999 = false := by simpa using hg
    rw [hg'] at H1
    clear e hg hg' hF
    go_enter Tryd.func11, Tryd.ntmps11
    go_wp2_with ((go_at_call 37; refine (H1.out _).mono ?_; rintro e w1 ⟨rfl, rfl⟩))
    go_ret2
    exact ⟨rfl, Below.refl _ _⟩

theorem facts_f {W : World} (h : laidMetH Tryd.prog Rows.fnExactFormatIntRow.laid W) : Facts W := facts_of h
set_option maxHeartbeats 1000000 in
theorem walkFnExactFormatInt (n : Int) (w : World) (wn : (Lit.int .i64 n).wf = true) (hF : Facts w) :
    Calls Tryd.prog 3 #[.int .i64 n] w fun e w' => e = .returned (.bool true) ∧ Below w.heap.size w w' := by
  have H1 := Lib.hid (specFormat_any n)
  have H2 := Lib.hid (implFormat_any n)
  have HF := Lib.hid hF
  generalize (fmI n).1 = r1 at H1 H2
  generalize (fmI n).2 = r2 at H1 H2
  clear hF
  go_enter Tryd.func3, Tryd.ntmps3
  go_wp2_with (first | (go_at_call 10; refine (H1.out _).mono ?_; rintro e w1 ⟨rfl, hb1⟩) | (go_at_call 11; refine (H2.out _ (facts_keep HF.out hb1)).mono ?_; rintro e w2 ⟨rfl, hb2⟩))
  go_ret
  exact ⟨rfl, bt hb1 hb2⟩

end Go.Proofs.YtegpbgdmehipnaaDoor
