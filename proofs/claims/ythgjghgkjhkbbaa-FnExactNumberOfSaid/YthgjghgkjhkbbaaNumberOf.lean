/-
  The law FnExactNumberOf returns true, whatever the list. No condition.
-/
import Derived.Test.YthgjghgkjhkbbaaNum
namespace Go.Proofs.Ythgjghgkjhkbbaa
open Go.RowKit
set_option linter.unusedVariables false


set_option maxHeartbeats 2000000 in
theorem walkFnExactNumberOf (a : Option Addr) (len cap : Nat) (zs : List Int) (w : World) (ha : InRow .i64 w a len cap zs) :
    Calls Try.prog 4 #[.slice a len cap] w fun e w' => e = .returned (.bool true) ∧ Below w.heap.size w w' := by
  have hlm : len ≤ 9223372036854775807 := by
    rcases ha with ⟨rfl, rfl, rfl, rfl⟩ | ⟨x, rfl, hlc, hm, _⟩
    · omega
    · unfold maxLen at hm; omega
  have hzl : (zs.take len).length ≤ len := by rw [List.length_take]; omega
  by_cases hl : len ≤ 1048576
  · have hz2 : (zs.take len).length ≤ 1073741824 := by omega
    have HT := Lib.hid (fun w hw => toIntS_any a len cap zs w _ ha hl hw)
    generalize zs.take len = xs at HT hz2 hzl
    have H1 := Lib.hid (fun (A : Nat) v w (h : Own A w v xs) => specNumberOf_any v xs w h hz2)
    have H2 := Lib.hid (fun (A : Nat) v w (h : Own A w v xs) => implNumberOf_any v xs w h hz2)
    generalize (numI xs).1 = r1 at H1 H2
    generalize (numI xs).2 = r2 at H1 H2
    have HZ := Lib.hid hz2
    clear ha hzl hz2
    go_enter Try.func4, Try.ntmps4
    go_wp2_with fail
    refine (HT.out _ (Below.refl _ _)).mono ?_
    rintro e w1 ⟨v1, rfl, ho1, hb1⟩
    go_wp2_with fail
    refine (H1.out _ _ _ ho1).mono ?_
    rintro e w2 ⟨rfl, hb2⟩
    go_wp2_with fail
    refine (HT.out _ (bt hb1 hb2)).mono ?_
    rintro e w3 ⟨x0, rfl, ho3, hb3⟩
    go_wp2_with fail
    refine (H2.out _ _ _ ho3).mono ?_
    rintro e w4 ⟨rfl, hb4⟩
    go_wp2_with fail
    refine (HT.out _ (bt (bt hb1 hb2) (bt hb3 hb4))).mono ?_
    rintro e w5 ⟨x1, rfl, ho5, hb5⟩
    go_wp2_with fail
    refine (eqIntS_any _ _ _ _ _ (own_keep (own_keep ho3 hb4) hb5) ho5 HZ.out HZ.out).mono ?_
    rintro e w6 ⟨rfl, hb6⟩
    rw [decide_eq_true rfl]
    go_wp2
    go_ret
    exact ⟨rfl, bt (bt (bt hb1 hb2) (bt hb3 hb4)) (bt hb5 hb6)⟩
  · go_enter Try.func4, Try.ntmps4
    go_wp2
    go_ret
    exact ⟨rfl, Below.refl _ _⟩

end Go.Proofs.Ythgjghgkjhkbbaa
