/-
  The law FnExactIsRow returns true, whatever the list. No condition.
-/
import Derived.Test.YthgjghgkjhkbbaaRow
namespace Go.Proofs.Ythgjghgkjhkbbaa
open Go.RowKit
set_option linter.unusedVariables false


set_option maxHeartbeats 2000000 in
theorem walkFnExactIsRow (a : Option Addr) (len cap : Nat) (zs : List Int) (w : World) (ha : InRow .i64 w a len cap zs) :
    Calls Try.prog 3 #[.slice a len cap] w fun e w' => e = .returned (.bool true) ∧ Below w.heap.size w w' := by
  have hlm : len ≤ 9223372036854775807 := by
    rcases ha with ⟨rfl, rfl, rfl, rfl⟩ | ⟨x, rfl, hlc, hm, _⟩
    · omega
    · unfold maxLen at hm; omega
  have hzl : (zs.take len).length ≤ len := by rw [List.length_take]; omega
  by_cases hl : len ≤ 1048576
  · generalize hb : isRow (zs.take len) = b
    have HB := Lib.hid hb
    have HT := Lib.hid (fun w hw => toIntS_any a len cap zs w _ ha hl hw)
    have HZ := Lib.hid hzl
    clear hb ha hzl
    go_enter Try.func3, Try.ntmps3
    go_wp2_with fail
    refine (HT.out _ (Below.refl _ _)).mono ?_
    rintro e w1 ⟨v1, rfl, ho1, hb1⟩
    go_wp2_with fail
    refine (specIsRow_any _ _ _ ho1 (Nat.le_trans HZ.out (by omega))).mono ?_
    rintro e w2 ⟨rfl, hb2⟩
    rw [HB.out]
    go_wp2_with fail
    refine (HT.out _ (bt hb1 hb2)).mono ?_
    rintro e w3 ⟨x0, rfl, ho3, hb3⟩
    go_wp2_with fail
    refine (implIsRow_any _ _ _ ho3 (Nat.le_trans HZ.out (by omega))).mono ?_
    rintro e w4 ⟨rfl, hb4⟩
    rw [HB.out]
    go_wp2_with fail
    refine (HT.out _ (bt (bt hb1 hb2) (bt hb3 hb4))).mono ?_
    rintro e w5 ⟨x1, rfl, ho5, hb5⟩
    go_wp2_with fail
    refine (eqIntS_any _ _ _ _ _ (own_keep (own_keep ho3 hb4) hb5) ho5 (Nat.le_trans HZ.out (by omega)) (Nat.le_trans HZ.out (by omega))).mono ?_
    rintro e w6 ⟨rfl, hb6⟩
    rw [decide_eq_true rfl]
    go_wp2
    go_ret
    exact ⟨rfl, bt (bt (bt hb1 hb2) (bt hb3 hb4)) (bt hb5 hb6)⟩
  · go_enter Try.func3, Try.ntmps3
    go_wp2
    go_ret
    exact ⟨rfl, Below.refl _ _⟩

end Go.Proofs.Ythgjghgkjhkbbaa
