/-
  The law FnExactLeastRing returns true. Condition: the arguments that the form lays.
-/
import Derived.Test.YtfdhmijofpbkjaaLeastG
import Derived.Test.YtfdhmijofpbkjaaLeastW
import Derived.Test.YtfdhmijofpbkjaaTo
import Derived.Test.YtfdhmijofpbkjaaSl
namespace Go.Proofs.Ytfdhmijofpbkjaa
open Go.RowKit
set_option linter.unusedVariables false

set_option maxHeartbeats 4000000 in
theorem walkFnExactLeastRing (a : Option Addr) (len cap : Nat) (zs : List Int) (w : World) (ha : InRow .i64 w a len cap zs) :
    Calls Try.prog 4 #[.slice a len cap] w fun e w' => e = .returned (.bool true) ∧ Below w.heap.size w w' := by
  have hlm : len ≤ 9223372036854775807 := by
    rcases ha with ⟨rfl, rfl, rfl, rfl⟩ | ⟨x, rfl, hlc, hm, _⟩
    · omega
    · unfold maxLen at hm; omega
  have hzl : (zs.take len).length ≤ len := by rw [List.length_take]; omega
  by_cases hl : len ≤ 1048576
  · have hz2 : (zs.take len).length ≤ 1073741824 := by omega
    have HT := Lib.hid (fun w hw => toIntS_any a len cap zs w _ ha hl hw)
    generalize zs.take len = xs at HT hz2 hzl
    have H1 := Lib.hid (fun (A : Nat) v w (h : Own A w v xs) => specLeastRing_any v xs w h hz2)
    have H2 := Lib.hid (fun (A : Nat) v w (h : Own A w v xs) => implLeastRing_any v xs w h hz2)
    have hrl : (lrI xs).1.length ≤ 1073741824 := lrI_len xs
    generalize lrI xs = res at H1 H2 hrl
    obtain ⟨rs, y, b⟩ := res
    have HZ := Lib.hid hz2
    have HR := Lib.hid hrl
    clear ha hzl hz2
    go_enter Try.func4, Try.ntmps4
    go_wp2_with fail
    refine (HT.out _ (Below.refl _ _)).mono ?_
    rintro e w1 ⟨v1, rfl, ho1, hb1⟩
    go_wp2_with fail
    refine (H1.out _ _ _ ho1).mono ?_
    rintro e w2 ⟨w0, rfl, hr2, hb2⟩
    have hB2 := bt hb1 hb2
    go_wp2_with fail
    refine (HT.out _ hB2).mono ?_
    rintro e w3 ⟨x0, rfl, ho3, hb3⟩
    have hB3 := bt hB2 hb3
    go_wp2_with fail
    refine (H2.out _ _ _ ho3).mono ?_
    rintro e w4 ⟨g0, rfl, hr4, hb4⟩
    have hB4 := bt hB3 hb4
    have hw4 := own_keep (own_keep hr2 hb3) hb4
    have hx4 := own_keep ho3 hb4
    go_wp2_with fail
    refine (eqIntS_any _ _ _ _ _ hr4 hw4 HR.out HR.out).mono ?_
    rintro e w5 ⟨rfl, hb5⟩
    rw [decide_eq_true rfl]
    have hB5 := bt hB4 hb5
    go_wp2_with fail
    refine (HT.out _ hB5).mono ?_
    rintro e w6 ⟨x1, rfl, ho6, hb6⟩
    have hB6 := bt hB5 hb6
    have hb56 := bt hb5 hb6
    go_wp2_with fail
    refine (eqIntS_any _ _ _ _ _ (own_keep hx4 hb56) ho6 HZ.out HZ.out).mono ?_
    rintro e w7 ⟨rfl, hb7⟩
    rw [decide_eq_true rfl]
    have hB7 := bt hB6 hb7
    have hb47 := bt hb56 hb7
    go_wp2_with fail
    refine (markIntS_any _ xs 1 w7 (own_keep hx4 hb47) HZ.out (by omega) (by omega)).mono ?_
    rintro e w8 ⟨rfl, ho8, hb8, hz8, hon8⟩
    have hB8 : Below w.heap.size w w8 := hB7.trans (hb8.mono hB2.size)
    have hw8 := own_only (own_keep hw4 hb47) hon8 (own_apart hr2 ho3 (Nat.le_refl _)).2
    have hg8 := own_only (own_keep hr4 hb47) hon8 (own_apart ho3 hr4 (Nat.le_refl _)).1
    have hk8 : (0 : Int) ≤ 1 + (xs.length : Int) := by omega
    have hk8' : 1 + (xs.length : Int) ≤ 1073741825 := by have := HZ.out; omega
    go_wp2_with fail
    refine (eqIntS_any _ _ _ _ _ hg8 hw8 HR.out HR.out).mono ?_
    rintro e w9 ⟨rfl, hb9⟩
    rw [decide_eq_true rfl]
    have hB9 := bt hB8 hb9
    go_wp2_with fail
    refine (markIntS_any _ rs 1 w9 (own_keep hg8 hb9) HR.out (by omega) (by omega)).mono ?_
    rintro e w10 ⟨rfl, ho10, hb10, hz10, hon10⟩
    have hB10 : Below w.heap.size w w10 := hB9.trans (hb10.mono hB3.size)
    have hw10 := own_only (own_keep hw8 hb9) hon10 (own_apart hr2 hr4 hb3.size).2
    have hq8 : (0 : Int) ≤ 1 + (rs.length : Int) := by omega
    have hq8' : 1 + (rs.length : Int) ≤ 1073741825 := by have := HR.out; omega
    go_wp2_with fail
    refine (heldIntS_any _ rs.length 1 w10 ho10 HR.out (by omega) (by omega)).mono ?_
    rintro e w11 ⟨rfl, hb11⟩
    have hB11 := bt hB10 hb11
    go_wp2_with fail
    refine (HT.out _ hB11).mono ?_
    rintro e w12 ⟨x2, rfl, ho12, hb12⟩
    have hB12 := bt hB11 hb12
    go_wp2_with fail
    refine (H2.out _ _ _ ho12).mono ?_
    rintro e w13 ⟨h0, rfl, hr13, hb13⟩
    have hB13 := bt hB12 hb13
    have hb1013 := bt (bt hb11 hb12) hb13
    go_wp2_with fail
    refine (eqIntS_any _ _ _ _ _ hr13 (own_keep hw10 hb1013) HR.out HR.out).mono ?_
    rintro e w14 ⟨rfl, hb14⟩
    rw [decide_eq_true rfl]
    have hB14 := bt hB13 hb14
    go_wp2_with fail
    refine (heldIntS_any _ rs.length 1 w14 (own_keep ho10 (bt hb1013 hb14)) HR.out (by omega) (by omega)).mono ?_
    rintro e w15 ⟨rfl, hb15⟩
    have hB15 := bt hB14 hb15
    go_wp2
    go_ret
    exact ⟨rfl, hB15⟩
  · go_enter Try.func4, Try.ntmps4
    go_wp2
    go_ret
    exact ⟨rfl, Below.refl _ _⟩

end Go.Proofs.Ytfdhmijofpbkjaa
