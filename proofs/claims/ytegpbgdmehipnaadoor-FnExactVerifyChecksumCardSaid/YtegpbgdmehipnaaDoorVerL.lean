/-
  The law FnExactVerifyChecksum returns true. Condition: the table of the powers of ten lies as the program lays it.
-/
import Derived.Test.YtegpbgdmehipnaaDoorVerC
namespace Go.Proofs.YtegpbgdmehipnaaDoor
open Go.RowKit
set_option linter.unusedVariables false


theorem facts_v {W : World} (h : laidMetH Tryd.prog Rows.fnExactVerifyChecksumRow.laid W) : Facts W := facts_of h
set_option maxHeartbeats 1000000 in
theorem walkFnExactVerifyChecksum (s : ByteArray) (w : World) (ws : s.size ≤ maxLen) (hF : Facts w) :
    Calls Tryd.prog 7 #[.string s] w fun e w' => e = .returned (.bool true) ∧ Below w.heap.size w w' := by
  unfold maxLen at ws
  by_cases hs : s.size ≤ 1048576
  · have H1 := Lib.hid (fun w => specVerify_any s w hs)
    have H2 := Lib.hid (fun w => implVerify_any s w hs)
    have HF := Lib.hid hF
    generalize (vfI s.data.toList).1 = r1 at H1 H2
    generalize (vfI s.data.toList).2 = r2 at H1 H2
    clear hF
    go_enter Tryd.func7, Tryd.ntmps7
    go_wp2_with (first | (go_at_call 21; refine (H1.out _).mono ?_; rintro e w1 ⟨rfl, hb1⟩) | (go_at_call 22; refine (H2.out _ (facts_keep HF.out hb1)).mono ?_; rintro e w2 ⟨rfl, hb2⟩))
    go_ret
    exact ⟨rfl, bt hb1 hb2⟩
  · clear hF
    go_enter Tryd.func7, Tryd.ntmps7
    go_wp2
    go_ret
    exact ⟨rfl, Below.refl _ _⟩

end Go.Proofs.YtegpbgdmehipnaaDoor
