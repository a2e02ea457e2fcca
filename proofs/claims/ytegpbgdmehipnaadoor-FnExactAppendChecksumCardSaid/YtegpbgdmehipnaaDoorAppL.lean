/-
  The law FnExactAppendChecksum returns true. Condition: the table of the powers of ten lies as the program lays it.
-/
import Derived.Test.YtegpbgdmehipnaaDoorSealC
namespace Go.Proofs.YtegpbgdmehipnaaDoor
open Go.RowKit
set_option linter.unusedVariables false


theorem facts_as {W : World} (h : laidMetH Tryd.prog Rows.fnExactAppendChecksumRow.laid W) : Facts W := facts_of h
set_option maxHeartbeats 1000000 in
theorem walkFnExactAppendChecksum (s : ByteArray) (w : World) (ws : s.size ≤ maxLen) (hF : Facts w) :
    Calls Tryd.prog 6 #[.string s] w fun e w' => e = .returned (.bool true) ∧ Below w.heap.size w w' := by
  unfold maxLen at ws
  by_cases hs : s.size ≤ 1048576
  · have H1 := Lib.hid (fun w => specAppend_any s w hs)
    have H2 := Lib.hid (fun w => implAppend_any s w hs)
    have HF := Lib.hid hF
    generalize (asI s.data.toList).1 = r1 at H1 H2
    generalize (asI s.data.toList).2 = r2 at H1 H2
    clear hF
    go_enter Tryd.func6, Tryd.ntmps6
    go_wp2_with (first | (go_at_call 19; refine (H1.out _).mono ?_; rintro e w1 ⟨rfl, hb1⟩) | (go_at_call 20; refine (H2.out _ (facts_keep HF.out hb1)).mono ?_; rintro e w2 ⟨rfl, hb2⟩))
    go_ret
    exact ⟨rfl, bt hb1 hb2⟩
  · clear hF
    go_enter Tryd.func6, Tryd.ntmps6
    go_wp2
    go_ret
    exact ⟨rfl, Below.refl _ _⟩

end Go.Proofs.YtegpbgdmehipnaaDoor
