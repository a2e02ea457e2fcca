/-
  The law FnExactParseBars returns true, whatever the string. No condition.
-/
import Derived.Test.YtlgbdljeflhfhaaParse
namespace Go.Proofs.Ytlgbdljeflhfhaa
open Go.RowKit
set_option linter.unusedVariables false


set_option maxHeartbeats 1000000 in
theorem walkFnExactParseBars (s : ByteArray) (w : World) (ws : s.size ≤ maxLen) :
    Calls Try.prog 8 #[.string s] w fun e w' => e = .returned (.bool true) ∧ Below w.heap.size w w' := by
  unfold maxLen at ws
  by_cases hl : s.size ≤ 1048576
  · have H1 := Lib.hid (fun w => l2Parse_any s w hl)
    have H2 := Lib.hid (fun w => implParse_any s w hl)
    generalize (prs s.data.toList).1 = r1 at H1 H2
    generalize (prs s.data.toList).2 = r2 at H1 H2
    have HB : Hid (∀ {w a b : World}, Below w.heap.size w a → a = b → Below w.heap.size w b) := fun h e => e ▸ h
    go_enter Try.func8, Try.ntmps8
    go_wp2_with (first | (go_at_call 26; refine (H2.out _).mono ?_; rintro e w2 ⟨rfl, rfl⟩) | (go_at_call 54; refine (H1.out _).mono ?_; rintro e w1 ⟨rfl, hb1⟩) | go_in)
    go_ret
    exact ⟨rfl, hb1⟩
  · go_enter Try.func8, Try.ntmps8
    go_wp2
    go_ret
    exact ⟨rfl, Below.refl _ _⟩

end Go.Proofs.Ytlgbdljeflhfhaa
