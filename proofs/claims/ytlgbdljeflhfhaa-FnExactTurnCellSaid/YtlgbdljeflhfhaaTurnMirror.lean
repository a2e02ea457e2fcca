/-
  The laws FnExactTurnCell and FnExactMirrorCell return true, whatever the number. No condition.
-/
import Derived.Test.YtlgbdljeflhfhaaMoved
namespace Go.Proofs.Ytlgbdljeflhfhaa
open Go.RowKit
set_option linter.unusedVariables false


set_option maxHeartbeats 1000000 in
theorem walkFnExactTurnCell (c : Int) (w : World) (wc : (Lit.int .i64 c).wf = true) :
    Calls Try.prog 10 #[.int .i64 c] w fun e w' => e = .returned (.bool true) ∧ Below w.heap.size w w' := by
  by_cases h0 : 0 ≤ c
  · by_cases h1 : c ≤ 127
    · obtain ⟨n, rfl⟩ := Int.eq_ofNat_of_zero_le h0
      have hn : n < 128 := by omega
      go_enter Try.func10, Try.ntmps10
      go_wp2_with (first | (go_at_call 57; refine (l2Turn_any n _ hn).mono ?_; rintro e w1 ⟨rfl, hb1⟩) | (go_at_call 58; refine (turned_any n _ hn).mono ?_; rintro e w2 ⟨rfl, hb2⟩) | go_in)
      go_ret
      exact ⟨rfl, bt hb1 hb2⟩
    · go_enter Try.func10, Try.ntmps10
      go_wp2
      go_ret
      exact ⟨rfl, Below.refl _ _⟩
  · go_enter Try.func10, Try.ntmps10
    go_wp2
    go_ret
    exact ⟨rfl, Below.refl _ _⟩

set_option maxHeartbeats 1000000 in
theorem walkFnExactMirrorCell (c : Int) (w : World) (wc : (Lit.int .i64 c).wf = true) :
    Calls Try.prog 11 #[.int .i64 c] w fun e w' => e = .returned (.bool true) ∧ Below w.heap.size w w' := by
  by_cases h0 : 0 ≤ c
  · by_cases h1 : c ≤ 127
    · obtain ⟨n, rfl⟩ := Int.eq_ofNat_of_zero_le h0
      have hn : n < 128 := by omega
      go_enter Try.func11, Try.ntmps11
      go_wp2_with (first | (go_at_call 59; refine (l2Mirror_any n _ hn).mono ?_; rintro e w1 ⟨rfl, hb1⟩) | (go_at_call 60; refine (mirrored_any n _ hn).mono ?_; rintro e w2 ⟨rfl, hb2⟩) | go_in)
      go_ret
      exact ⟨rfl, bt hb1 hb2⟩
    · go_enter Try.func11, Try.ntmps11
      go_wp2
      go_ret
      exact ⟨rfl, Below.refl _ _⟩
  · go_enter Try.func11, Try.ntmps11
    go_wp2
    go_ret
    exact ⟨rfl, Below.refl _ _⟩

end Go.Proofs.Ytlgbdljeflhfhaa
