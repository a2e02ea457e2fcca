/-
  The law FnExactCellOf returns true, whatever the number. No condition.
-/
import Derived.Test.YtlgbdljeflhfhaaDigit
namespace Go.Proofs.Ytlgbdljeflhfhaa
open Go.RowKit
set_option linter.unusedVariables false

set_option maxHeartbeats 1000000 in
theorem walkFnExactCellOf (c : Int) (w : World) (wc : (Lit.int .i64 c).wf = true) :
    Calls Try.prog 4 #[.int .i64 c] w fun e w' => e = .returned (.bool true) ∧ Below w.heap.size w w' := by
  by_cases h0 : 0 ≤ c
  · by_cases h1 : c ≤ 9
    · obtain ⟨d, rfl⟩ := Int.eq_ofNat_of_zero_le h0
      have hd : d < 10 := by omega
      have hi := dig_at d hd
      go_enter Try.func4, Try.ntmps4
      go_wp2_with (first | (go_at_call 44; refine (l2Digit_any d _ hd).mono ?_; rintro e w1 ⟨rfl, hb1⟩) | (go_at_call 46; refine (digitCells_any _).mono ?_; rintro e w2 ⟨rfl, hb2⟩) | go_in)
      go_ret
      exact ⟨rfl, bt hb1 hb2⟩
    · go_enter Try.func4, Try.ntmps4
      go_wp2
      go_ret
      exact ⟨rfl, Below.refl _ _⟩
  · go_enter Try.func4, Try.ntmps4
    go_wp2
    go_ret
    exact ⟨rfl, Below.refl _ _⟩

end Go.Proofs.Ytlgbdljeflhfhaa
