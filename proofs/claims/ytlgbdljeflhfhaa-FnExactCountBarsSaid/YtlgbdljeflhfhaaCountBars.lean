/-
  The law FnExactCountBars returns true, whatever the number. No condition.
-/
import Derived.Test.YtlgbdljeflhfhaaCount
namespace Go.Proofs.Ytlgbdljeflhfhaa
open Go.RowKit
set_option linter.unusedVariables false

set_option maxHeartbeats 400000 in
theorem walkFnExactCountBars (c : Int) (w : World) (wc : (Lit.int .i64 c).wf = true) :
    Calls Try.prog 6 #[.int .i64 c] w fun e w' => e = .returned (.bool true) ∧ Below w.heap.size w w' := by
  by_cases h0 : 0 ≤ c
  · by_cases h1 : c ≤ 127
    · obtain ⟨n, rfl⟩ := Int.eq_ofNat_of_zero_le h0
      have hn : n < 128 := by omega
      go_enter Try.func6, Try.ntmps6
      go_wp2_with (first | (go_at_call 50; refine (l2Count_any n _ hn).mono ?_; rintro e w' ⟨rfl, rfl⟩) | (go_at_call 51; refine (count_any n _ hn).mono ?_; rintro e w' ⟨rfl, rfl⟩) | go_in)
      go_ret
      exact ⟨rfl, Below.refl _ _⟩
    · go_enter Try.func6, Try.ntmps6
      go_wp2
      go_ret
      exact ⟨rfl, Below.refl _ _⟩
  · go_enter Try.func6, Try.ntmps6
    go_wp2
    go_ret
    exact ⟨rfl, Below.refl _ _⟩

end Go.Proofs.Ytlgbdljeflhfhaa
