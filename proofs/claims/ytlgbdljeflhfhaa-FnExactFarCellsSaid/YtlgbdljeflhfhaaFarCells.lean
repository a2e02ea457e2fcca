/-
  The law FnExactFarCells returns true, whatever the numbers. No condition.
-/
import Derived.Test.YtlgbdljeflhfhaaCount
import Derived.Test.YtlgbdljeflhfhaaBits
namespace Go.Proofs.Ytlgbdljeflhfhaa
open Go.RowKit
set_option linter.unusedVariables false

set_option maxHeartbeats 400000 in
theorem walkFnExactFarCells (a b : Int) (w : World) (wa : (Lit.int .i64 a).wf = true) (wb : (Lit.int .i64 b).wf = true) :
    Calls Try.prog 9 #[.int .i64 a, .int .i64 b] w fun e w' => e = .returned (.bool true) ∧ Below w.heap.size w w' := by
  by_cases h : (0 ≤ a ∧ a ≤ 127) ∧ (0 ≤ b ∧ b ≤ 127)
  · obtain ⟨⟨h0, h1⟩, h2, h3⟩ := h
    obtain ⟨n, rfl⟩ := Int.eq_ofNat_of_zero_le h0
    obtain ⟨m, rfl⟩ := Int.eq_ofNat_of_zero_le h2
    have hn : n ^^^ m < 128 := Nat.xor_lt_two_pow (n := 7) (by omega) (by omega)
    have hx : bits .xor .i64 (n : Int) (m : Int) = ((n ^^^ m : Nat) : Int) := i64_xor n m (by omega) (by omega)
    go_enter Try.func9, Try.ntmps9
    go_wp2_with (first | (go_at_call 50; refine (l2Count_any _ _ hn).mono ?_; rintro e w' ⟨rfl, rfl⟩) | (go_at_call 51; refine (count_any _ _ hn).mono ?_; rintro e w' ⟨rfl, rfl⟩) | go_in)
    go_ret
    exact ⟨rfl, Below.refl _ _⟩
  · by_cases h0 : 0 ≤ a <;> by_cases h1 : a ≤ 127 <;> by_cases h2 : 0 ≤ b <;> by_cases h3 : b ≤ 127 <;> first | (exfalso; omega) | skip
    all_goals (go_enter Try.func9, Try.ntmps9)
    all_goals go_wp2
    all_goals go_ret
    all_goals exact ⟨rfl, Below.refl _ _⟩

end Go.Proofs.Ytlgbdljeflhfhaa
