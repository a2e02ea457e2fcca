/-
  The law FnExactTurnFault returns true, whatever the fault. No condition.
-/
import Derived.Test.YtlgbdljeflhfhaaBase
import Derived.Test.YtlgbdljeflhfhaaMoved
import Derived.Handy
import Derived.Deep.RegionWith
namespace Go.Proofs.Ytlgbdljeflhfhaa
open Go.RowKit
set_option linter.unusedVariables false


set_option maxHeartbeats 1000000 in
theorem specTurnFault_any (n m : Nat) (w : World) (hn : n < 128) (hm : m < 128) (h5 : (bits .and .i64 (n : Int) (m : Int) == 0) = true) :
    Calls Try.prog 39 #[.agg #[.int .i64 (n : Int), .int .i64 (m : Int)]] w fun e w' => e = .returned (.tuple #[.agg #[.int .i64 (turnFrom n 7 : Nat), .int .i64 (turnFrom m 7 : Nat)], .bool true]) ∧ Below w.heap.size w w' := by
  go_enter Try.func39, Try.ntmps39
  go_wp2_with (first | go_in)
  go_region_with (first | (go_at_call 57; refine (l2Turn_ex _ _ (by assumption)).mono ?_; rintro e w1 ⟨rfl, rfl⟩))
  all_goals go_wp2
  all_goals (refine bodyPost_ret (v := .tuple #[.agg #[.int .i64 (turnFrom n 7 : Nat), .int .i64 (turnFrom m 7 : Nat)], .bool true]) (by simp [results, Try.results39, go_sem]) rfl ⟨rfl, by go_grown⟩)

set_option maxHeartbeats 1000000 in
theorem implTurnFault_any (n m : Nat) (w : World) (hn : n < 128) (hm : m < 128) (h5 : (bits .and .i64 (n : Int) (m : Int) == 0) = true) :
    Calls Try.prog 40 #[.agg #[.int .i64 (n : Int), .int .i64 (m : Int)]] w fun e w' => e = .returned (.tuple #[.agg #[.int .i64 (turnFrom n 7 : Nat), .int .i64 (turnFrom m 7 : Nat)], .bool true]) ∧ Below w.heap.size w w' := by
  go_enter Try.func40, Try.ntmps40
  go_wp2_with (first | go_in)
  go_region_with (first | (go_at_call 58; refine (turned_ex _ _ (by assumption)).mono ?_; rintro e w1 ⟨rfl, rfl⟩))
  all_goals go_wp2
  all_goals (refine bodyPost_ret (v := .tuple #[.agg #[.int .i64 (turnFrom n 7 : Nat), .int .i64 (turnFrom m 7 : Nat)], .bool true]) (by simp [results, Try.results40, go_sem]) rfl ⟨rfl, by go_grown⟩)

set_option maxHeartbeats 1000000 in
theorem walkFnExactTurnFault (a b : Int) (w : World) (wa : (Lit.int .i64 a).wf = true) (wb : (Lit.int .i64 b).wf = true) :
    Calls Try.prog 14 #[.agg #[.int .i64 a, .int .i64 b]] w fun e w' => e = .returned (.bool true) ∧ Below w.heap.size w w' := by
  by_cases h : ((0 ≤ a ∧ a ≤ 127) ∧ (0 ≤ b ∧ b ≤ 127)) ∧ bits .and .i64 a b = 0
  · obtain ⟨⟨⟨h0, h1⟩, h2, h3⟩, h4⟩ := h
    obtain ⟨n, rfl⟩ := Int.eq_ofNat_of_zero_le h0
    obtain ⟨m, rfl⟩ := Int.eq_ofNat_of_zero_le h2
    have hn : n < 128 := by omega
    have hm : m < 128 := by omega
    have h5 : (bits .and .i64 (n : Int) (m : Int) == 0) = true := by rw [h4]; rfl
    clear h4
    go_enter Try.func14, Try.ntmps14
    go_wp2_with (first | (go_at_call 39; refine (specTurnFault_any _ _ _ hn hm h5).mono ?_; rintro e w1 ⟨rfl, hb1⟩; obtain ⟨hc1, hf1, hz1⟩ := bcellN hb1 (by simp only [World.size_alloc]; exact rfl); have hl1 : w.heap.size < w1.heap.size := by omega) | (go_at_call 40; refine (implTurnFault_any _ _ _ hn hm h5).mono ?_; rintro e w2 ⟨rfl, hb2⟩; obtain ⟨hc2, hf2, hz2⟩ := bcellN hb2 (by simp only [World.size_alloc]; exact rfl); have hl2 : w1.heap.size < w2.heap.size := by omega) | go_in)
    go_ret
    have hB1 := bt (w := w) (by go_grown) hb1
    have hB2 := bt (w := w) (by go_grown) hb2
    exact ⟨rfl, by go_grown⟩
  · by_cases h0 : 0 ≤ a <;> by_cases h1 : a ≤ 127 <;> by_cases h2 : 0 ≤ b <;> by_cases h3 : b ≤ 127 <;> first | (exfalso; omega) | skip
    · have h5 : (bits .and .i64 a b == 0) = false := by simp; intro h4; exact h ⟨⟨⟨h0, h1⟩, h2, h3⟩, h4⟩
      clear h
      go_enter Try.func14, Try.ntmps14
      go_wp2
      go_ret
      exact ⟨rfl, by go_grown⟩
    all_goals (clear h)
    all_goals (go_enter Try.func14, Try.ntmps14)
    all_goals go_wp2
    all_goals go_ret
    all_goals exact ⟨rfl, by go_grown⟩

end Go.Proofs.Ytlgbdljeflhfhaa
