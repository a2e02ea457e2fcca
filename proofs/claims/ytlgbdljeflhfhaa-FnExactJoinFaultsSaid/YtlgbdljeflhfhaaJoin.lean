/-
  The law FnExactJoinFaults returns true, whatever the faults. No condition.
-/
import Derived.Test.YtlgbdljeflhfhaaBase
import Derived.Handy
import Derived.Lib.Hide
namespace Go.Proofs.Ytlgbdljeflhfhaa
open Go.RowKit
set_option linter.unusedVariables false


/-- Is it a fault? -/
def okF (a b : Int) : Bool := decide (0 ≤ a ∧ a ≤ 127 ∧ 0 ≤ b ∧ b ≤ 127) && (bits .and .i64 a b == 0)

set_option maxHeartbeats 1000000 in
theorem l3Fault_any (a b : Int) (w : World) :
    Calls Try.prog 61 #[.agg #[.int .i64 a, .int .i64 b]] w fun e w' => e = .returned (.bool (okF a b)) ∧ Below w.heap.size w w' := by
  unfold okF
  by_cases h0 : 0 ≤ a <;> by_cases h1 : a ≤ 127 <;> by_cases h2 : 0 ≤ b <;> by_cases h3 : b ≤ 127 <;> first | (exfalso; omega) | skip
  all_goals (go_enter Try.func61, Try.ntmps61)
  all_goals go_wp2
  all_goals go_ret
  all_goals exact ⟨by (simp [*] <;> (intros; omega)), by go_grown⟩

set_option maxHeartbeats 1000000 in
theorem implFault_any (a b : Int) (w : World) :
    Calls Try.prog 35 #[.agg #[.int .i64 a, .int .i64 b]] w fun e w' => e = .returned (.bool (okF a b)) ∧ Below w.heap.size w w' := by
  unfold okF
  by_cases h0 : 0 ≤ a <;> by_cases h1 : a ≤ 127 <;> by_cases h2 : 0 ≤ b <;> by_cases h3 : b ≤ 127 <;> first | (exfalso; omega) | skip
  all_goals (go_enter Try.func35, Try.ntmps35)
  all_goals go_wp2
  all_goals go_ret
  all_goals exact ⟨by (simp [*] <;> (intros; omega)), by go_grown⟩

set_option maxHeartbeats 1000000 in
theorem toFault_any (a b : Int) (w : World) :
    Calls Try.prog 34 #[.agg #[.int .i64 a, .int .i64 b]] w fun e w' => e = .returned (.agg #[.int .i64 a, .int .i64 b]) ∧ Below w.heap.size w w' := by
  go_enter Try.func34, Try.ntmps34
  go_wp2
  refine bodyPost_ret (v := .agg #[.int .i64 a, .int .i64 b]) (by simp [results, Try.results34, go_sem]) rfl ⟨rfl, by go_grown⟩


/-- Two faults joined, and whether there is such a fault. -/
def jf (a b c d : Int) : Int × Int × Bool :=
  if okF a b && okF c d && okF (bits .or .i64 a c) (bits .or .i64 b d) then (bits .or .i64 a c, bits .or .i64 b d, true) else (0, 0, false)

set_option maxHeartbeats 4000000 in
theorem specJoin_any (a b c d : Int) (w : World) :
    Calls Try.prog 36 #[.agg #[.int .i64 a, .int .i64 b], .agg #[.int .i64 c, .int .i64 d]] w fun e w' => e = .returned (.tuple #[.agg #[.int .i64 (jf a b c d).1, .int .i64 (jf a b c d).2.1], .bool (jf a b c d).2.2]) ∧ Below w.heap.size w w' := by
  have H1 := Lib.hid (l3Fault_any a b)
  have H2 := Lib.hid (l3Fault_any c d)
  have H3 := Lib.hid (l3Fault_any (bits .or .i64 a c) (bits .or .i64 b d))
  unfold jf
  generalize okF a b = x at H1 ⊢
  generalize okF c d = y at H2 ⊢
  generalize okF (bits .or .i64 a c) (bits .or .i64 b d) = z at H3 ⊢
  cases x
  · go_enter Try.func36, Try.ntmps36
    go_wp2_with fail
    refine (H1.out _).mono ?_
    rintro e w1 ⟨rfl, hb1⟩
    obtain ⟨hc1, hf1, hz1⟩ := bcellN hb1 (by simp only [World.size_alloc]; exact rfl)
    have hl1 : w.heap.size < w1.heap.size := by omega
    have hl2 : w.heap.size + 1 < w1.heap.size := by omega
    have hl3 : w.heap.size + 1 + 1 < w1.heap.size := by omega
    have hB1 : Below w.heap.size w w1 := bt (by go_grown) hb1
    go_wp2_with fail
    refine bodyPost_ret (v := .tuple #[.agg #[.int .i64 0, .int .i64 0], .bool false]) (by simp [results, Try.results36, go_sem, *]) rfl ⟨rfl, by go_grown⟩
  · cases y
    · go_enter Try.func36, Try.ntmps36
      go_wp2_with fail
      refine (H1.out _).mono ?_
      rintro e w1 ⟨rfl, hb1⟩
      obtain ⟨hc1, hf1, hz1⟩ := bcellN hb1 (by simp only [World.size_alloc]; exact rfl)
      have hl1 : w.heap.size < w1.heap.size := by omega
      have hl2 : w.heap.size + 1 < w1.heap.size := by omega
      have hl3 : w.heap.size + 1 + 1 < w1.heap.size := by omega
      have hB1 : Below w.heap.size w w1 := bt (by go_grown) hb1
      go_wp2_with fail
      refine (H2.out _).mono ?_
      rintro e w2 ⟨rfl, hb2⟩
      obtain ⟨hc2, hf2, hz2⟩ := bcellN hb2 rfl
      have hk1 : w.heap.size < w2.heap.size := by omega
      have hk2 : w.heap.size + 1 < w2.heap.size := by omega
      have hk3 : w.heap.size + 1 + 1 < w2.heap.size := by omega
      have hB2 : Below w.heap.size w w2 := bt hB1 hb2
      go_wp2_with fail
      refine bodyPost_ret (v := .tuple #[.agg #[.int .i64 0, .int .i64 0], .bool false]) (by simp [results, Try.results36, go_sem, *]) rfl ⟨rfl, by go_grown⟩
    · go_enter Try.func36, Try.ntmps36
      go_wp2_with fail
      refine (H1.out _).mono ?_
      rintro e w1 ⟨rfl, hb1⟩
      obtain ⟨hc1, hf1, hz1⟩ := bcellN hb1 (by simp only [World.size_alloc]; exact rfl)
      have hl1 : w.heap.size < w1.heap.size := by omega
      have hl2 : w.heap.size + 1 < w1.heap.size := by omega
      have hl3 : w.heap.size + 1 + 1 < w1.heap.size := by omega
      have hB1 : Below w.heap.size w w1 := bt (by go_grown) hb1
      go_wp2_with fail
      refine (H2.out _).mono ?_
      rintro e w2 ⟨rfl, hb2⟩
      obtain ⟨hc2, hf2, hz2⟩ := bcellN hb2 rfl
      have hk1 : w.heap.size < w2.heap.size := by omega
      have hk2 : w.heap.size + 1 < w2.heap.size := by omega
      have hk3 : w.heap.size + 1 + 1 < w2.heap.size := by omega
      have hB2 : Below w.heap.size w w2 := bt hB1 hb2
      go_wp2_with fail
      refine (H3.out _).mono ?_
      rintro e w3 ⟨rfl, hb3⟩
      obtain ⟨hc3, hf3, hz3⟩ := bcellN hb3 (by simp only [World.size_alloc]; exact rfl)
      have hm1 : w.heap.size < w2.heap.size + 1 := by omega
      have hm2 : w.heap.size + 1 < w2.heap.size + 1 := by omega
      have hm3 : w.heap.size + 1 + 1 < w2.heap.size + 1 := by omega
      have hn1 : w.heap.size < w3.heap.size := by omega
      have hn2 : w.heap.size + 1 < w3.heap.size := by omega
      have hn3 : w.heap.size + 1 + 1 < w3.heap.size := by omega
      have hn4 : w2.heap.size < w3.heap.size := by omega
      have hB3 : Below w.heap.size w w3 := bt (by go_grown) hb3
      generalize hu : bits .or .i64 a c = u at *
      generalize hv : bits .or .i64 b d = v at *
      cases z
      · go_wp2_with fail
        refine bodyPost_ret (v := .tuple #[.agg #[.int .i64 0, .int .i64 0], .bool false]) (by simp [results, Try.results36, go_sem, *]) rfl ⟨rfl, by go_grown⟩
      · go_wp2_with fail
        refine bodyPost_ret (v := .tuple #[.agg #[.int .i64 u, .int .i64 v], .bool true]) (by simp [results, Try.results36, go_sem, *]) rfl ⟨rfl, by go_grown⟩


set_option maxHeartbeats 4000000 in
theorem implJoin_any (a b c d : Int) (w : World) :
    Calls Try.prog 37 #[.agg #[.int .i64 a, .int .i64 b], .agg #[.int .i64 c, .int .i64 d]] w fun e w' => e = .returned (.tuple #[.agg #[.int .i64 (jf a b c d).1, .int .i64 (jf a b c d).2.1], .bool (jf a b c d).2.2]) ∧ Below w.heap.size w w' := by
  have H1 := Lib.hid (implFault_any a b)
  have H2 := Lib.hid (implFault_any c d)
  have H3 := Lib.hid (implFault_any (bits .or .i64 a c) (bits .or .i64 b d))
  unfold jf
  generalize okF a b = x at H1 ⊢
  generalize okF c d = y at H2 ⊢
  generalize okF (bits .or .i64 a c) (bits .or .i64 b d) = z at H3 ⊢
  go_enter Try.func37, Try.ntmps37
  go_wp2_with fail
  refine (H1.out _).mono ?_
  rintro e w1 ⟨rfl, hb1⟩
  obtain ⟨hc1, hf1, hz1⟩ := bcellN hb1 (by simp only [World.size_alloc]; exact rfl)
  have hl1 : w.heap.size < w1.heap.size := by omega
  have hl2 : w.heap.size + 1 < w1.heap.size := by omega
  have hl3 : w.heap.size + 1 + 1 < w1.heap.size := by omega
  have hl4 : w.heap.size + 1 + 1 + 1 < w1.heap.size := by omega
  have hB1 : Below w.heap.size w w1 := bt (by go_grown) hb1
  generalize hu : bits .or .i64 a c = u at *
  generalize hv : bits .or .i64 b d = v at *
  cases x
  · go_wp2_with fail
    refine bodyPost_ret (v := .tuple #[.agg #[.int .i64 0, .int .i64 0], .bool false]) (by simp [results, Try.results37, go_sem, *]) rfl ⟨rfl, by go_grown⟩
  · go_wp2_with fail
    refine (H2.out _).mono ?_
    rintro e w2 ⟨rfl, hb2⟩
    obtain ⟨hc2, hf2, hz2⟩ := bcellN hb2 rfl
    have hk1 : w.heap.size < w2.heap.size := by omega
    have hk2 : w.heap.size + 1 < w2.heap.size := by omega
    have hk3 : w.heap.size + 1 + 1 < w2.heap.size := by omega
    have hk4 : w.heap.size + 1 + 1 + 1 < w2.heap.size := by omega
    have hB2 : Below w.heap.size w w2 := bt hB1 hb2
    cases y
    · go_wp2_with fail
      refine bodyPost_ret (v := .tuple #[.agg #[.int .i64 0, .int .i64 0], .bool false]) (by simp [results, Try.results37, go_sem, *]) rfl ⟨rfl, by go_grown⟩
    · go_wp2_with fail
      refine (H3.out _).mono ?_
      rintro e w3 ⟨rfl, hb3⟩
      obtain ⟨hc3, hf3, hz3⟩ := bcellN hb3 rfl
      have hn1 : w.heap.size < w3.heap.size := by omega
      have hn2 : w.heap.size + 1 < w3.heap.size := by omega
      have hn3 : w.heap.size + 1 + 1 < w3.heap.size := by omega
      have hn4 : w.heap.size + 1 + 1 + 1 < w3.heap.size := by omega
      have hB3 : Below w.heap.size w w3 := bt hB2 hb3
      cases z
      · go_wp2_with fail
        refine bodyPost_ret (v := .tuple #[.agg #[.int .i64 0, .int .i64 0], .bool false]) (by simp [results, Try.results37, go_sem, *]) rfl ⟨rfl, by go_grown⟩
      · go_wp2_with fail
        refine bodyPost_ret (v := .tuple #[.agg #[.int .i64 u, .int .i64 v], .bool true]) (by simp [results, Try.results37, go_sem, *]) rfl ⟨rfl, by go_grown⟩

end Go.Proofs.Ytlgbdljeflhfhaa
