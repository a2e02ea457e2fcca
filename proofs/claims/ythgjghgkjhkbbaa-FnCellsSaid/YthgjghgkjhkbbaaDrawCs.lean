/-
  Contracts of the draws of the law of cells. Condition: the code has at most 2^16 bytes.
-/
import Derived.Test.YthgjghgkjhkbbaaDrawC
import Derived.Test.YthgjghgkjhkbbaaCurN
import Derived.Test.YthgjghgkjhkbbaaBarC
import Derived.Test.YthgjghgkjhkbbaaCellK
namespace Go.Proofs.Ythgjghgkjhkbbaa
open Go.RowKit
set_option linter.unusedVariables false


set_option maxHeartbeats 1000000 in
theorem drawCellOf_any (a : Option Addr) (len cap : Nat) (w : World) (hb : Bytes w.heap.size w a len) (hl : len ≤ 65536) :
    Calls Try.prog 27 #[.slice a len cap] w fun e w' => ∃ n : Int, e = .returned (.int .i64 n) ∧ Below w.heap.size w w' := by
  have HN := Lib.hid (cur_new w a len cap hb hl)
  clear hb
  go_enter Try.func27, Try.ntmps27
  go_wp2_with fail
  refine (pick_s w.heap.size 0 w.heap.size 12 _ HN.out (by omega) (by omega)).mono ?_
  rintro e w1 ⟨r, rfl, p0, p1, p2, hc1, hb1, hk1⟩
  go_wp2
  go_ret
  exact ⟨_, rfl, ((Below.refl _ _).alloc (Nat.le_refl _) _).trans hb1⟩
set_option maxHeartbeats 1000000 in
theorem drawIsCell_any (a : Option Addr) (len cap : Nat) (w : World) (hb : Bytes w.heap.size w a len) (hl : len ≤ 65536) :
    Calls Try.prog 66 #[.slice a len cap] w fun e w' => ∃ n : Int, e = .returned (.int .i64 n) ∧ Below w.heap.size w w' := by
  have HN := Lib.hid (cur_new w a len cap hb hl)
  clear hb
  go_enter Try.func66, Try.ntmps66
  go_wp2_with fail
  refine (cell_s w.heap.size 0 w.heap.size _ HN.out (by omega)).mono ?_
  rintro e w1 ⟨x, rfl, hc1, hb1, hk1⟩
  go_wp2
  go_ret
  exact ⟨_, rfl, ((Below.refl _ _).alloc (Nat.le_refl _) _).trans hb1⟩
set_option maxHeartbeats 1000000 in
theorem drawTurnCell_any (a : Option Addr) (len cap : Nat) (w : World) (hb : Bytes w.heap.size w a len) (hl : len ≤ 65536) :
    Calls Try.prog 30 #[.slice a len cap] w fun e w' => ∃ n : Int, e = .returned (.int .i64 n) ∧ Below w.heap.size w w' := by
  have H := Lib.hid (drawIsCell_any a len cap w hb hl)
  clear hb
  go_enter Try.func30, Try.ntmps30
  go_wp2_with ((go_at_call 66; refine H.out.mono ?_; rintro e w1 ⟨n, rfl, hb1⟩))
  go_ret
  exact ⟨_, rfl, hb1⟩
set_option maxHeartbeats 1000000 in
theorem drawFar_any (a : Option Addr) (len cap : Nat) (w : World) (hb : Bytes w.heap.size w a len) (hl : len ≤ 65536) :
    Calls Try.prog 45 #[.slice a len cap] w fun e w' => ∃ n m : Int, e = .returned (.tuple #[.int .i64 n, .int .i64 m]) ∧ Below w.heap.size w w' := by
  have HN := Lib.hid (cur_new w a len cap hb hl)
  clear hb
  go_enter Try.func45, Try.ntmps45
  go_wp2_with fail
  refine (cell_s w.heap.size 0 w.heap.size _ HN.out (by omega)).mono ?_
  rintro e w1 ⟨x, rfl, hc1, hb1, hk1⟩
  go_wp2_with fail
  refine (cell_s w.heap.size _ w.heap.size _ hc1 (by omega)).mono ?_
  rintro e w2 ⟨y, rfl, hc2, hb2, hk2⟩
  go_wp2
  go_ret2
  exact ⟨_, _, rfl, (((Below.refl _ _).alloc (Nat.le_refl _) _).trans hb1).trans hb2⟩
theorem bars_seven : ∀ n : Nat, n < 128 → (bars n 7).length ≤ 7 := by decide +kernel
theorem l2Cell_any (c : Int) (w : World) :
    Calls Try.prog 67 #[.int .i64 c] w fun e w' => e = .returned (.bool (inC c)) ∧ w = w' := by
  by_cases h0 : 0 ≤ c
  · by_cases h1 : c ≤ 127
    · rw [show inC c = true from decide_eq_true ⟨h0, h1⟩]
      go_enter Try.func67, Try.ntmps67
      go_wp2
      go_ret
      exact ⟨rfl, rfl⟩
    · rw [inC_hi c h1]
      go_enter Try.func67, Try.ntmps67
      go_wp2
      go_ret
      exact ⟨rfl, rfl⟩
  · rw [inC_lo c h0]
    go_enter Try.func67, Try.ntmps67
    go_wp2
    go_ret
    exact ⟨rfl, rfl⟩
set_option maxHeartbeats 2000000 in
theorem drawParseB_any (a : Option Addr) (len cap : Nat) (w : World) (hb : Bytes w.heap.size w a len) (hl : len ≤ 65536) :
    Calls Try.prog 42 #[.slice a len cap] w fun e w' => ∃ s : ByteArray, e = .returned (.string s) ∧ s.size ≤ 100 ∧ Below w.heap.size w w' := by
  have HN := Lib.hid (cur_new w a len cap hb hl)
  clear hb
  go_enter Try.func42, Try.ntmps42
  go_wp2_with fail
  refine (cell_s w.heap.size 0 w.heap.size _ HN.out (by omega)).mono ?_
  rintro e w1 ⟨x, rfl, hc1, hb1, hk1⟩
  have HC1 := Lib.hid hc1
  have HB1 : Hid (Below w.heap.size w w1) := Lib.hid (((Below.refl _ _).alloc (Nat.le_refl _) _).trans hb1)
  clear hc1 hb1 hk1
  have hxc : inC x = false ∨ ∃ n : Nat, n < 128 ∧ x = (n : Int) := by
    by_cases h : 0 ≤ x ∧ x ≤ 127
    · exact .inr ⟨x.toNat, by omega, by omega⟩
    · exact .inl (decide_eq_false h)
  go_wp2_with fail
  refine (l2Cell_any x _).mono ?_
  rintro e w2 ⟨rfl, rfl⟩
  rcases hxc with hx | ⟨n, hn, rfl⟩
  · rw [hx]
    go_wp2_with fail
    refine (one_s w.heap.size _ w.heap.size 4 _ HC1.out (by omega) (by omega)).mono ?_
    rintro e w3 ⟨r, rfl, hc3, hb3, hk3⟩
    have HC3 := Lib.hid hc3
    have HB3 : Hid (Below w.heap.size w w3) := Lib.hid (HB1.out.trans hb3)
    clear hc3 hb3 hk3
    cases r with
    | false =>
      go_wp2
      go_ret
      exact ⟨_, rfl, by decide, HB3.out⟩
    | true =>
      go_wp2_with fail
      refine (spoilt_s w.heap.size _ w.heap.size _ _ _ HC3.out (by omega) (by decide) (by decide) (by decide)).mono ?_
      rintro e w4 ⟨y, rfl, hy, hc4, hb4, hk4⟩
      have hy2 : y.size ≤ 100 := Nat.le_trans hy (by decide)
      go_wp2
      go_ret
      exact ⟨_, rfl, hy2, HB3.out.trans hb4⟩
  · rw [inC_nat n hn]
    go_wp2_with fail
    refine (l2Bars_any n _ hn).mono ?_
    rintro e w3 ⟨rfl, rfl⟩
    have hbl : (ByteArray.mk (bars n 7).toArray).size ≤ 7 := by
      show (bars n 7).toArray.size ≤ 7
      simpa using bars_seven n hn
    generalize ByteArray.mk (bars n 7).toArray = s at hbl ⊢
    go_wp2_with fail
    refine (one_s w.heap.size _ w.heap.size 4 _ HC1.out (by omega) (by omega)).mono ?_
    rintro e w3 ⟨r, rfl, hc3, hb3, hk3⟩
    have HC3 := Lib.hid hc3
    have HB3 : Hid (Below w.heap.size w w3) := Lib.hid (HB1.out.trans hb3)
    clear hc3 hb3 hk3
    cases r with
    | false =>
      go_wp2
      go_ret
      exact ⟨_, rfl, by omega, HB3.out⟩
    | true =>
      go_wp2_with fail
      refine (spoilt_s w.heap.size _ w.heap.size s _ _ HC3.out (by omega) (by omega) (by decide) (by decide)).mono ?_
      rintro e w4 ⟨y, rfl, hy, hc4, hb4, hk4⟩
      have hy2 : y.size ≤ 100 := by omega
      go_wp2
      go_ret
      exact ⟨_, rfl, hy2, HB3.out.trans hb4⟩

end Go.Proofs.Ythgjghgkjhkbbaa
