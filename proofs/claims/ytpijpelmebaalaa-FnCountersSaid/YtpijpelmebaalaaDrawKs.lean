/-
  Contracts of the draws of the law of counters. Condition: the code has at most 2^16 bytes.
-/
import Derived.Test.YtpijpelmebaalaaDrawK
import Derived.Test.YtpijpelmebaalaaCurN
namespace Go.Proofs.Ytpijpelmebaalaa
open Go.RowKit
set_option linter.unusedVariables false


theorem tenK (j : Nat) (h : j < 10) : j = 0 ∨ j = 1 ∨ j = 2 ∨ j = 3 ∨ j = 4 ∨ j = 5 ∨ j = 6 ∨ j = 7 ∨ j = 8 ∨ j = 9 := by omega
set_option maxHeartbeats 1000000 in
theorem drawRun_any (a : Option Addr) (len cap : Nat) (w : World) (hb : Bytes w.heap.size w a len) (hl : len ≤ 65536) :
    Calls Try.prog 44 #[.slice a len cap] w fun e w' => ∃ n s k : Int, e = .returned (.tuple #[.int .i64 n, .int .i64 s, .int .i64 k]) ∧ (-10 ≤ n ∧ n ≤ 1000000) ∧ (-1 ≤ s ∧ s ≤ 1001) ∧ (0 ≤ k ∧ k ≤ 7) ∧ Below w.heap.size w w' := by
  have HN := Lib.hid (cur_new w a len cap hb hl)
  clear hb
  go_enter Try.func44, Try.ntmps44
  go_wp2_with fail
  refine (among_s w.heap.size 0 w.heap.size (w.heap.size + 1) 10 (fun x => -1 ≤ x ∧ x ≤ 1001) _ (curS_keep HN.out ((Below.refl _ _).alloc (by simp) _)) (by omega) (by omega) (by omega) (by omega) (fun j hj => ?_)).mono ?_
  · rcases tenK j hj with rfl | rfl | rfl | rfl | rfl | rfl | rfl | rfl | rfl | rfl <;> exact ⟨_, by simp; rfl, by omega, by omega⟩
  rintro e w1 ⟨s, rfl, hs, hc1, hb1, hk1⟩
  have HB1 : Hid (Below w.heap.size w w1) := Lib.hid ((((Below.refl _ _).alloc (Nat.le_refl _) _).alloc (by simp) _).trans hb1)
  go_wp2_with fail
  refine (counter_s w.heap.size _ w.heap.size _ hc1 (by omega)).mono ?_
  rintro e w2 ⟨n, k, rfl, hn, hk0, hk7, hc2, hb2, hk2⟩
  go_wp2
  go_ret3
  exact ⟨_, _, _, rfl, hn, hs, ⟨hk0, hk7⟩, HB1.out.trans hb2⟩
set_option maxHeartbeats 1000000 in
theorem drawCtr_any (a : Option Addr) (len cap : Nat) (w : World) (hb : Bytes w.heap.size w a len) (hl : len ≤ 65536) :
    Calls Try.prog 79 #[.slice a len cap] w fun e w' => ∃ n k : Int, e = .returned (.tuple #[.int .i64 n, .int .i64 k]) ∧ (-10 ≤ n ∧ n ≤ 1000000) ∧ (0 ≤ k ∧ k ≤ 7) ∧ Below w.heap.size w w' := by
  have HN := Lib.hid (cur_new w a len cap hb hl)
  clear hb
  go_enter Try.func79, Try.ntmps79
  go_wp2_with fail
  refine (counter_s w.heap.size _ w.heap.size _ HN.out (by omega)).mono ?_
  rintro e w2 ⟨n, k, rfl, hn, hk0, hk7, hc2, hb2, hk2⟩
  go_wp2
  go_ret2
  exact ⟨_, _, rfl, hn, ⟨hk0, hk7⟩, ((Below.refl _ _).alloc (Nat.le_refl _) _).trans hb2⟩
set_option maxHeartbeats 1000000 in
theorem drawStep_any (a : Option Addr) (len cap : Nat) (w : World) (hb : Bytes w.heap.size w a len) (hl : len ≤ 65536) :
    Calls Try.prog 46 #[.slice a len cap] w fun e w' => ∃ n k : Int, e = .returned (.tuple #[.int .i64 n, .int .i64 k]) ∧ (-10 ≤ n ∧ n ≤ 1000000) ∧ (0 ≤ k ∧ k ≤ 7) ∧ Below w.heap.size w w' := by
  have H := Lib.hid (drawCtr_any a len cap w hb hl)
  clear hb
  go_enter Try.func46, Try.ntmps46
  go_wp2_with ((go_at_call 79; refine H.out.mono ?_; rintro e w1 ⟨n, k, rfl, hn, hk, hb1⟩))
  go_ret2
  exact ⟨_, _, rfl, hn, hk, hb1⟩
set_option maxHeartbeats 1000000 in
theorem drawMost_any (a : Option Addr) (len cap : Nat) (w : World) (hb : Bytes w.heap.size w a len) (hl : len ≤ 65536) :
    Calls Try.prog 48 #[.slice a len cap] w fun e w' => ∃ k : Int, e = .returned (.int .i64 k) ∧ (0 ≤ k ∧ k ≤ 7) ∧ Below w.heap.size w w' := by
  have HN := Lib.hid (cur_new w a len cap hb hl)
  clear hb
  go_enter Try.func48, Try.ntmps48
  go_wp2_with fail
  refine (pick_s w.heap.size _ w.heap.size 8 _ HN.out (by omega) (by omega)).mono ?_
  rintro e w2 ⟨r, rfl, p0, p1, p2, hc2, hb2, hk2⟩
  have hr := p1 (by omega)
  go_wp2
  go_ret
  exact ⟨_, rfl, ⟨p0, by omega⟩, ((Below.refl _ _).alloc (Nat.le_refl _) _).trans hb2⟩
set_option maxHeartbeats 1000000 in
theorem drawOver_any (a : Option Addr) (len cap : Nat) (w : World) (hb : Bytes w.heap.size w a len) (hl : len ≤ 65536) :
    Calls Try.prog 49 #[.slice a len cap] w fun e w' => ∃ n k c : Int, e = .returned (.tuple #[.int .i64 n, .int .i64 k, .int .i64 c]) ∧ (-10 ≤ n ∧ n ≤ 1000000) ∧ (0 ≤ k ∧ k ≤ 7) ∧ (-1 ≤ c ∧ c ≤ 4611686018427387904) ∧ Below w.heap.size w w' := by
  have HN := Lib.hid (cur_new w a len cap hb hl)
  clear hb
  go_enter Try.func49, Try.ntmps49
  go_wp2_with fail
  refine (among_s w.heap.size 0 w.heap.size (w.heap.size + 1) 10 (fun x => -1 ≤ x ∧ x ≤ 4611686018427387904) _ (curS_keep HN.out ((Below.refl _ _).alloc (by simp) _)) (by omega) (by omega) (by omega) (by omega) (fun j hj => ?_)).mono ?_
  · rcases tenK j hj with rfl | rfl | rfl | rfl | rfl | rfl | rfl | rfl | rfl | rfl <;> exact ⟨_, by simp; rfl, by omega, by omega⟩
  rintro e w1 ⟨s, rfl, hs, hc1, hb1, hk1⟩
  have HB1 : Hid (Below w.heap.size w w1) := Lib.hid ((((Below.refl _ _).alloc (Nat.le_refl _) _).alloc (by simp) _).trans hb1)
  go_wp2_with fail
  refine (counter_s w.heap.size _ w.heap.size _ hc1 (by omega)).mono ?_
  rintro e w2 ⟨n, k, rfl, hn, hk0, hk7, hc2, hb2, hk2⟩
  go_wp2
  go_ret3
  exact ⟨_, _, _, rfl, hn, ⟨hk0, hk7⟩, hs, HB1.out.trans hb2⟩

end Go.Proofs.Ytpijpelmebaalaa
