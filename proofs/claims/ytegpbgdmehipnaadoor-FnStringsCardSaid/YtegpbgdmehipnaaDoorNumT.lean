/-
  Contract: the text of a number (the reference). Condition: at most seven digits.
-/
import Derived.Test.YtegpbgdmehipnaaDoorBase
import Derived.Lib.ItoaNum
import Derived.Lib.Hide
import Derived.Deep.QuietTactic
import Derived.BigQuiet
namespace Go.Proofs.YtegpbgdmehipnaaDoor
open Go.RowKit
set_option linter.unusedVariables false


theorem dd_small (n : Nat) (h : n < 10) : Lib.decDigits n = [UInt8.ofNat (48 + n)] := by rw [Lib.decDigits, dif_pos h]
theorem dd_big (n : Nat) (h : ¬ n < 10) : Lib.decDigits n = Lib.decDigits (n / 10) ++ [UInt8.ofNat (48 + n % 10)] := by rw [Lib.decDigits, dif_neg h]
theorem dd_len (k : Nat) : ∀ n : Nat, n < 10 ^ (k + 1) → (Lib.decDigits n).length ≤ k + 1 := by
  induction k with
  | zero => intro n h; rw [dd_small n (by simpa using h)]; simp
  | succ k ih =>
    intro n h
    by_cases h10 : n < 10
    · rw [dd_small n h10]; simp
    · rw [dd_big n h10, List.length_append]
      have := ih (n / 10) (by rw [Nat.pow_succ] at h; omega)
      simp; omega
theorem tenN (d : Nat) (hd : d < 10) : d = 0 ∨ d = 1 ∨ d = 2 ∨ d = 3 ∨ d = 4 ∨ d = 5 ∨ d = 6 ∨ d = 7 ∨ d = 8 ∨ d = 9 := by omega
theorem dig_ext (d : Nat) (hd : d < 10) : (ByteArray.mk #[48, 49, 50, 51, 52, 53, 54, 55, 56, 57]).extract d (d + 1) = ByteArray.mk [UInt8.ofNat (48 + d)].toArray := by
  rcases tenN d hd with rfl | rfl | rfl | rfl | rfl | rfl | rfl | rfl | rfl | rfl <;> rfl

set_option maxHeartbeats 1000000 in
theorem l1NumP_any (k : Nat) (hk : k ≤ 6) : ∀ (n : Nat) (w : World), n < 10 ^ (k + 1) →
    Calls Tryd.prog 36 #[.int .i64 (n : Int)] w fun e w' => e = .returned (.string ⟨(Lib.decDigits n).toArray⟩) ∧ ∃ m, w' = w.drewN m := by
  induction k with
  | zero =>
    intro n w hn
    have hn10 : n < 10 := by simpa using hn
    have HE := Lib.hid (dig_ext n hn10)
    rw [dd_small n hn10]
    clear hn
    go_enter Tryd.func36, Tryd.ntmps36
    go_wp2_with fail
    go_ret
    exact ⟨by rw [← HE.out]; rfl, 0, rfl⟩
  | succ k ih =>
    intro n w hn
    by_cases hn10 : n < 10
    · have HE := Lib.hid (dig_ext n hn10)
      rw [dd_small n hn10]
      clear hn ih
      go_enter Tryd.func36, Tryd.ntmps36
      go_wp2_with fail
      go_ret
      exact ⟨by rw [← HE.out]; rfl, 0, rfl⟩
    · have hlt : n / 10 < 10 ^ (k + 1) := by rw [Nat.pow_succ] at hn; omega
      have HI := Lib.hid (fun w => ih (by omega) (n / 10) w hlt)
      have hl := dd_len k (n / 10) hlt
      have HE := Lib.hid (dig_ext (n % 10) (Nat.mod_lt _ (by decide)))
      have hb : n < 10000000 := Nat.lt_of_lt_of_le hn (Nat.pow_le_pow_right (by decide) (by omega : k + 1 + 1 ≤ 7))
      rw [dd_big n hn10]
      have hdv : (n : Int) / 10 = ((n / 10 : Nat) : Int) := by simp
      have hmd : (n : Int) % 10 = ((n % 10 : Nat) : Int) := by simp
      have hm10 : n % 10 < 10 := Nat.mod_lt _ (by decide)
      generalize Lib.decDigits (n / 10) = l at HI hl ⊢
      generalize n / 10 = q at HI hdv
      generalize n % 10 = r at HE hmd hm10 ⊢
      clear ih hn hlt
      go_enter Tryd.func36, Tryd.ntmps36
      have hr0 : (0 : Int) ≤ (r : Int) := by omega
      have hr9 : (r : Int) < 10 := by omega
      have hw1 : IntKind.i64.wrap ((r : Int) + 1) = (r : Int) + 1 := by rw [show (r : Int) + 1 = ((r + 1 : Nat) : Int) by simp, IntKind.wrap_i64]; omega
      have hw2 : ((r : Int) + 1).toNat = r + 1 := by omega
      have hr1 : (0 : Int) ≤ (r : Int) + 1 := by omega
      have hn0 : decide ((n : Int) < 0) = false := decide_eq_false (by omega)
      have hn1 : decide ((n : Int) < 10) = false := decide_eq_false (by omega)
      go_wp2
      go_quiet ((go_at_call 36; exact Calls.quiet_of (HI.out _)))
      go_wp2
      go_ret
      refine ⟨?_, _, rfl⟩
      have e1 : (ByteArray.mk l.toArray ++ (ByteArray.mk #[48, 49, 50, 51, 52, 53, 54, 55, 56, 57]).extract r (r + 1)) = ByteArray.mk (l ++ [UInt8.ofNat (48 + r)]).toArray := by
        rw [HE.out, ByteArray.mk_append_mk]
      rw [← e1]
      rfl

theorem wrapN (x : Int) (h0 : -9223372036854775808 ≤ x) (h1 : x ≤ 9223372036854775807) : IntKind.i64.wrap x = x := by rw [IntKind.wrap_i64]; omega
theorem tdivN (m : Nat) : (-(m : Int)).tdiv 10 = -((m / 10 : Nat) : Int) := by rw [Int.neg_tdiv]; rfl
theorem tmodN (m : Nat) : (-(m : Int)).tmod 10 = -((m % 10 : Nat) : Int) := by rw [Int.neg_tmod]; rfl

theorem belowQ (w : World) (q : Nat) : Below w.heap.size w (w.drewN q) := ⟨rfl, rfl, rfl, Nat.le_refl _, fun _ _ => rfl⟩
set_option maxHeartbeats 1000000 in
theorem l1NumN_any (k : Nat) (hk : k ≤ 6) : ∀ (m : Nat) (w : World), 1 ≤ m → m < 10 ^ (k + 1) →
    Calls Tryd.prog 36 #[.int .i64 (-(m : Int))] w fun e w' => e = .returned (.string ⟨(45 :: Lib.decDigits m).toArray⟩) ∧ Below w.heap.size w w' := by
  have small : ∀ (m : Nat) (w : World), 1 ≤ m → m < 10 → Calls Tryd.prog 36 #[.int .i64 (-(m : Int))] w fun e w' => e = .returned (.string ⟨(45 :: Lib.decDigits m).toArray⟩) ∧ Below w.heap.size w w' := by
    intro m w h1 h10
    have HI := Lib.hid (fun w => l1NumP_any 0 (by omega) m w (by simpa using h10))
    have hd := dd_small m h10
    have HS : Hid ((Lib.decDigits m).length = 1) := Lib.hid (by rw [hd]; rfl)
    obtain ⟨l, hl⟩ : ∃ l, Lib.decDigits m = l := ⟨_, rfl⟩
    rw [hl] at HI HS ⊢
    have hsz : l.length ≤ 7 := by rw [HS.out]; omega
    have hn0 : decide (-(m : Int) < 0) = true := decide_eq_true (by omega)
    have hn1 : decide (-10 < -(m : Int)) = true := decide_eq_true (by omega)
    clear hl hd
    go_enter Tryd.func36, Tryd.ntmps36
    go_wp2_with ((go_at_call 36; refine (HI.out _).mono ?_; rintro e w1 ⟨rfl, q, rfl⟩))
    go_ret
    refine ⟨?_, belowQ _ _⟩
    have e1 : (ByteArray.mk #[45] ++ ByteArray.mk l.toArray) = ByteArray.mk (45 :: l).toArray := by
      rw [show ByteArray.mk #[45] = ByteArray.mk [45].toArray from rfl, ByteArray.mk_append_mk]; rfl
    rw [← e1]
    rfl
  induction k with
  | zero => intro m w h1 h; exact small m w h1 (by simpa using h)
  | succ k ih =>
    intro m w h1 hm
    by_cases h10 : m < 10
    · exact small m w h1 h10
    · have hlt : m / 10 < 10 ^ (k + 1) := by rw [Nat.pow_succ] at hm; omega
      have HI := Lib.hid (fun w => ih (by omega) (m / 10) w (by omega) hlt)
      have HJ := Lib.hid (fun w => l1NumP_any 0 (by omega) (m % 10) w (by have := Nat.mod_lt m (by decide : 0 < 10); simpa using this))
      have hl := dd_len k (m / 10) hlt
      have hb : m < 10000000 := Nat.lt_of_lt_of_le hm (Nat.pow_le_pow_right (by decide) (by omega : k + 1 + 1 ≤ 7))
      rw [dd_big m h10]
      rw [dd_small (m % 10) (Nat.mod_lt _ (by decide))] at HJ
      have hdv := tdivN m
      have hmd := tmodN m
      have hm10 : m % 10 < 10 := Nat.mod_lt _ (by decide)
      have hq1 : 1 ≤ m / 10 := by omega
      have hq2 : m / 10 < 1000000 := by omega
      generalize Lib.decDigits (m / 10) = l at HI hl ⊢
      generalize m / 10 = q at HI hdv hq1 hq2
      generalize m % 10 = r at HJ hmd hm10 ⊢
      have hwq : IntKind.i64.wrap (-(q : Int)) = -(q : Int) := wrapN _ (by omega) (by omega)
      have hwr : IntKind.i64.wrap (-(r : Int)) = -(r : Int) := wrapN _ (by omega) (by omega)
      have hwr2 : IntKind.i64.wrap (r : Int) = (r : Int) := wrapN _ (by omega) (by omega)
      have hn0 : decide (-(m : Int) < 0) = true := decide_eq_true (by omega)
      have hn1 : decide (-10 < -(m : Int)) = false := decide_eq_false (by omega)
      have HF : Hid (ByteArray.mk (45 :: l).toArray ++ ByteArray.mk [UInt8.ofNat (48 + r)].toArray = ByteArray.mk (45 :: (l ++ [UInt8.ofNat (48 + r)])).toArray) := Lib.hid (by rw [ByteArray.mk_append_mk]; rfl)
      generalize UInt8.ofNat (48 + r) = b at HJ HF ⊢
      clear ih hm hlt small
      go_enter Tryd.func36, Tryd.ntmps36
      go_wp2_with fail
      refine (HI.out _).mono ?_
      rintro e w1 ⟨rfl, hb1⟩
      go_wp2_with fail
      refine (HJ.out _).mono ?_
      rintro e w2 ⟨rfl, q2, rfl⟩
      go_wp2
      go_ret
      exact ⟨by rw [← HF.out]; rfl, bt hb1 (belowQ _ _)⟩

end Go.Proofs.YtegpbgdmehipnaaDoor
