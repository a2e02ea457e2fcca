/-
  Contracts of the functions of cells, the program's and the reference's. No condition.
-/
import Derived.Test.YthgjghgkjhkbbaaBits
import Derived.Test.YthgjghgkjhkbbaaCount
import Derived.Test.YthgjghgkjhkbbaaDigit
import Derived.Test.YthgjghgkjhkbbaaDigC
import Derived.Test.YthgjghgkjhkbbaaMoved
import Derived.Test.YthgjghgkjhkbbaaBarC
import Derived.Test.YthgjghgkjhkbbaaParse
import Derived.Lib.Hide
namespace Go.Proofs.Ythgjghgkjhkbbaa
open Go.RowKit
set_option linter.unusedVariables false

def coR (d : Int) : Int × Bool := if 0 ≤ d ∧ d ≤ 9 then (dig.getD d.toNat 0, true) else (0, false)
def inC (c : Int) : Bool := decide (0 ≤ c ∧ c ≤ 127)
def tuR (c : Int) : Int × Bool := if inC c = true then ((turnFrom c.toNat 7 : Nat), true) else (0, false)
def miR (c : Int) : Int × Bool := if inC c = true then ((mirFrom c.toNat 7 : Nat), true) else (0, false)
def cbR (c : Int) : Int × Bool := if inC c = true then ((cnt c.toNat 7 : Nat), true) else (0, false)
def boR (c : Int) : ByteArray × Bool := if inC c = true then (⟨(bars c.toNat 7).toArray⟩, true) else (⟨#[]⟩, false)
def doR (c : Int) : Int × Bool := if 0 ≤ digOf c then (digOf c, true) else (0, false)
def faR (a b : Int) : Int × Bool := if inC a = true ∧ inC b = true then ((cnt (a.toNat ^^^ b.toNat) 7 : Nat), true) else (0, false)
theorem inC_nat (n : Nat) (h : n < 128) : inC (n : Int) = true := decide_eq_true (by omega)
theorem inC_lo (c : Int) (h : ¬ 0 ≤ c) : inC c = false := decide_eq_false (by omega)
theorem inC_hi (c : Int) (h : ¬ c ≤ 127) : inC c = false := decide_eq_false (by omega)
theorem implIsCell_any (c : Int) (w : World) :
    Calls Try.prog 33 #[.int .i64 c] w fun e w' => e = .returned (.bool (inC c)) ∧ w = w' := by
  by_cases h0 : 0 ≤ c
  · by_cases h1 : c ≤ 127
    · rw [show inC c = true from decide_eq_true ⟨h0, h1⟩]
      go_enter Try.func33, Try.ntmps33
      go_wp2
      go_ret
      exact ⟨rfl, rfl⟩
    · rw [inC_hi c h1]
      go_enter Try.func33, Try.ntmps33
      go_wp2
      go_ret
      exact ⟨rfl, rfl⟩
  · rw [inC_lo c h0]
    go_enter Try.func33, Try.ntmps33
    go_wp2
    go_ret
    exact ⟨rfl, rfl⟩

set_option maxHeartbeats 1000000 in
theorem implTurn_c (c : Int) (w : World) :
    Calls Try.prog 31 #[.int .i64 c] w fun e w' => e = .returned (.tuple #[.int .i64 (tuR c).1, .bool (tuR c).2]) ∧ Below w.heap.size w w' := by
  by_cases h0 : 0 ≤ c
  · by_cases h1 : c ≤ 127
    · obtain ⟨n, rfl⟩ := Int.eq_ofNat_of_zero_le h0
      have hn : n < 128 := by omega
      have H := Lib.hid (fun w => turned_any n w hn)
      unfold tuR
      rw [if_pos (inC_nat n hn), Int.toNat_natCast]
      go_enter Try.func31, Try.ntmps31
      go_wp2_with (first | (go_at_call 54; refine (H.out _).mono ?_; rintro e w1 ⟨rfl, hb1⟩) | go_in)
      go_ret2
      exact ⟨rfl, hb1⟩
    · unfold tuR
      rw [if_neg (by rw [inC_hi c h1]; decide)]
      go_enter Try.func31, Try.ntmps31
      go_wp2
      go_ret2
      exact ⟨rfl, Below.refl _ _⟩
  · unfold tuR
    rw [if_neg (by rw [inC_lo c h0]; decide)]
    go_enter Try.func31, Try.ntmps31
    go_wp2
    go_ret2
    exact ⟨rfl, Below.refl _ _⟩

set_option maxHeartbeats 1000000 in
theorem specTurn_c (c : Int) (w : World) :
    Calls Try.prog 32 #[.int .i64 c] w fun e w' => e = .returned (.tuple #[.int .i64 (tuR c).1, .bool (tuR c).2]) ∧ Below w.heap.size w w' := by
  by_cases h0 : 0 ≤ c
  · by_cases h1 : c ≤ 127
    · obtain ⟨n, rfl⟩ := Int.eq_ofNat_of_zero_le h0
      have hn : n < 128 := by omega
      have H := Lib.hid (fun w => l2Turn_any n w hn)
      unfold tuR
      rw [if_pos (inC_nat n hn), Int.toNat_natCast]
      go_enter Try.func32, Try.ntmps32
      go_wp2_with (first | (go_at_call 68; refine (H.out _).mono ?_; rintro e w1 ⟨rfl, hb1⟩) | go_in)
      go_ret2
      exact ⟨rfl, hb1⟩
    · unfold tuR
      rw [if_neg (by rw [inC_hi c h1]; decide)]
      go_enter Try.func32, Try.ntmps32
      go_wp2
      go_ret2
      exact ⟨rfl, Below.refl _ _⟩
  · unfold tuR
    rw [if_neg (by rw [inC_lo c h0]; decide)]
    go_enter Try.func32, Try.ntmps32
    go_wp2
    go_ret2
    exact ⟨rfl, Below.refl _ _⟩

set_option maxHeartbeats 1000000 in
theorem implMirror_c (c : Int) (w : World) :
    Calls Try.prog 34 #[.int .i64 c] w fun e w' => e = .returned (.tuple #[.int .i64 (miR c).1, .bool (miR c).2]) ∧ Below w.heap.size w w' := by
  by_cases h0 : 0 ≤ c
  · by_cases h1 : c ≤ 127
    · obtain ⟨n, rfl⟩ := Int.eq_ofNat_of_zero_le h0
      have hn : n < 128 := by omega
      have H := Lib.hid (fun w => mirrored_any n w hn)
      unfold miR
      rw [if_pos (inC_nat n hn), Int.toNat_natCast]
      go_enter Try.func34, Try.ntmps34
      go_wp2_with (first | (go_at_call 56; refine (H.out _).mono ?_; rintro e w1 ⟨rfl, hb1⟩) | go_in)
      go_ret2
      exact ⟨rfl, hb1⟩
    · unfold miR
      rw [if_neg (by rw [inC_hi c h1]; decide)]
      go_enter Try.func34, Try.ntmps34
      go_wp2
      go_ret2
      exact ⟨rfl, Below.refl _ _⟩
  · unfold miR
    rw [if_neg (by rw [inC_lo c h0]; decide)]
    go_enter Try.func34, Try.ntmps34
    go_wp2
    go_ret2
    exact ⟨rfl, Below.refl _ _⟩

set_option maxHeartbeats 1000000 in
theorem specMirror_c (c : Int) (w : World) :
    Calls Try.prog 35 #[.int .i64 c] w fun e w' => e = .returned (.tuple #[.int .i64 (miR c).1, .bool (miR c).2]) ∧ Below w.heap.size w w' := by
  by_cases h0 : 0 ≤ c
  · by_cases h1 : c ≤ 127
    · obtain ⟨n, rfl⟩ := Int.eq_ofNat_of_zero_le h0
      have hn : n < 128 := by omega
      have H := Lib.hid (fun w => l2Mirror_any n w hn)
      unfold miR
      rw [if_pos (inC_nat n hn), Int.toNat_natCast]
      go_enter Try.func35, Try.ntmps35
      go_wp2_with (first | (go_at_call 70; refine (H.out _).mono ?_; rintro e w1 ⟨rfl, hb1⟩) | go_in)
      go_ret2
      exact ⟨rfl, hb1⟩
    · unfold miR
      rw [if_neg (by rw [inC_hi c h1]; decide)]
      go_enter Try.func35, Try.ntmps35
      go_wp2
      go_ret2
      exact ⟨rfl, Below.refl _ _⟩
  · unfold miR
    rw [if_neg (by rw [inC_lo c h0]; decide)]
    go_enter Try.func35, Try.ntmps35
    go_wp2
    go_ret2
    exact ⟨rfl, Below.refl _ _⟩

set_option maxHeartbeats 1000000 in
theorem implCount_c (c : Int) (w : World) :
    Calls Try.prog 38 #[.int .i64 c] w fun e w' => e = .returned (.tuple #[.int .i64 (cbR c).1, .bool (cbR c).2]) ∧ Below w.heap.size w w' := by
  by_cases h0 : 0 ≤ c
  · by_cases h1 : c ≤ 127
    · obtain ⟨n, rfl⟩ := Int.eq_ofNat_of_zero_le h0
      have hn : n < 128 := by omega
      have H := Lib.hid (fun w => count_any n w hn)
      unfold cbR
      rw [if_pos (inC_nat n hn), Int.toNat_natCast]
      go_enter Try.func38, Try.ntmps38
      go_wp2_with (first | (go_at_call 58; refine (H.out _).mono ?_; rintro e w1 ⟨rfl, rfl⟩) | go_in)
      go_ret2
      exact ⟨rfl, Below.refl _ _⟩
    · unfold cbR
      rw [if_neg (by rw [inC_hi c h1]; decide)]
      go_enter Try.func38, Try.ntmps38
      go_wp2
      go_ret2
      exact ⟨rfl, Below.refl _ _⟩
  · unfold cbR
    rw [if_neg (by rw [inC_lo c h0]; decide)]
    go_enter Try.func38, Try.ntmps38
    go_wp2
    go_ret2
    exact ⟨rfl, Below.refl _ _⟩

set_option maxHeartbeats 1000000 in
theorem specCount_c (c : Int) (w : World) :
    Calls Try.prog 39 #[.int .i64 c] w fun e w' => e = .returned (.tuple #[.int .i64 (cbR c).1, .bool (cbR c).2]) ∧ Below w.heap.size w w' := by
  by_cases h0 : 0 ≤ c
  · by_cases h1 : c ≤ 127
    · obtain ⟨n, rfl⟩ := Int.eq_ofNat_of_zero_le h0
      have hn : n < 128 := by omega
      have H := Lib.hid (fun w => l2Count_any n w hn)
      unfold cbR
      rw [if_pos (inC_nat n hn), Int.toNat_natCast]
      go_enter Try.func39, Try.ntmps39
      go_wp2_with (first | (go_at_call 57; refine (H.out _).mono ?_; rintro e w1 ⟨rfl, rfl⟩) | go_in)
      go_ret2
      exact ⟨rfl, Below.refl _ _⟩
    · unfold cbR
      rw [if_neg (by rw [inC_hi c h1]; decide)]
      go_enter Try.func39, Try.ntmps39
      go_wp2
      go_ret2
      exact ⟨rfl, Below.refl _ _⟩
  · unfold cbR
    rw [if_neg (by rw [inC_lo c h0]; decide)]
    go_enter Try.func39, Try.ntmps39
    go_wp2
    go_ret2
    exact ⟨rfl, Below.refl _ _⟩

set_option maxHeartbeats 1000000 in
theorem implBars_c (c : Int) (w : World) :
    Calls Try.prog 40 #[.int .i64 c] w fun e w' => e = .returned (.tuple #[.string (boR c).1, .bool (boR c).2]) ∧ Below w.heap.size w w' := by
  by_cases h0 : 0 ≤ c
  · by_cases h1 : c ≤ 127
    · obtain ⟨n, rfl⟩ := Int.eq_ofNat_of_zero_le h0
      have hn : n < 128 := by omega
      have H := Lib.hid (fun w => barsOf_any n w hn)
      unfold boR
      rw [if_pos (inC_nat n hn), Int.toNat_natCast]
      go_enter Try.func40, Try.ntmps40
      go_wp2_with (first | (go_at_call 73; refine (H.out _).mono ?_; rintro e w1 ⟨rfl, rfl⟩) | go_in)
      go_ret2
      exact ⟨rfl, Below.refl _ _⟩
    · unfold boR
      rw [if_neg (by rw [inC_hi c h1]; decide)]
      go_enter Try.func40, Try.ntmps40
      go_wp2
      go_ret2
      exact ⟨rfl, Below.refl _ _⟩
  · unfold boR
    rw [if_neg (by rw [inC_lo c h0]; decide)]
    go_enter Try.func40, Try.ntmps40
    go_wp2
    go_ret2
    exact ⟨rfl, Below.refl _ _⟩

set_option maxHeartbeats 1000000 in
theorem specBars_c (c : Int) (w : World) :
    Calls Try.prog 41 #[.int .i64 c] w fun e w' => e = .returned (.tuple #[.string (boR c).1, .bool (boR c).2]) ∧ Below w.heap.size w w' := by
  by_cases h0 : 0 ≤ c
  · by_cases h1 : c ≤ 127
    · obtain ⟨n, rfl⟩ := Int.eq_ofNat_of_zero_le h0
      have hn : n < 128 := by omega
      have H := Lib.hid (fun w => l2Bars_any n w hn)
      unfold boR
      rw [if_pos (inC_nat n hn), Int.toNat_natCast]
      go_enter Try.func41, Try.ntmps41
      go_wp2_with (first | (go_at_call 74; refine (H.out _).mono ?_; rintro e w1 ⟨rfl, rfl⟩) | go_in)
      go_ret2
      exact ⟨rfl, Below.refl _ _⟩
    · unfold boR
      rw [if_neg (by rw [inC_hi c h1]; decide)]
      go_enter Try.func41, Try.ntmps41
      go_wp2
      go_ret2
      exact ⟨rfl, Below.refl _ _⟩
  · unfold boR
    rw [if_neg (by rw [inC_lo c h0]; decide)]
    go_enter Try.func41, Try.ntmps41
    go_wp2
    go_ret2
    exact ⟨rfl, Below.refl _ _⟩

set_option maxHeartbeats 1000000 in
theorem implCellOf_c (c : Int) (w : World) :
    Calls Try.prog 28 #[.int .i64 c] w fun e w' => e = .returned (.tuple #[.int .i64 (coR c).1, .bool (coR c).2]) ∧ Below w.heap.size w w' := by
  by_cases h0 : 0 ≤ c
  · by_cases h1 : c ≤ 9
    · obtain ⟨d, rfl⟩ := Int.eq_ofNat_of_zero_le h0
      have hd : d < 10 := by omega
      have hi := dig_at d hd
      have H := Lib.hid (fun w => digitCells_any w)
      unfold coR
      rw [if_pos ⟨h0, h1⟩, Int.toNat_natCast]
      go_enter Try.func28, Try.ntmps28
      go_wp2_with (first | (go_at_call 63; refine (H.out _).mono ?_; rintro e w1 ⟨rfl, hb1⟩) | go_in)
      go_ret2
      exact ⟨rfl, hb1⟩
    · unfold coR
      rw [if_neg (by omega)]
      go_enter Try.func28, Try.ntmps28
      go_wp2
      go_ret2
      exact ⟨rfl, Below.refl _ _⟩
  · unfold coR
    rw [if_neg (by omega)]
    go_enter Try.func28, Try.ntmps28
    go_wp2
    go_ret2
    exact ⟨rfl, Below.refl _ _⟩

set_option maxHeartbeats 1000000 in
theorem specCellOf_c (c : Int) (w : World) :
    Calls Try.prog 29 #[.int .i64 c] w fun e w' => e = .returned (.tuple #[.int .i64 (coR c).1, .bool (coR c).2]) ∧ Below w.heap.size w w' := by
  by_cases h0 : 0 ≤ c
  · by_cases h1 : c ≤ 9
    · obtain ⟨d, rfl⟩ := Int.eq_ofNat_of_zero_le h0
      have hd : d < 10 := by omega
      have H := Lib.hid (fun w => l2Digit_any d w hd)
      unfold coR
      rw [if_pos ⟨h0, h1⟩, Int.toNat_natCast]
      go_enter Try.func29, Try.ntmps29
      go_wp2_with (first | (go_at_call 65; refine (H.out _).mono ?_; rintro e w1 ⟨rfl, hb1⟩) | go_in)
      go_ret2
      exact ⟨rfl, hb1⟩
    · unfold coR
      rw [if_neg (by omega)]
      go_enter Try.func29, Try.ntmps29
      go_wp2
      go_ret2
      exact ⟨rfl, Below.refl _ _⟩
  · unfold coR
    rw [if_neg (by omega)]
    go_enter Try.func29, Try.ntmps29
    go_wp2
    go_ret2
    exact ⟨rfl, Below.refl _ _⟩

set_option maxHeartbeats 1000000 in
theorem implDigitOf_c (c : Int) (w : World) :
    Calls Try.prog 36 #[.int .i64 c] w fun e w' => e = .returned (.tuple #[.int .i64 (doR c).1, .bool (doR c).2]) ∧ Below w.heap.size w w' := by
  have hr := digOf_rng c
  have H := Lib.hid (fun w => digitOf_any c w)
  unfold doR
  generalize digOf c = d at hr H ⊢
  by_cases hd : 0 ≤ d
  · rw [if_pos hd]
    by_cases hp : 0 < d
    · go_enter Try.func36, Try.ntmps36
      go_wp2_with (first | (go_at_call 51; refine (H.out _).mono ?_; rintro e w1 ⟨rfl, hb1⟩) | go_in)
      go_ret2
      exact ⟨rfl, hb1⟩
    · obtain rfl : d = 0 := by omega
      go_enter Try.func36, Try.ntmps36
      go_wp2_with (first | (go_at_call 51; refine (H.out _).mono ?_; rintro e w1 ⟨rfl, hb1⟩) | go_in)
      go_ret2
      exact ⟨rfl, hb1⟩
  · rw [if_neg hd]
    obtain rfl : d = -1 := by omega
    go_enter Try.func36, Try.ntmps36
    go_wp2_with (first | (go_at_call 51; refine (H.out _).mono ?_; rintro e w1 ⟨rfl, hb1⟩) | go_in)
    go_ret2
    exact ⟨rfl, hb1⟩

set_option maxHeartbeats 1000000 in
theorem specDigitOf_c (c : Int) (w : World) :
    Calls Try.prog 37 #[.int .i64 c] w fun e w' => e = .returned (.tuple #[.int .i64 (doR c).1, .bool (doR c).2]) ∧ Below w.heap.size w w' := by
  have hr := digOf_rng c
  have H := Lib.hid (fun w => l2DigitOf_any c w)
  unfold doR
  generalize digOf c = d at hr H ⊢
  by_cases hd : 0 ≤ d
  · rw [if_pos hd]
    by_cases hp : 0 < d
    · go_enter Try.func37, Try.ntmps37
      go_wp2_with (first | (go_at_call 71; refine (H.out _).mono ?_; rintro e w1 ⟨rfl, hb1⟩) | go_in)
      go_ret2
      exact ⟨rfl, hb1⟩
    · obtain rfl : d = 0 := by omega
      go_enter Try.func37, Try.ntmps37
      go_wp2_with (first | (go_at_call 71; refine (H.out _).mono ?_; rintro e w1 ⟨rfl, hb1⟩) | go_in)
      go_ret2
      exact ⟨rfl, hb1⟩
  · rw [if_neg hd]
    obtain rfl : d = -1 := by omega
    go_enter Try.func37, Try.ntmps37
    go_wp2_with (first | (go_at_call 71; refine (H.out _).mono ?_; rintro e w1 ⟨rfl, hb1⟩) | go_in)
    go_ret2
    exact ⟨rfl, hb1⟩

set_option maxHeartbeats 1000000 in
theorem implFar_c (a b : Int) (w : World) :
    Calls Try.prog 46 #[.int .i64 a, .int .i64 b] w fun e w' => e = .returned (.tuple #[.int .i64 (faR a b).1, .bool (faR a b).2]) ∧ Below w.heap.size w w' := by
  by_cases h : (0 ≤ a ∧ a ≤ 127) ∧ (0 ≤ b ∧ b ≤ 127)
  · obtain ⟨⟨h0, h1⟩, h2, h3⟩ := h
    obtain ⟨n, rfl⟩ := Int.eq_ofNat_of_zero_le h0
    obtain ⟨m, rfl⟩ := Int.eq_ofNat_of_zero_le h2
    have hn : n ^^^ m < 128 := Nat.xor_lt_two_pow (n := 7) (by omega) (by omega)
    have hx : bits .xor .i64 (n : Int) (m : Int) = ((n ^^^ m : Nat) : Int) := i64_xor n m (by omega) (by omega)
    have H := Lib.hid (fun w => count_any _ w hn)
    unfold faR
    rw [if_pos ⟨inC_nat n (by omega), inC_nat m (by omega)⟩, Int.toNat_natCast, Int.toNat_natCast]
    go_enter Try.func46, Try.ntmps46
    go_wp2_with (first | (go_at_call 58; refine (H.out _).mono ?_; rintro e w1 ⟨rfl, rfl⟩) | go_in)
    go_ret2
    exact ⟨rfl, Below.refl _ _⟩
  · have e : faR a b = (0, false) := by
      unfold faR
      rw [if_neg]
      rintro ⟨p, q⟩
      exact h ⟨of_decide_eq_true p, of_decide_eq_true q⟩
    rw [e]
    clear e
    by_cases h0 : 0 ≤ a <;> by_cases h1 : a ≤ 127 <;> by_cases h2 : 0 ≤ b <;> by_cases h3 : b ≤ 127 <;> first | (exfalso; omega) | skip
    all_goals (go_enter Try.func46, Try.ntmps46)
    all_goals go_wp2
    all_goals go_ret2
    all_goals exact ⟨rfl, Below.refl _ _⟩

set_option maxHeartbeats 1000000 in
theorem specFar_c (a b : Int) (w : World) :
    Calls Try.prog 47 #[.int .i64 a, .int .i64 b] w fun e w' => e = .returned (.tuple #[.int .i64 (faR a b).1, .bool (faR a b).2]) ∧ Below w.heap.size w w' := by
  by_cases h : (0 ≤ a ∧ a ≤ 127) ∧ (0 ≤ b ∧ b ≤ 127)
  · obtain ⟨⟨h0, h1⟩, h2, h3⟩ := h
    obtain ⟨n, rfl⟩ := Int.eq_ofNat_of_zero_le h0
    obtain ⟨m, rfl⟩ := Int.eq_ofNat_of_zero_le h2
    have hn : n ^^^ m < 128 := Nat.xor_lt_two_pow (n := 7) (by omega) (by omega)
    have hx : bits .xor .i64 (n : Int) (m : Int) = ((n ^^^ m : Nat) : Int) := i64_xor n m (by omega) (by omega)
    have H := Lib.hid (fun w => l2Count_any _ w hn)
    unfold faR
    rw [if_pos ⟨inC_nat n (by omega), inC_nat m (by omega)⟩, Int.toNat_natCast, Int.toNat_natCast]
    go_enter Try.func47, Try.ntmps47
    go_wp2_with (first | (go_at_call 57; refine (H.out _).mono ?_; rintro e w1 ⟨rfl, rfl⟩) | go_in)
    go_ret2
    exact ⟨rfl, Below.refl _ _⟩
  · have e : faR a b = (0, false) := by
      unfold faR
      rw [if_neg]
      rintro ⟨p, q⟩
      exact h ⟨of_decide_eq_true p, of_decide_eq_true q⟩
    rw [e]
    clear e
    by_cases h0 : 0 ≤ a <;> by_cases h1 : a ≤ 127 <;> by_cases h2 : 0 ≤ b <;> by_cases h3 : b ≤ 127 <;> first | (exfalso; omega) | skip
    all_goals (go_enter Try.func47, Try.ntmps47)
    all_goals go_wp2
    all_goals go_ret2
    all_goals exact ⟨rfl, Below.refl _ _⟩

theorem implParse_c (s : ByteArray) (w : World) (hs : s.size ≤ 1048576) :
    Calls Try.prog 43 #[.string s] w fun e w' => e = .returned (.tuple #[.int .i64 (prs s.data.toList).1, .bool (prs s.data.toList).2]) ∧ Below w.heap.size w w' := by
  refine (implParse_any s w hs).mono ?_
  rintro e w' ⟨he, rfl⟩
  exact ⟨he, Below.refl _ _⟩
set_option maxHeartbeats 1000000 in
theorem specParse_c (s : ByteArray) (w : World) (hs : s.size ≤ 1048576) :
    Calls Try.prog 44 #[.string s] w fun e w' => e = .returned (.tuple #[.int .i64 (prs s.data.toList).1, .bool (prs s.data.toList).2]) ∧ Below w.heap.size w w' := by
  have H := Lib.hid (fun w => l2Parse_any s w hs)
  generalize (prs s.data.toList).1 = r1 at H ⊢
  generalize (prs s.data.toList).2 = r2 at H ⊢
  go_enter Try.func44, Try.ntmps44
  go_wp2_with (first | (go_at_call 79; refine (H.out _).mono ?_; rintro e w1 ⟨rfl, hb1⟩) | go_in)
  go_ret2
  exact ⟨rfl, hb1⟩

end Go.Proofs.Ythgjghgkjhkbbaa
