/-
  Contracts of the functions that count the bars of a cell (the reference's and the program's). Condition: the argument is a cell.
-/
import Derived.Test.YtfdhmijofpbkjaaBase
import Derived.Test.YtfdhmijofpbkjaaPlain
namespace Go.Proofs.Ytfdhmijofpbkjaa
open Go.RowKit
set_option linter.unusedVariables false

theorem bit_and : ∀ n : Nat, n < 128 → ∀ k : Nat, k < 7 → bits .and .i64 ((n : Int) / 2 ^ k) 1 = ((n / 2 ^ k % 2 : Nat) : Int) := by decide +kernel

set_option maxHeartbeats 400000 in
theorem l2Count_any (n : Nat) (w : World) (hn : n < 128) :
    Calls Try.prog 38 #[.int .i64 (n : Int)] w fun e w' => e = .returned (.int .i64 (cnt n 7 : Nat)) ∧ w = w' := by
  go_enter Try.func38, Try.ntmps38
  go_wp2
  go_loop [3, 4] (fun m i => ∃ k : Nat, k ≤ 7 ∧ i = .int .i64 k ∧ m = .int .i64 (cnt n k : Nat)) (fun _ i => 7 - (intOf i).toNat)
  case atStart => exact ⟨0, by omega, rfl, rfl⟩
  case round =>
    obtain ⟨k, hk, rfl, rfl⟩ := hrel
    have hc := cnt_le n k
    by_cases hlt : k < 7
    · have hb := bit_and n hn k hlt
      have hm := Nat.mod_lt (n / 2 ^ k) (by decide : 0 < 2)
      go_wp2
      go_round
      case rel => exact ⟨k + 1, by omega, by go_num, by simp only [cnt]; go_num⟩
      case measure => simp [intOf]; omega
    · obtain rfl : k = 7 := by omega
      go_wp2
      go_ret
      exact ⟨rfl, rfl⟩

def o1 (n : Nat) : Nat := (n / 2 &&& 6148914691236517205) + (n &&& 6148914691236517205)
def o2 (n : Nat) : Nat := (o1 n / 4 &&& 3689348814741910323) + (o1 n &&& 3689348814741910323)
theorem e1 : ∀ n : Nat, n < 128 → IntKind.u64.wrap (bits .and .u64 ((n : Int) / 2) 6148914691236517205 + bits .and .u64 (n : Int) 6148914691236517205) = (o1 n : Int) := by decide +kernel
theorem e2 : ∀ n : Nat, n < 128 → IntKind.u64.wrap (bits .and .u64 ((o1 n : Int) / 4) 3689348814741910323 + bits .and .u64 (o1 n : Int) 3689348814741910323) = (o2 n : Int) := by decide +kernel
theorem e3 : ∀ n : Nat, n < 128 → bits .and .u64 (IntKind.u64.wrap ((o2 n : Int) / 16 + (o2 n : Int))) 1085102592571150095 = (cnt n 7 : Int) := by decide +kernel
theorem e4 : ∀ n : Nat, n < 128 → IntKind.u64.wrap ((cnt n 7 : Int) + (cnt n 7 : Int) / 256) = (cnt n 7 : Int) := by decide +kernel
theorem e5 : ∀ n : Nat, n < 128 → IntKind.u64.wrap ((cnt n 7 : Int) + (cnt n 7 : Int) / 65536) = (cnt n 7 : Int) := by decide +kernel
theorem e6 : ∀ n : Nat, n < 128 → IntKind.u64.wrap ((cnt n 7 : Int) + (cnt n 7 : Int) / 4294967296) = (cnt n 7 : Int) := by decide +kernel
theorem e7 : ∀ n : Nat, n < 128 → wrap64 (cnt n 7 : Int) = (cnt n 7 : Int) := by decide +kernel
theorem e8 : ∀ n : Nat, n < 128 → bits .and .i64 (cnt n 7 : Int) 127 = (cnt n 7 : Int) := by decide +kernel

set_option maxHeartbeats 400000 in
theorem count_any (n : Nat) (w : World) (hn : n < 128) :
    Calls Try.prog 35 #[.int .i64 (n : Int)] w fun e w' => e = .returned (.int .i64 (cnt n 7 : Nat)) ∧ w = w' := by
  have h1 := e1 n hn
  have h2 := e2 n hn
  have h3 := e3 n hn
  have h4 := e4 n hn
  have h5 := e5 n hn
  have h6 := e6 n hn
  have h7 := e7 n hn
  have h8 := e8 n hn
  go_enter Try.func35, Try.ntmps35
  go_wp2
  go_ret
  exact ⟨rfl, rfl⟩

end Go.Proofs.Ytfdhmijofpbkjaa
