/-
  Plain: the number of the row of a number. No condition.
-/
import Derived.Test.YthgjghgkjhkbbaaGreatDoorCtrP
import Derived.Test.YthgjghgkjhkbbaaGreatDoorNum
namespace Go.Proofs.YthgjghgkjhkbbaaGreatDoor
open Go.RowKit
set_option linter.unusedVariables false
set_option maxRecDepth 20000


theorem pw_succ (j : Nat) : pw (j + 1) = 10 * pw j := by simp [pw] <;> omega
theorem pw_add (i : Nat) : ∀ j, pw (i + j) = pw i * pw j
  | 0 => by simp [pw]
  | j + 1 => by rw [← Nat.add_assoc, pw_succ, pw_succ, pw_add i j, Nat.mul_left_comm]
theorem dig_mod (m K i : Nat) (h : i < K) : m % pw K / pw i % 10 = m / pw i % 10 := by
  obtain ⟨t, rfl⟩ : ∃ t, K = i + (t + 1) := ⟨K - i - 1, by omega⟩
  rw [pw_add, Nat.mod_mul_right_div_self, pw_succ, Nat.mod_mul_right_mod]
theorem cRow_mod (m K : Nat) : ∀ k, k ≤ K → cRow (m % pw K) k = cRow m k
  | 0, _ => rfl
  | k + 1, h => by rw [cRow, cRow, cRow_mod m K k (by omega), dig_mod m K k (by omega)]
theorem digOf_dg (d : Nat) (h : d < 10) : digOf (dg d) = (d : Int) := digOf_hit _ d h rfl
theorem numF_row (n : Nat) : ∀ (k : Nat) (a : Int), numF a (cRow n k) = (a * (pw k : Int) + ((n % pw k : Nat) : Int), true)
  | 0, a => by simp [numF, cRow, pw, Nat.mod_one]
  | k + 1, a => by
    have hd : n / pw k % 10 < 10 := Nat.mod_lt _ (by decide)
    rw [cRow, numF, digOf_dg _ hd, if_neg (by omega), numF_row n k]
    have h1 : n % pw (k + 1) = n % pw k + pw k * (n / pw k % 10) := by rw [pw_succ, Nat.mul_comm, Nat.mod_mul]
    rw [h1, pw_succ]
    generalize n / pw k % 10 = d
    generalize n % pw k = r
    generalize pw k = p
    refine Prod.ext ?_ rfl
    show (10 * a + (d : Int)) * (p : Int) + (r : Int) = a * ((10 * p : Nat) : Int) + ((r + p * d : Nat) : Int)
    have e1 : ((10 * p : Nat) : Int) = 10 * (p : Int) := by omega
    have e2 : ((r + p * d : Nat) : Int) = (r : Int) + (p : Int) * (d : Int) := by rw [Int.natCast_add, Int.natCast_mul]
    rw [e1, e2, Int.add_mul, Int.mul_comm (d : Int) (p : Int), ← Int.mul_assoc a 10, Int.mul_comm a 10]
    omega

end Go.Proofs.YthgjghgkjhkbbaaGreatDoor
