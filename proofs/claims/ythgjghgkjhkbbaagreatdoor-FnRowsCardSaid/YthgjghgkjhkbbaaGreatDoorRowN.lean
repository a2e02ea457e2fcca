/-
  The digits of a number and its row: plain functions, no program in sight.
-/
import Derived.Test.YthgjghgkjhkbbaaGreatDoorCtrP
import Derived.Lib.ItoaNum
namespace Go.Proofs.YthgjghgkjhkbbaaGreatDoor
open Go.RowKit
set_option linter.unusedVariables false
set_option maxRecDepth 20000


theorem cRow_snoc (n : Nat) : ∀ j, cRow n (j + 1) = cRow (n / 10) j ++ [dg (n % 10)]
  | 0 => by simp [cRow, pw]
  | j + 1 => by
    rw [cRow, cRow_snoc n j]
    have e : n / pw (j + 1) = n / 10 / pw j := by
      rw [Nat.div_div_eq_div_mul]; rfl
    rw [e]
    rfl
theorem nd_small (n : Nat) (h : n < 10) : nd n = 1 := by unfold nd; rw [if_pos h]
theorem nd_big (n : Nat) (h : ¬ n < 10) (h6 : n < 1000000) : nd n = nd (n / 10) + 1 := by
  unfold nd
  rw [if_neg h]
  repeat' split
  all_goals omega
theorem dec_small (n : Nat) (h : n < 10) : Lib.decDigits n = [UInt8.ofNat (48 + n)] := by rw [Lib.decDigits, dif_pos h]
theorem dec_big (n : Nat) (h : ¬ n < 10) : Lib.decDigits n = Lib.decDigits (n / 10) ++ [UInt8.ofNat (48 + n % 10)] := by rw [Lib.decDigits, dif_neg h]
def digC (b : UInt8) : Int := dg (b.toNat - 48)
theorem digC_of (d : Nat) (h : d < 10) : digC (UInt8.ofNat (48 + d)) = dg d := by
  rcases ten d h with rfl | rfl | rfl | rfl | rfl | rfl | rfl | rfl | rfl | rfl <;> rfl
theorem dec_row (n : Nat) (h : n < 1000000) : (Lib.decDigits n).map digC = cRow n (nd n) := by
  induction n using Nat.strongRecOn with
  | _ n ih =>
    by_cases h10 : n < 10
    · rw [dec_small n h10, nd_small n h10]
      simp only [List.map_cons, List.map_nil, digC_of n h10, cRow, pw, Nat.div_one, Nat.mod_eq_of_lt h10]
    · rw [dec_big n h10, nd_big n h10 h, cRow_snoc, List.map_append, ih (n / 10) (by omega) (by omega)]
      simp only [List.map_cons, List.map_nil, digC_of _ (Nat.mod_lt n (by decide : 0 < 10))]
theorem dec_rng (n : Nat) : ∀ b ∈ Lib.decDigits n, 48 ≤ b.toNat ∧ b.toNat ≤ 57 := by
  induction n using Nat.strongRecOn with
  | _ n ih =>
    by_cases h10 : n < 10
    · rw [dec_small n h10]
      intro b hb
      simp at hb
      subst hb
      rcases ten n h10 with rfl | rfl | rfl | rfl | rfl | rfl | rfl | rfl | rfl | rfl <;> decide
    · rw [dec_big n h10]
      intro b hb
      rw [List.mem_append] at hb
      rcases hb with hb | hb
      · exact ih (n / 10) (by omega) b hb
      · simp at hb
        subst hb
        rcases ten (n % 10) (Nat.mod_lt _ (by decide)) with e | e | e | e | e | e | e | e | e | e <;> rw [e] <;> decide
theorem dec_len (n : Nat) (h : n < 1000000) : (Lib.decDigits n).length = nd n := by
  have := congrArg List.length (dec_row n h)
  rw [List.length_map, cRow_len] at this
  exact this

end Go.Proofs.YthgjghgkjhkbbaaGreatDoor
