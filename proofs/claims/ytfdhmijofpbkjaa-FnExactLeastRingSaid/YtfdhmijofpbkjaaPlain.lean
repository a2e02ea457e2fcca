/-
  Plain functions on numbers and texts: the bars of a cell, their count, a cell whose bars are exchanged, the digit cells. No program in sight.
-/
import Derived.WalkKit
namespace Go.Proofs.Ytfdhmijofpbkjaa
open Go.RowKit

/-- How many of the lowest k bits are 1. -/
def cnt (n : Nat) : Nat → Nat
  | 0 => 0
  | k + 1 => cnt n k + n / 2 ^ k % 2
theorem cnt_le (n : Nat) : ∀ k, cnt n k ≤ k
  | 0 => Nat.le_refl _
  | k + 1 => by have := cnt_le n k; have := Nat.mod_lt (n / 2 ^ k) (by decide : 0 < 2); simp only [cnt]; omega

/-- The letters of the lowest k bars that light. -/
def bars (n : Nat) : Nat → List UInt8
  | 0 => []
  | k + 1 => if n / 2 ^ k % 2 = 1 then bars n k ++ [UInt8.ofNat (97 + k)] else bars n k
theorem bars_len (n : Nat) : ∀ k, (bars n k).length ≤ k
  | 0 => Nat.le_refl _
  | k + 1 => by have := bars_len n k; simp only [bars]; split <;> simp <;> omega

/-- The cell whose bar k does what the bar f k has done, for the lowest k bars. -/
def mvFrom (f : Nat → Nat) (n : Nat) : Nat → Nat
  | 0 => 0
  | k + 1 => mvFrom f n k ||| n / 2 ^ f k % 2 * 2 ^ k
/-- The cell whose bar g k does what the bar k has done, for the lowest k bars. -/
def mvTo (g : Nat → Nat) (n : Nat) : Nat → Nat
  | 0 => 0
  | k + 1 => mvTo g n k ||| n / 2 ^ k % 2 * 2 ^ g k

def turnTab : List Nat := [3, 4, 5, 0, 1, 2, 6]
def mirTab : List Nat := [0, 5, 4, 3, 2, 1, 6]
def turnC (n : Nat) : Nat := mvFrom (turnTab.getD · 0) n 7
def mirC (n : Nat) : Nat := mvFrom (mirTab.getD · 0) n 7

/-- The digit cells. -/
def dig : List Int := [63, 6, 91, 79, 102, 109, 125, 7, 127, 111]

end Go.Proofs.Ytfdhmijofpbkjaa
