/-
  Plain functions: the step with the most changes, as the program and as the reference look for it: they find the same. No program in sight.
-/
import Derived.Test.YtpijpelmebaalaaCtrP
namespace Go.Proofs.Ytpijpelmebaalaa
open Go.RowKit
set_option linter.unusedVariables false


/-- One number more is looked at. -/
def mcStep (k : Nat) (s : Int × Int) (n : Nat) : Int × Int := if s.2 < (stepN k n : Int) ∨ ((stepN k n : Int) = s.2 ∧ (n : Int) < s.1) then ((n : Int), (stepN k n : Int)) else s
def mcRow (k : Nat) (f : Nat → Nat) : Nat → Int × Int → Int × Int
  | 0, s => s
  | d + 1, s => mcStep k (mcRow k f d s) (f d)
def mcAll (k : Nat) (f : Nat → Nat → Nat) : Nat → Int × Int → Int × Int
  | 0, s => s
  | p + 1, s => mcRow k (f p) 9 (mcAll k f p s)
def nI (p d : Nat) : Nat := (d + 1) * pw p - 1
def nS (k p d : Nat) : Nat := if p = k then pw k - 1 else d * pw p + pw p - 1
def mcEnd (k : Nat) (s : Int × Int) : Int × Int := if s.2 < (stepN k (pw k - 1) : Int) then (((pw k - 1 : Nat) : Int), (stepN k (pw k - 1) : Int)) else s
def mcI (k : Nat) : Int × Int := mcEnd k (mcAll k nI k (0, -1))
def mcS (k : Nat) : Int × Int := mcAll k (nS k) (k + 1) (-1, -1)
theorem mc_same : ∀ k, k < 7 → 1 ≤ k → mcI k = mcS k := by decide +kernel
def mcV (k : Int) : Int × Int × Bool := if 1 ≤ k ∧ k ≤ 6 then ((mcI k.toNat).1, (mcI k.toNat).2, true) else (0, 0, false)

end Go.Proofs.Ytpijpelmebaalaa
