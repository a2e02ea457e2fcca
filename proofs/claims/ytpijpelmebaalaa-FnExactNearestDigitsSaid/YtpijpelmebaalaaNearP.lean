/-
  Plain functions: the nearest digits. No program in sight.
-/
import Derived.Test.YtpijpelmebaalaaTab
namespace Go.Proofs.Ytpijpelmebaalaa
open Go.RowKit
set_option linter.unusedVariables false


/-- One digit more is looked at. -/
def ndStep (D : Nat) (s : List Int × Nat) (d : Nat) : List Int × Nat :=
  if d = D ∨ s.2 < farT D d then s else if farT D d < s.2 then ([(d : Int)], farT D d) else (s.1 ++ [(d : Int)], s.2)
def ndF (D : Nat) : Nat → List Int × Nat
  | 0 => ([], 8)
  | d + 1 => ndStep D (ndF D d) d
theorem ndF_len (D : Nat) : ∀ d, (ndF D d).1.length ≤ d ∧ (ndF D d).2 ≤ 8
  | 0 => by simp [ndF]
  | d + 1 => by
    have h := ndF_len D d
    have h7 := farT_le D d
    unfold ndF ndStep
    split
    · omega
    · split
      · simp; omega
      · simp; omega
theorem ndF_skip (D d : Nat) (h : d = D ∨ (ndF D d).2 < farT D d) : ndF D (d + 1) = ndF D d := by
  show ndStep D (ndF D d) d = _
  unfold ndStep
  rw [if_pos h]
theorem ndF_new (D d : Nat) (h : ¬ d = D) (h1 : farT D d < (ndF D d).2) : ndF D (d + 1) = ([(d : Int)], farT D d) := by
  show ndStep D (ndF D d) d = _
  unfold ndStep
  rw [if_neg (by omega), if_pos h1]
theorem ndF_more (D d : Nat) (h : ¬ d = D) (h1 : (ndF D d).2 = farT D d) : ndF D (d + 1) = ((ndF D d).1 ++ [(d : Int)], (ndF D d).2) := by
  show ndStep D (ndF D d) d = _
  unfold ndStep
  rw [if_neg (by omega), if_neg (by omega)]
def rowA (D : Nat) : Array Value := #[.int .i64 (farT D 0 : Nat), .int .i64 (farT D 1 : Nat), .int .i64 (farT D 2 : Nat), .int .i64 (farT D 3 : Nat), .int .i64 (farT D 4 : Nat), .int .i64 (farT D 5 : Nat), .int .i64 (farT D 6 : Nat), .int .i64 (farT D 7 : Nat), .int .i64 (farT D 8 : Nat), .int .i64 (farT D 9 : Nat)]

end Go.Proofs.Ytpijpelmebaalaa
