/-
  The bits of a cell (for seats without the text Moved, which says the same). No program in sight.
-/
import Derived.Test.YtpijpelmebaalaaBits
namespace Go.Proofs.Ytpijpelmebaalaa
open Go.RowKit
set_option linter.unusedVariables false


def bitN (n k : Nat) : Nat := n / 2 ^ k % 2
theorem bitN_lt (n k : Nat) : bitN n k < 2 := Nat.mod_lt _ (by decide)
theorem bit_and7 : ∀ n : Nat, n < 128 → ∀ k : Nat, k < 7 → bits .and .i64 ((n : Int) / 2 ^ k) 1 = (bitN n k : Int) := by decide +kernel

end Go.Proofs.Ytpijpelmebaalaa
