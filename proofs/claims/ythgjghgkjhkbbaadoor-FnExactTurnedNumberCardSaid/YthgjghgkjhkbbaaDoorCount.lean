/-
  Contracts of the functions that count the bars of a cell (the reference's and the program's). Condition: the argument is a cell.
-/
import Derived.Test.YthgjghgkjhkbbaaDoorBase
import Derived.Test.YthgjghgkjhkbbaaDoorPlain
namespace Go.Proofs.YthgjghgkjhkbbaaDoor
open Go.RowKit
set_option linter.unusedVariables false

theorem bit_and : ∀ n : Nat, n < 128 → ∀ k : Nat, k < 7 → bits .and .i64 ((n : Int) / 2 ^ k) 1 = ((n / 2 ^ k % 2 : Nat) : Int) := by decide +kernel

def o1 (n : Nat) : Nat := (n / 2 &&& 6148914691236517205) + (n &&& 6148914691236517205)
def o2 (n : Nat) : Nat := (o1 n / 4 &&& 3689348814741910323) + (o1 n &&& 3689348814741910323)
theorem e1 : ∀ n : Nat, n < 128 → IntKind.u64.wrap (bits .and .u64 ((n : Int) / 2) 6148914691236517205 + bits .and .u64 (n : Int) 6148914691236517205) = (o1 n : Int) := by decide +kernel
theorem e2 : ∀ n : Nat, n < 128 → IntKind.u64.wrap (bits .and .u64 ((o1 n : Int) / 4) 3689348814741910323 + bits .and .u64 (o1 n : Int) 3689348814741910323) = (o2 n : Int) := by decide +kernel
theorem e3 : ∀ n : Nat, n < 128 → bits .and .u64 (IntKind.u64.wrap ((o2 n : Int) / 16 + (o2 n : Int))) 1085102592571150095 = (cnt n 7 : Int) := by decide +kernel
theorem e4 : ∀ n : Nat, n < 128 → IntKind.u64.wrap ((cnt n 7 : Int) + (cnt n 7 : Int) / 256) = (cnt n 7 : Int) := by decide +kernel
theorem e5 : ∀ n : Nat, n < 128 → IntKind.u64.wrap ((cnt n 7 : Int) + (cnt n 7 : Int) / 65536) = (cnt n 7 : Int) := by decide +kernel
theorem e6 : ∀ n : Nat, n < 128 → IntKind.u64.wrap ((cnt n 7 : Int) + (cnt n 7 : Int) / 4294967296) = (cnt n 7 : Int) := by decide +kernel
theorem e7 : ∀ n : Nat, n < 128 → wrap64 (cnt n 7 : Int) = (cnt n 7 : Int) := by decide +kernel
theorem e8 : ∀ n : Nat, n < 128 → bits .and .i64 (cnt n 7 : Int) 127 = (cnt n 7 : Int) := by decide +kernel

end Go.Proofs.YthgjghgkjhkbbaaDoor
