/-
  Contracts: powers of ten, is it a counter (the reference and the program). No condition.
-/
import Derived.Test.YtfdhmijofpbkjaaCtrP
namespace Go.Proofs.Ytfdhmijofpbkjaa
open Go.RowKit
set_option linter.unusedVariables false


theorem ctr_no1 {n k : Int} (h : ¬ 1 ≤ k) : isCtr n k = false := decide_eq_false (by omega)
theorem ctr_no2 {n k : Int} (h : ¬ k ≤ 6) : isCtr n k = false := decide_eq_false (by omega)
theorem ctr_no3 {n k : Int} (h : ¬ 0 ≤ n) : isCtr n k = false := decide_eq_false (by omega)
theorem ctr_no4 {n : Int} {j p : Nat} (hp : pw j = p) (h : ¬ n ≤ (p : Int) - 1) : isCtr n j = false := decide_eq_false (by rw [Int.toNat_natCast, hp]; omega)
theorem ctr_yes {n : Int} {j p : Nat} (hp : pw j = p) (h1 : 1 ≤ j) (h6 : j ≤ 6) (h0 : 0 ≤ n) (h : n ≤ (p : Int) - 1) : isCtr n j = true := decide_eq_true (by rw [Int.toNat_natCast, hp]; omega)

end Go.Proofs.Ytfdhmijofpbkjaa
