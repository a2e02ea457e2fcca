/-
  Plain: the first digit of least cost among the digits of a set. No condition.
-/
import Derived.Test.YtfdhmijofpbkjaaLeastP
namespace Go.Proofs.Ytfdhmijofpbkjaa
open Go.RowKit
set_option linter.unusedVariables false


def intL (l : List Nat) : List Int := l.map (fun d : Nat => (d : Int))
theorem find_bits (s : Nat) (q : Nat → Bool) (k : Nat) (hk : k < 10) (hb : s.testBit k = true) (hq : q k = true) (hlo : ∀ d, d < k → s.testBit d = true → q d = false) : (bitsL s).find? q = some k := by
  unfold bitsL
  rw [List.find?_filter, List.find?_range_eq_some]
  refine ⟨by simp [hb, hq], List.mem_range.2 hk, fun j hj => ?_⟩
  cases h : s.testBit j with
  | false => simp
  | true => simp [hlo j hj h]
theorem find_none (s : Nat) (q : Nat → Bool) (hlo : ∀ d, d < 10 → s.testBit d = true → q d = false) : (bitsL s).find? q = none := by
  rw [List.find?_eq_none]
  intro d hd
  unfold bitsL at hd
  rw [List.mem_filter] at hd
  rw [hlo d (List.mem_range.1 hd.1) hd.2]
  decide

end Go.Proofs.Ytfdhmijofpbkjaa
