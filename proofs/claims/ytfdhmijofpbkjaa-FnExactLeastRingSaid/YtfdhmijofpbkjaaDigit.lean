/-
  Contracts of the digit cells (one digit's cell, in the reference and in the program). Condition: a digit.
-/
import Derived.Test.YtfdhmijofpbkjaaBase
import Derived.Test.YtfdhmijofpbkjaaPlain
import Derived.Handy
namespace Go.Proofs.Ytfdhmijofpbkjaa
open Go.RowKit
set_option linter.unusedVariables false

theorem ten (d : Nat) (hd : d < 10) : d = 0 ∨ d = 1 ∨ d = 2 ∨ d = 3 ∨ d = 4 ∨ d = 5 ∨ d = 6 ∨ d = 7 ∨ d = 8 ∨ d = 9 := by omega
theorem dig_cell (d : Nat) (hd : d < 10) (w : World) (t : TypeId) : (w.alloc (.cells #[.int .i64 63, .int .i64 6, .int .i64 91, .int .i64 79, .int .i64 102, .int .i64 109, .int .i64 125, .int .i64 7, .int .i64 127, .int .i64 111] t)).cell? ⟨w.heap.size, d, none⟩ = some (.int .i64 (dig.getD d 0)) := by
  rw [World.cell?_alloc_at _ _ _ _ rfl]
  rcases ten d hd with rfl | rfl | rfl | rfl | rfl | rfl | rfl | rfl | rfl | rfl <;> rfl
set_option maxRecDepth 20000 in
theorem dig_at (d : Nat) (hd : d < 10) : ∀ w : World, (Instr.index 38 (.agg #[.int .i64 63, .int .i64 6, .int .i64 91, .int .i64 79, .int .i64 102, .int .i64 109, .int .i64 125, .int .i64 7, .int .i64 127, .int .i64 111]) (.int .i64 (d : Int))).run Try.prog w = .ok (.int .i64 (dig.getD d 0)) w := by
  rcases ten d hd with rfl | rfl | rfl | rfl | rfl | rfl | rfl | rfl | rfl | rfl <;> exact fun _ => by kernel_rfl

set_option maxHeartbeats 1000000 in
theorem l2Digit_any (d : Nat) (w : World) (hd : d < 10) :
    Calls Try.prog 28 #[.int .i64 (d : Int)] w fun e w' => e = .returned (.int .i64 (dig.getD d 0)) ∧ Below w.heap.size w w' := by
  have hc := dig_cell d hd w 3
  go_enter Try.func28, Try.ntmps28
  go_wp2
  go_ret
  exact ⟨rfl, (Below.refl _ _).alloc (Nat.le_refl _) _⟩

theorem digitCells_any (w : World) :
    Calls Try.prog 34 #[] w fun e w' => e = .returned (.agg #[.int .i64 63, .int .i64 6, .int .i64 91, .int .i64 79, .int .i64 102, .int .i64 109, .int .i64 125, .int .i64 7, .int .i64 127, .int .i64 111]) ∧ Below w.heap.size w w' := by
  go_enter Try.func34, Try.ntmps34
  go_wp2
  go_returns
  exact ⟨rfl, (Below.refl _ _).alloc (Nat.le_refl _) _⟩


end Go.Proofs.Ytfdhmijofpbkjaa
