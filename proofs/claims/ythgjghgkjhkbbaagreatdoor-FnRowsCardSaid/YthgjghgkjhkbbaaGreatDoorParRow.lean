/-
  The law FnExactParseRow returns true. Conditions: some number lies in the variable MaxLen of the library.
-/
import Derived.Test.YthgjghgkjhkbbaaGreatDoorParRowC
import Derived.Test.YthgjghgkjhkbbaaGreatDoorSl
import Derived.Test.YthgjghgkjhkbbaaGreatDoorRows
import Derived.Shelf.Vars
namespace Go.Proofs.YthgjghgkjhkbbaaGreatDoor
open Go.RowKit
set_option linter.unusedVariables false
set_option maxRecDepth 20000


theorem maxlen_keep {w w' : World} {m : Int} (h : w.cell? ⟨0, 0, none⟩ = some (.int .i64 m)) (hb : Below w.heap.size w w') : w'.cell? ⟨0, 0, none⟩ = some (.int .i64 m) :=
  (hb.cell (p := ⟨0, 0, none⟩) (World.block_lt_of_cell? w _ h)).trans h
set_option maxHeartbeats 1000000 in
theorem specParRow_any (s : ByteArray) (w : World) (hs : s.size ≤ 1048576) :
    Calls Tryz.prog 30 #[.string s] w fun e w' => ∃ u, e = .returned (.tuple #[u, .bool (prow s.data.toList).2]) ∧ Own w.heap.size w' u (prow s.data.toList).1 ∧ Below w.heap.size w w' := by
  have H := Lib.hid (specParseRow_any s w hs)
  generalize (prow s.data.toList).1 = rs at H ⊢
  generalize (prow s.data.toList).2 = r at H ⊢
  go_enter Tryz.func30, Tryz.ntmps30
  go_wp2_with ((go_at_call 62; refine H.out.mono ?_; rintro e w1 ⟨u, rfl, ho, hb⟩))
  go_ret2
  exact ⟨_, rfl, ho, hb⟩
end Go.Proofs.YthgjghgkjhkbbaaGreatDoor
