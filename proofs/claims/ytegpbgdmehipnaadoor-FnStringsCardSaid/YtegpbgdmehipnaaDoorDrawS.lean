/-
  Contracts of the draws of texts: to split, to compare. Condition: the code has at most 2^16 bytes.
-/
import Derived.Test.YtegpbgdmehipnaaDoorCurO
import Derived.Test.YtegpbgdmehipnaaDoorCurN
namespace Go.Proofs.YtegpbgdmehipnaaDoor
open Go.RowKit
set_option linter.unusedVariables false


set_option maxHeartbeats 2000000 in
theorem drawSplit_any (a : Option Addr) (len cap : Nat) (w : World) (hb : Bytes w.heap.size w a len) (hl : len ≤ 65536) :
    Calls Tryd.prog 28 #[.slice a len cap] w fun e w' => ∃ s sep : ByteArray, e = .returned (.tuple #[.string s, .string sep]) ∧ s.size ≤ 100 ∧ sep.size ≤ 100 ∧ Below w.heap.size w w' := by
  have HN := Lib.hid (cur_new w a len cap hb hl)
  clear hb
  go_enter Tryd.func28, Tryd.ntmps28
  go_wp2_with fail
  refine (any1_s w.heap.size 0 w.heap.size _ HN.out (by omega)).mono ?_
  rintro e w1 ⟨x, rfl, hx, hc1, hb1, hk1⟩
  have hg1 := curS_lt hc1
  go_wp2_with fail
  refine (of_s w.heap.size 2 w.heap.size 100 w1.heap.size 5 _ (curS_keep hc1 ((Below.refl _ _).alloc (Nat.le_refl _) _)) (by omega) (by omega) (by omega) (by omega) (fun j hj => ?_)).mono ?_
  · rcases five j hj with rfl | rfl | rfl | rfl | rfl <;> exact ⟨_, by simp; rfl, by decide⟩
  rintro e w2 ⟨y, rfl, hy, hc2, hb2, hk2⟩
  go_wp2
  go_ret2
  exact ⟨x, y, rfl, hx, hy, ((((Below.refl _ _).alloc (Nat.le_refl _) _).trans hb1).alloc (by omega) _).trans hb2⟩

set_option maxHeartbeats 2000000 in
theorem drawLess_any (a : Option Addr) (len cap : Nat) (w : World) (hb : Bytes w.heap.size w a len) (hl : len ≤ 65536) :
    Calls Tryd.prog 32 #[.slice a len cap] w fun e w' => ∃ s t : ByteArray, e = .returned (.tuple #[.string s, .string t]) ∧ s.size ≤ 100 ∧ t.size ≤ 100 ∧ Below w.heap.size w w' := by
  have HN := Lib.hid (cur_new w a len cap hb hl)
  clear hb
  go_enter Tryd.func32, Tryd.ntmps32
  go_wp2_with fail
  refine (any1_s w.heap.size 0 w.heap.size _ HN.out (by omega)).mono ?_
  rintro e w1 ⟨x, rfl, hx, hc1, hb1, hk1⟩
  go_wp2_with fail
  refine (any1_s w.heap.size 2 w.heap.size _ hc1 (by omega)).mono ?_
  rintro e w2 ⟨y, rfl, hy, hc2, hb2, hk2⟩
  go_wp2
  go_ret2
  exact ⟨x, y, rfl, hx, hy, (((Below.refl _ _).alloc (Nat.le_refl _) _).trans hb1).trans hb2⟩

end Go.Proofs.YtegpbgdmehipnaaDoor
