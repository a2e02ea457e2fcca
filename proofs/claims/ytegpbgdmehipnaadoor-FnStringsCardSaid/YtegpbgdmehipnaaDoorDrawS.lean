/-
  Contracts of the draws of texts: to split, to compare. Condition: the code has at most 2^16 bytes.
-/
import Derived.Test.YtegpbgdmehipnaaDoorCurS
namespace Go.Proofs.YtegpbgdmehipnaaDoor
open Go.RowKit
set_option linter.unusedVariables false


theorem cur_new (w : World) (a : Option Addr) (len cap : Nat) (hb : Bytes w.heap.size w a len) (hl : len ≤ 65536) :
    CurS w.heap.size 0 (w.alloc (.cells #[.slice a len cap, .int .i64 0, .int .u64 0] 60)) w.heap.size := by
  refine ⟨a, len, cap, 0, 0, ⟨by simp, by simp, by simp, fun j => ?_, by simp, by omega, by omega⟩, bytes_keep hb ((Below.refl _ _).alloc (Nat.le_refl _) _), hl, Nat.le_refl _, Nat.le_refl _⟩
  simp
theorem bytes_of {w : World} {a : Option Addr} {len cap : Nat} {zs : List Int} (h : InRow .u8 w a len cap zs) : Bytes w.heap.size w a len := by
  intro j hj
  rcases h with ⟨rfl, rfl, rfl, rfl⟩ | ⟨x, rfl, hlc, hm, hz, hc, hw⟩
  · omega
  · obtain ⟨b, off, spot⟩ := x
    have h0 := hc 0 (by omega)
    have hspot : spot = none := by simpa [Addr.add] using World.cell?_spot h0
    subst hspot
    have h1 := hc j (by omega)
    have hmem : zs.getD j 0 ∈ zs := by
      rw [show zs.getD j 0 = zs[j]'(by omega) by simp [List.getD, List.getElem?_eq_getElem (show j < zs.length by omega)]]
      exact List.getElem_mem _
    have hwf := hw _ hmem
    have hr : 0 ≤ zs.getD j 0 ∧ zs.getD j 0 ≤ 255 := by
      have hm0 : IntKind.min .u8 = 0 := by decide
      have hmx : IntKind.max .u8 = 255 := by decide
      simp only [Lit.wf, hm0, hmx, Bool.and_eq_true, decide_eq_true_eq] at hwf
      exact hwf
    refine ⟨b, off, zs.getD j 0, rfl, World.block_lt_of_cell? w _ (by simpa [Addr.add] using h0), ?_, hr.1, hr.2⟩
    by_cases hj0 : j = 0
    · subst hj0; simpa [Addr.add] using h1
    · simpa [Addr.add, hj0] using h1

set_option maxHeartbeats 2000000 in
theorem drawSplit_any (a : Option Addr) (len cap : Nat) (w : World) (hb : Bytes w.heap.size w a len) (hl : len ≤ 65536) :
    Calls Tryd.prog 28 #[.slice a len cap] w fun e w' => ∃ s sep : ByteArray, e = .returned (.tuple #[.string s, .string sep]) ∧ s.size ≤ 100 ∧ sep.size ≤ 100 ∧ Below w.heap.size w w' := by
  have HN := Lib.hid (cur_new w a len cap hb hl)
  clear hb
  go_enter Tryd.func28, Tryd.ntmps28
  go_wp2_with fail
  refine (any1_s w.heap.size 0 w.heap.size _ HN.out (by omega)).mono ?_
  rintro e w1 ⟨x, rfl, hx, hc1, hb1, hk1⟩
  have hg1 := curS_lt hc1
  go_wp2_with fail
  refine (of_s w.heap.size 2 w.heap.size 100 w1.heap.size 5 _ (curS_keep hc1 ((Below.refl _ _).alloc (Nat.le_refl _) _)) (by omega) (by omega) (by omega) (by omega) (fun j hj => ?_)).mono ?_
  · rcases five j hj with rfl | rfl | rfl | rfl | rfl <;> exact ⟨_, by simp; rfl, by decide⟩
  rintro e w2 ⟨y, rfl, hy, hc2, hb2, hk2⟩
  go_wp2
  go_ret2
  exact ⟨x, y, rfl, hx, hy, ((((Below.refl _ _).alloc (Nat.le_refl _) _).trans hb1).alloc (by omega) _).trans hb2⟩

set_option maxHeartbeats 2000000 in
theorem drawLess_any (a : Option Addr) (len cap : Nat) (w : World) (hb : Bytes w.heap.size w a len) (hl : len ≤ 65536) :
    Calls Tryd.prog 32 #[.slice a len cap] w fun e w' => ∃ s t : ByteArray, e = .returned (.tuple #[.string s, .string t]) ∧ s.size ≤ 100 ∧ t.size ≤ 100 ∧ Below w.heap.size w w' := by
  have HN := Lib.hid (cur_new w a len cap hb hl)
  clear hb
  go_enter Tryd.func32, Tryd.ntmps32
  go_wp2_with fail
  refine (any1_s w.heap.size 0 w.heap.size _ HN.out (by omega)).mono ?_
  rintro e w1 ⟨x, rfl, hx, hc1, hb1, hk1⟩
  go_wp2_with fail
  refine (any1_s w.heap.size 2 w.heap.size _ hc1 (by omega)).mono ?_
  rintro e w2 ⟨y, rfl, hy, hc2, hb2, hk2⟩
  go_wp2
  go_ret2
  exact ⟨x, y, rfl, hx, hy, (((Below.refl _ _).alloc (Nat.le_refl _) _).trans hb1).trans hb2⟩

end Go.Proofs.YtegpbgdmehipnaaDoor
