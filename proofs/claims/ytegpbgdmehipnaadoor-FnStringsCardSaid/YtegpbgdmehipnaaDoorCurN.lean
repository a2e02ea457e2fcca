/-
  A new cursor, and the bytes that came in. No condition.
-/
import Derived.Test.YtegpbgdmehipnaaDoorCurS
namespace Go.Proofs.YtegpbgdmehipnaaDoor
open Go.RowKit
set_option linter.unusedVariables false

theorem cur_new (w : World) (a : Option Addr) (len cap : Nat) (hb : Bytes w.heap.size w a len) (hl : len ≤ 65536) :
    CurS w.heap.size 0 (w.alloc (.cells #[.slice a len cap, .int .i64 0, .int .u64 0] 60)) w.heap.size := by
  refine ⟨a, len, cap, 0, 0, ⟨by simp, by simp, by simp, fun j => ?_, by simp, by omega, by omega⟩, bytes_keep hb ((Below.refl _ _).alloc (Nat.le_refl _) _), hl, Nat.le_refl _, Nat.le_refl _⟩
  simp
theorem bytes_of {w : World} {a : Option Addr} {len cap : Nat} {zs : List Int} (h : InRow .u8 w a len cap zs) : Bytes w.heap.size w a len := by
  intro j hj
  rcases h with ⟨rfl, rfl, rfl, rfl⟩ | ⟨x, rfl, hlc, hm, hz, hc, hw⟩
  · omega
  · obtain ⟨b, off, spot⟩ := x
    have h0 := hc 0 (by omega)
    have hspot : spot = none := by simpa [Addr.add] using World.cell?_spot h0
    subst hspot
    have h1 := hc j (by omega)
    have hmem : zs.getD j 0 ∈ zs := by
      rw [show zs.getD j 0 = zs[j]'(by omega) by simp [List.getD, List.getElem?_eq_getElem (show j < zs.length by omega)]]
      exact List.getElem_mem _
    have hwf := hw _ hmem
    have hr : 0 ≤ zs.getD j 0 ∧ zs.getD j 0 ≤ 255 := by
      have hm0 : IntKind.min .u8 = 0 := by decide
      have hmx : IntKind.max .u8 = 255 := by decide
      simp only [Lit.wf, hm0, hmx, Bool.and_eq_true, decide_eq_true_eq] at hwf
      exact hwf
    refine ⟨b, off, zs.getD j 0, rfl, World.block_lt_of_cell? w _ (by simpa [Addr.add] using h0), ?_, hr.1, hr.2⟩
    by_cases hj0 : j = 0
    · subst hj0; simpa [Addr.add] using h1
    · simpa [Addr.add, hj0] using h1

theorem bytes_go {w w' : World} {a : Option Addr} {len : Nat} (h : Bytes w.heap.size w a len) (hb : Below w.heap.size w w') : Bytes w'.heap.size w' a len := fun j hj => by
  obtain ⟨b, o, z, h1, h2, h3⟩ := bytes_keep h hb j hj
  exact ⟨b, o, z, h1, Nat.lt_of_lt_of_le h2 hb.size, h3⟩

end Go.Proofs.YtegpbgdmehipnaaDoor
