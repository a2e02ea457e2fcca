/-
  The copy of a slice of integers that came in, as the law file makes it. Condition: at most 2^20 elements.
-/
import Derived.Test.YtfdhmijofpbkjaaSl
namespace Go.Proofs.Ytfdhmijofpbkjaa
open Go.RowKit
set_option linter.unusedVariables false


theorem info_int : (Try.prog.info? 3).map (fun i => (i.zero, i.size, i.bytes)) = some (some (.int .i64 0), 1, 8) := by kernel_rfl

theorem take_step (zs : List Int) (len i : Nat) (x : Int) (hl : len ≤ zs.length) (h : i < len) (hx : zs.getD i 0 = x) :
    (zs.take i ++ List.replicate (len - i) 0).set i x = zs.take (i + 1) ++ List.replicate (len - (i + 1)) 0 := by
  have h1 : (zs.take i).length = i := by rw [List.length_take]; omega
  rw [List.set_append_right _ _ (by rw [h1]; exact Nat.le_refl _), h1, Nat.sub_self]
  rw [show len - i = (len - (i + 1)) + 1 by omega, List.replicate_succ, List.set_cons_zero]
  rw [List.take_succ_eq_append_getElem (by omega), List.append_assoc]
  have : zs[i]'(by omega) = x := by rw [← hx]; simp [List.getD, List.getElem?_eq_getElem (show i < zs.length by omega)]
  rw [this]; rfl

theorem inRow_cells {w : World} {a : Option Addr} {len cap : Nat} {zs : List Int} (h : InRow .i64 w a len cap zs) (hl : 0 < len) :
    ∃ b o, a = some ⟨b, o, none⟩ ∧ b < w.heap.size ∧ len ≤ zs.length ∧ ∀ j, j < len → w.cell? ⟨b, o + j, none⟩ = some (.int .i64 (zs.getD j 0)) := by
  rcases h with ⟨rfl, rfl, rfl, rfl⟩ | ⟨x, rfl, hlc, hm, hz, hc, hw⟩
  · omega
  · obtain ⟨b, off, spot⟩ := x
    have h0 := hc 0 (by omega)
    have hspot : spot = none := by simpa [Addr.add] using World.cell?_spot h0
    subst hspot
    refine ⟨b, off, rfl, World.block_lt_of_cell? w _ (by simpa [Addr.add] using h0), by omega, fun j hj => ?_⟩
    have := hc j (by omega)
    by_cases hj0 : j = 0
    · subst hj0; simpa [Addr.add] using this
    · simpa [Addr.add, hj0] using this

set_option maxHeartbeats 1000000 in
theorem toIntS_any (a : Option Addr) (len cap : Nat) (zs : List Int) (w w0 : World) (ha : InRow .i64 w0 a len cap zs) (hx : len ≤ 1048576) (hw : Below w0.heap.size w0 w) :
    Calls Try.prog 6 #[.slice a len cap] w fun e w' => ∃ v, e = .returned v ∧ Own w.heap.size w' v (zs.take len) ∧ Below w.heap.size w w' := by
  obtain ⟨i0, hi, hz0, hz1, hz2⟩ := info_parts info_int
  have hzl : (zs.take len).length = len := by
    rcases ha with ⟨rfl, rfl, rfl, rfl⟩ | ⟨x, rfl, hlc, hm, hz, hc, hw⟩
    · rfl
    · rw [List.length_take]; omega
  rcases Nat.eq_zero_or_pos len with rfl | hpos
  · go_enter Try.func6, Try.ntmps6
    go_wp2_with ((at_make; refine wpList_make_full w rfl _ _ 22 rfl w.heap.size 3 i0 (.int .i64 0) 1 Try.underlying22 hi hz0 hz1 _ _ _ _ 0 rfl rfl rfl rfl ?b2 ?b3 (Nat.le_refl _) ?_))
    case b2 => rw [hz2]; omega
    case b3 => unfold maxLen; omega
    intro w1 hown hgr
    go_wp2
    refine wp_loop_rounds 1 ?_
    rw [rounds_succ]
    go_wp2
    go_ret
    exact ⟨_, rfl, by simpa [Own, Value.cells, madeCells] using hown, (Below.refl _ _).grown hgr (Nat.le_refl _) (fun k hk => by cases hk)⟩
  · obtain ⟨b, o, rfl, hbw, hzl2, hcells⟩ := inRow_cells ha hpos
    have HC : Hid (∀ j, j < len → w.cell? ⟨b, o + j, none⟩ = some (.int .i64 (zs.getD j 0))) := fun j hj => by rw [hw.cell (p := ⟨b, o + j, none⟩) hbw]; exact hcells j hj
    have hbw2 : b < w.heap.size := Nat.lt_of_lt_of_le hbw hw.size
    have HZ := Lib.hid hzl
    clear hcells ha hw hzl
    go_enter Try.func6, Try.ntmps6
    go_wp2_with ((at_make; refine wpList_make_full w rfl _ _ 22 rfl w.heap.size 3 i0 (.int .i64 0) 1 Try.underlying22 hi hz0 hz1 _ _ _ _ len rfl rfl rfl rfl ?b2 ?b3 (Nat.le_refl _) ?_))
    case b2 => rw [hz2]; omega
    case b3 => unfold maxLen; omega
    intro w1 hown hgr
    have hst : Own w.heap.size w1 (.slice (some ⟨w.heap.size, 0, none⟩) len len) (zs.take 0 ++ List.replicate len 0) := by
      unfold Own
      have e : (madeCells #[Value.int .i64 0] len).toList = (List.replicate len (0 : Int)).map (Value.int .i64) := by
        rw [toList_madeCells_one, List.map_replicate]
      rw [e] at hown
      simpa using hown
    have HST := Lib.hid hst
    have hB : Below w.heap.size w w1 := (Below.refl _ _).grown hgr (Nat.le_refl _) (fun k hk => by cases hk)
    clear hown hst hgr hi hz0 hz1 hz2
    go_wp2
    go_loopw [4] (fun iv wr => ∃ i : Nat, i ≤ len ∧ iv = .int .i64 i ∧ Own w.heap.size wr (.slice (some ⟨w.heap.size, 0, none⟩) len len) (zs.take i ++ List.replicate (len - i) 0) ∧ Below w.heap.size w wr) (fun iv _ => len - (intOf iv).toNat)
    case atStart => exact ⟨0, by omega, rfl, HST.out, hB⟩
    case round =>
      obtain ⟨i, hi, rfl, ho, hb⟩ := hrel
      have hlen : (zs.take i ++ List.replicate (len - i) 0).length = len := by rw [List.length_append, List.length_take, List.length_replicate]; omega
      have HL := Lib.hid hlen
      clear hlen
      by_cases hlt : i < len
      · have hcf : wr.frozen? ⟨w.heap.size, i, none⟩ = false := World.ownsRow.frozenAt (h := by have := ho; unfold Own at this; rw [HL.out] at this; exact this) i
        have hcc : ∃ u, wr.cell? ⟨w.heap.size, i, none⟩ = some u := by
          have := ho; unfold Own at this; rw [HL.out] at this
          rw [World.ownsRow.cellAt this i (by omega)]
          rw [List.getElem?_eq_getElem (by rw [List.length_map, HL.out]; exact hlt)]
          exact ⟨_, rfl⟩
        obtain ⟨u, hcu⟩ := hcc
        have hca : wr.cell? ⟨b, o + i, none⟩ = some (.int .i64 (zs.getD i 0)) := by rw [hb.cell (p := ⟨b, o + i, none⟩) hbw2]; exact HC.out i hlt
        generalize hx : zs.getD i 0 = x at hca
        have HX := Lib.hid hx
        have HO2 := Lib.hid ho
        have HBB := Lib.hid hb
        clear ho hb hx
        go_wp2
        go_roundw
        case rel =>
          refine ⟨i + 1, by omega, by go_num, ?_, HBB.out.setCell (Nat.le_refl _) _⟩
          have h2 := HO2.out
          rw [show (Value.slice (some ⟨w.heap.size, 0, none⟩) len len) = .slice (some ⟨w.heap.size, 0, none⟩) (zs.take i ++ List.replicate (len - i) 0).length len by rw [HL.out]] at h2
          have h3 := own_set h2 i x
          rw [take_step zs len i x (by omega) hlt HX.out, HL.out] at h3
          exact h3
        case measure => simp [intOf]; omega
      · obtain rfl : i = len := by omega
        have h2 : zs.take i ++ List.replicate (i - i) 0 = zs.take i := by simp
        rw [h2] at ho
        clear h2
        go_wp2
        go_ret
        exact ⟨_, rfl, ho, hb⟩

end Go.Proofs.Ytfdhmijofpbkjaa
