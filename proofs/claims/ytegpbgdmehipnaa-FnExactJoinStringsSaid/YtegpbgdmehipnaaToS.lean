/-
  The copy of a slice of strings that came in, as the law file makes it. Condition: at most 2^20 elements.
-/
import Derived.Test.YtegpbgdmehipnaaStr
import Derived.Deep.QuietTactic
import Derived.BigQuiet
namespace Go.Proofs.Ytegpbgdmehipnaa
open Go.RowKit
set_option linter.unusedVariables false


theorem takeS_step (zs : List ByteArray) (len i : Nat) (x : ByteArray) (hl : len ≤ zs.length) (h : i < len) (hx : zs.getD i ByteArray.empty = x) :
    (zs.take i ++ List.replicate (len - i) (⟨#[]⟩ : ByteArray)).set i x = zs.take (i + 1) ++ List.replicate (len - (i + 1)) ⟨#[]⟩ := by
  have h1 : (zs.take i).length = i := by rw [List.length_take]; omega
  rw [List.set_append_right _ _ (by rw [h1]; exact Nat.le_refl _), h1, Nat.sub_self]
  rw [show len - i = (len - (i + 1)) + 1 by omega, List.replicate_succ, List.set_cons_zero]
  rw [List.take_succ_eq_append_getElem (by omega), List.append_assoc]
  have : zs[i]'(by omega) = x := by rw [← hx]; simp [List.getD, List.getElem?_eq_getElem (show i < zs.length by omega)]
  rw [this]; rfl

theorem inStrs_cells {w : World} {a : Option Addr} {len cap : Nat} {zs : List ByteArray} (h : InStrs w a len cap zs) (hl : 0 < len) :
    ∃ b o, a = some ⟨b, o, none⟩ ∧ b < w.heap.size ∧ len ≤ zs.length ∧ ∀ j, j < len → w.cell? ⟨b, o + j, none⟩ = some (.string (zs.getD j ByteArray.empty)) := by
  rcases h with ⟨rfl, rfl, rfl, rfl⟩ | ⟨x, rfl, hlc, hm, hz, hc, hw⟩
  · omega
  · obtain ⟨b, off, spot⟩ := x
    have h0 := hc 0 (by omega)
    have hspot : spot = none := by simpa [Addr.add] using World.cell?_spot h0
    subst hspot
    refine ⟨b, off, rfl, World.block_lt_of_cell? w _ (by simpa [Addr.add] using h0), by omega, fun j hj => ?_⟩
    have := hc j (by omega)
    by_cases hj0 : j = 0
    · subst hj0; simpa [Addr.add] using this
    · simpa [Addr.add, hj0] using this

set_option maxHeartbeats 1000000 in
theorem toStringS_any (a : Option Addr) (len cap : Nat) (zs : List ByteArray) (w w0 : World) (ha : InStrs w0 a len cap zs) (hx : len ≤ 1048576) (hw : Below w0.heap.size w0 w) :
    Calls Try.prog 13 #[.slice a len cap] w fun e w' => ∃ v, e = .returned v ∧ OwnS w.heap.size w' v (zs.take len) ∧ Below w.heap.size w w' := by
  obtain ⟨i0, hi, hz0, hz1, hz2⟩ := info_parts info_str
  have hzl : (zs.take len).length = len := by
    rcases ha with ⟨rfl, rfl, rfl, rfl⟩ | ⟨x, rfl, hlc, hm, hz, hc, hw⟩
    · rfl
    · rw [List.length_take]; omega
  rcases Nat.eq_zero_or_pos len with rfl | hpos
  · go_enter Try.func13, Try.ntmps13
    go_wp2_with ((at_make; refine wpList_make_full w rfl _ _ 27 rfl w.heap.size 9 i0 (.string ⟨#[]⟩) 1 Try.underlying27 hi hz0 hz1 _ _ _ _ 0 rfl rfl rfl rfl ?b2 ?b3 (Nat.le_refl _) ?_))
    case b2 => rw [hz2]; omega
    case b3 => unfold maxLen; omega
    intro w1 hown hgr
    go_wp2
    refine wp_loop_rounds 1 ?_
    rw [rounds_succ]
    go_wp2
    go_ret
    exact ⟨_, rfl, by simpa [OwnS, Value.cells, madeCells] using hown, (Below.refl _ _).grown hgr (Nat.le_refl _) (fun k hk => by cases hk)⟩
  · obtain ⟨b, o, rfl, hbw, hzl2, hcells⟩ := inStrs_cells ha hpos
    have HC : Hid (∀ j, j < len → w.cell? ⟨b, o + j, none⟩ = some (.string (zs.getD j ByteArray.empty))) := fun j hj => by rw [hw.cell (p := ⟨b, o + j, none⟩) hbw]; exact hcells j hj
    have hbw2 : b < w.heap.size := Nat.lt_of_lt_of_le hbw hw.size
    have HZ := Lib.hid hzl
    clear hcells ha hw hzl
    go_enter Try.func13, Try.ntmps13
    go_wp2_with ((at_make; refine wpList_make_full w rfl _ _ 27 rfl w.heap.size 9 i0 (.string ⟨#[]⟩) 1 Try.underlying27 hi hz0 hz1 _ _ _ _ len rfl rfl rfl rfl ?b2 ?b3 (Nat.le_refl _) ?_))
    case b2 => rw [hz2]; omega
    case b3 => unfold maxLen; omega
    intro w1 hown hgr
    have hst : OwnS w.heap.size w1 (.slice (some ⟨w.heap.size, 0, none⟩) len len) (zs.take 0 ++ List.replicate len ⟨#[]⟩) := by
      unfold OwnS
      have e : (madeCells #[Value.string ⟨#[]⟩] len).toList = (List.replicate len (⟨#[]⟩ : ByteArray)).map Value.string := by
        rw [toList_madeCells_one, List.map_replicate]
      rw [e] at hown
      simpa using hown
    have HST := Lib.hid hst
    have hB : Below w.heap.size w w1 := (Below.refl _ _).grown hgr (Nat.le_refl _) (fun k hk => by cases hk)
    clear hown hst hgr hi hz0 hz1 hz2
    go_wp2
    go_loopw [4] (fun iv wr => ∃ i : Nat, i ≤ len ∧ iv = .int .i64 i ∧ OwnS w.heap.size wr (.slice (some ⟨w.heap.size, 0, none⟩) len len) (zs.take i ++ List.replicate (len - i) ⟨#[]⟩) ∧ Below w.heap.size w wr) (fun iv _ => len - (intOf iv).toNat)
    case atStart => exact ⟨0, by omega, rfl, HST.out, hB⟩
    case round =>
      obtain ⟨i, hi, rfl, ho, hb⟩ := hrel
      have hlen : (zs.take i ++ List.replicate (len - i) (⟨#[]⟩ : ByteArray)).length = len := by rw [List.length_append, List.length_take, List.length_replicate]; omega
      have HL := Lib.hid hlen
      clear hlen
      by_cases hlt : i < len
      · have hcf : wr.frozen? ⟨w.heap.size, i, none⟩ = false := World.ownsRow.frozenAt (h := by have := ho; unfold OwnS at this; rw [HL.out] at this; exact this) i
        have hcc : ∃ u, wr.cell? ⟨w.heap.size, i, none⟩ = some u := by
          have := ho; unfold OwnS at this; rw [HL.out] at this
          rw [World.ownsRow.cellAt this i (by omega)]
          rw [List.getElem?_eq_getElem (by rw [List.length_map, HL.out]; exact hlt)]
          exact ⟨_, rfl⟩
        obtain ⟨u, hcu⟩ := hcc
        have hca : wr.cell? ⟨b, o + i, none⟩ = some (.string (zs.getD i ByteArray.empty)) := by rw [hb.cell (p := ⟨b, o + i, none⟩) hbw2]; exact HC.out i hlt
        generalize hx : zs.getD i ByteArray.empty = x at hca
        have HX := Lib.hid hx
        have HO2 := Lib.hid ho
        have HBB := Lib.hid hb
        clear ho hb hx
        go_wp2
        go_roundw
        case rel =>
          refine ⟨i + 1, by omega, by go_num, ?_, HBB.out.setCell (Nat.le_refl _) _⟩
          have h2 := HO2.out
          rw [show (Value.slice (some ⟨w.heap.size, 0, none⟩) len len) = .slice (some ⟨w.heap.size, 0, none⟩) (zs.take i ++ List.replicate (len - i) (⟨#[]⟩ : ByteArray)).length len by rw [HL.out]] at h2
          have h3 := ownS_set h2 i x
          rw [takeS_step zs len i x (by omega) hlt HX.out, HL.out] at h3
          exact h3
        case measure => simp [intOf]; omega
      · obtain rfl : i = len := by omega
        have h2 : zs.take i ++ List.replicate (i - i) (⟨#[]⟩ : ByteArray) = zs.take i := by simp
        rw [h2] at ho
        clear h2
        go_wp2
        go_ret
        exact ⟨_, rfl, ho, hb⟩

set_option maxHeartbeats 1000000 in
theorem eqStringS_same {A B : Nat} (a b : Value) (xs : List ByteArray) (w : World) (ha : OwnS A w a xs) (hb : OwnS B w b xs) (hx : xs.length ≤ 1073741824) :
    Calls Try.prog 15 #[a, b] w fun e w' => e = .returned (.bool true) ∧ Below w.heap.size w w' := by
  rcases ownS_cases ha with ⟨rfl, rfl⟩ | ⟨g, cap, rfl, hg1, hg2, hg3, hg4, hgc, hgf⟩
  · rcases ownS_cases hb with ⟨rfl, _⟩ | ⟨g', cap', rfl, _⟩
    all_goals (
      go_enter Try.func15, Try.ntmps15
      go_wp2
      refine wp_loop_rounds 1 ?_
      rw [rounds_succ]
      go_wp2
      go_ret
      exact ⟨rfl, Below.refl _ _⟩)
  · rcases ownS_cases hb with ⟨rfl, rfl⟩ | ⟨g', cap', rfl, hh1, hh2, hh3, hh4, hhc, hhf⟩
    · go_enter Try.func15, Try.ntmps15
      go_wp2
      refine wp_loop_rounds 1 ?_
      rw [rounds_succ]
      go_wp2
      go_ret
      exact ⟨rfl, Below.refl _ _⟩
    · have HA := Lib.hid hgc
      have HB := Lib.hid hhc
      obtain ⟨n, hn⟩ : ∃ n, xs.length = n := ⟨_, rfl⟩
      have HN := Lib.hid hn
      rw [hn] at hx ⊢
      clear hgc hhc hn ha hb hgf hhf hg1 hg2 hg3 hg4 hh1 hh2 hh3 hh4
      go_enter Try.func15, Try.ntmps15
      go_wp2
      go_loopw [5] (fun i wr => ∃ k q : Nat, k ≤ n ∧ i = .int .i64 k ∧ wr = w.drewN q) (fun i _ => n - (intOf i).toNat)
      case atStart => exact ⟨0, 0, by omega, rfl, rfl⟩
      case round =>
        obtain ⟨k, q, hk, rfl, rfl⟩ := hrel
        by_cases hlt : k < n
        · obtain ⟨x, hxk⟩ : ∃ x, xs[k]? = some x := ⟨_, List.getElem?_eq_getElem (by rw [HN.out]; exact hlt)⟩
          have hca : w.cell? ⟨g, k, none⟩ = some (.string x) := HA.out k x hxk
          have hcb : w.cell? ⟨g', k, none⟩ = some (.string x) := HB.out k x hxk
          clear hxk
          have hi0 : (k : Int) < (n : Int) := by omega
          go_wp2
          go_quiet (fail)
          go_wp2
          go_roundw
          case rel => exact ⟨k + 1, q + nq, by omega, by go_num, rfl⟩
          case measure => simp [intOf]; omega
        · obtain rfl : k = n := by omega
          go_wp2
          go_ret
          exact ⟨rfl, below_drewN _ _⟩

end Go.Proofs.Ytegpbgdmehipnaa
