/-
  Contract of the draw of strings to join. Condition: the code has at most 2^16 bytes.
-/
import Derived.Test.YtegpbgdmehipnaaDoorDrawS
import Derived.Laws.IdiomStrings
namespace Go.Proofs.YtegpbgdmehipnaaDoor
open Go.RowKit
set_option linter.unusedVariables false


theorem info_u8 : (Tryd.prog.info? 5).map (fun i => (i.zero, i.size, i.bytes)) = some (some (.int .u8 0), 1, 1) := by kernel_rfl
theorem made_one (v : Value) (n j : Nat) (h : j < n) : (madeCells #[v] n).toList[j]? = some v := by
  rw [Array.getElem?_toList]
  unfold madeCells
  rw [Array.getElem?_map, Array.getElem?_eq_getElem (by simpa using h)]
  simp
  rw [Nat.mod_one]
  rfl
theorem ownS_KB {B g : Nat} {w w' : World} {v : Value} {xs : List ByteArray} (h : OwnS B w v xs) (hk : KB g w w') (hg : g < B) : OwnS B w' v xs := by
  obtain ⟨hl, hv | ⟨g', cap, cur, hv, hbg, hgg, r⟩⟩ := h
  · exact ⟨hl, .inl hv⟩
  · refine ⟨hl, .inr ⟨g', cap, cur, hv, hbg, ?_, r⟩⟩
    rw [hk.2 g' (Array.getElem?_eq_some_iff.1 hgg).1 (by omega)]; exact hgg
theorem ones_s (b : ByteArray) : ∀ u ∈ [Value.string b], u.oneCell' = true := by
  intro u hu; simp at hu; subst hu; rfl
theorem news_s {w : World} {g : Nat} {b : ByteArray} (h : w.cell? ⟨g, 0, none⟩ = some (.string b)) : ∀ j u, [Value.string b][j]? = some u → w.cell? ((⟨g, 0, none⟩ : Addr).add j) = some u := by
  intro j u hj
  match j, hj with
  | 0, hj => simp at hj; subst hj; simpa [Addr.add] using h
theorem curS_grown {N M g : Nat} {w w' : World} {row : Option Nat} (h : CurS N M w g) (hg : w.grownBy w' row) (hne : some g ≠ row) (hr : ∀ k, row = some k → N ≤ k) : CurS N M w' g := by
  have hN : N ≤ g := by obtain ⟨_, _, _, _, _, _, _, _, _, hh⟩ := h; exact hh
  have hlt := curS_lt h
  have hB : Below N w w' := (Below.refl _ _).grown hg (by omega) hr
  obtain ⟨a, len, cap, at_, seed, ⟨c0, c1, c2, hf, hgg, s0, s1⟩, h2, h3, h4, h5⟩ := h
  have hblk := hg.block g hlt hne
  exact ⟨a, len, cap, at_, seed, ⟨(World.cell?_of_block hblk).trans c0, (World.cell?_of_block hblk).trans c1, (World.cell?_of_block hblk).trans c2, fun j => (World.frozen?_of_block hblk).trans (hf j), Nat.lt_of_lt_of_le hgg hg.size, s0, s1⟩, bytes_keep h2 hB, h3, h4, h5⟩

set_option maxHeartbeats 4000000 in
theorem drawJoin_any (a : Option Addr) (len cap : Nat) (w : World) (hb : Bytes w.heap.size w a len) (hl : len ≤ 65536) :
    Calls Tryd.prog 29 #[.slice a len cap] w fun e w' => ∃ (u : Value) (xs : List ByteArray) (sep : ByteArray), e = .returned (.tuple #[u, .string sep]) ∧ OwnS w.heap.size w' u xs ∧ xs.length ≤ 10 ∧ (∀ x ∈ xs, x.size ≤ 5000) ∧ sep.size ≤ 100 ∧ Below w.heap.size w w' := by
  obtain ⟨i0, hi, hz0, hz1, hz2⟩ := info_parts info_str
  obtain ⟨i8, hi8, hy0, hy1, hy2⟩ := info_parts info_u8
  have HN := Lib.hid (cur_new w a len cap hb hl)
  clear hb
  go_enter Tryd.func29, Tryd.ntmps29
  go_wp2_with fail
  refine (pick_s w.heap.size 0 w.heap.size 4 _ (curS_keep HN.out ((Below.refl _ _).alloc (Nat.le_refl _) _)) (by omega) (by omega)).mono ?_
  rintro e w1 ⟨r, rfl, p0, p1, p2, hc1, hb1, hk1⟩
  have hr4 : r < 4 := p1 (by omega)
  obtain ⟨n, rfl⟩ := Int.eq_ofNat_of_zero_le p0
  have hn4 : n < 4 := by omega
  have hsz1 := hk1.1
  have HC1 := Lib.hid hc1
  have HB1 : Hid (Below w.heap.size w w1) := Lib.hid ((((Below.refl _ _).alloc (Nat.le_refl _) _).alloc (by simp) _).trans hb1)
  have hs2 : w.heap.size + 2 ≤ w1.heap.size := by simpa using hsz1
  have HO1 : Hid (OwnS (w.heap.size + 1) w1 (.slice (some ⟨w.heap.size + 1, 0, none⟩) 0 0) []) := Lib.hid (by
    refine ownS_KB (g := w.heap.size) ?_ hk1 (by omega)
    have := World.ownsRow_lit (base := w.heap.size + 1) (e := 9) (size := 1) (w.alloc (.cells #[.slice a len cap, .int .i64 0, .int .u64 0] 60)) #[] 0 (by simp) (Nat.zero_le _) rfl
    unfold OwnS
    simpa using this)
  clear p0 p1 p2 hc1 hb1 hk1 hr4 hsz1
  go_wp2
  go_loopw [5, 7] (fun lv iv wr => ∃ (i : Nat) (xs : List ByteArray), i ≤ n ∧ iv = .int .i64 i ∧ OwnS (w.heap.size + 1) wr lv xs ∧ xs.length = i ∧ (∀ x ∈ xs, x.size ≤ 5000) ∧ CurS w.heap.size (2 + 2 * i) wr w.heap.size ∧ Below w.heap.size w wr) (fun _ iv _ => n - (intOf iv).toNat)
  case atStart => exact ⟨0, [], by omega, rfl, HO1.out, rfl, by simp, HC1.out, HB1.out⟩
  case round =>
    obtain ⟨i, xs, hin, rfl, ho, hxl, hxs, hc, hb⟩ := hrel
    have HO := Lib.hid ho
    have HXS := Lib.hid hxs
    have HC := Lib.hid hc
    have HB := Lib.hid hb
    have hgw := curS_lt hc
    clear ho hxs hc hb
    by_cases hlt : i < n
    · go_wp2_with fail
      refine (any1_s w.heap.size (2 + 2 * i) w.heap.size _ HC.out (by omega)).mono ?_
      rintro e w2 ⟨x, rfl, hx, hc2, hb2, hk2⟩
      have HO2 := Lib.hid (ownS_KB HO.out hk2 (by omega))
      have hown : w2.ownsRow (w.heap.size + 1) 9 1 u5 _ _ := HO2.out
      have hz2' := hk2.1
      have HC2 := Lib.hid hc2
      have HB2 : Hid (Below w.heap.size w w2) := Lib.hid (HB.out.trans hb2)
      clear hc2 hb2 hk2
      go_wp2_with ((at_builtin; refine wpList_append_own _ rfl _ _ 28 rfl (w.heap.size + 1) 9 i0 (.string ⟨#[]⟩) 1 16 Tryd.underlying28 hi hz0 hz1 hz2 rfl (by decide) _ _ _ rfl (hown.alloc _) ⟨w2.heap.size, 0, none⟩ 1 1 [.string x] rfl rfl (news_s (by simp)) (ones_s _) (by unfold maxLen; omega) (by omega) (by simp; omega) ?_))
      intro v' w3 hown' hgrow _
      have HO3 : Hid (OwnS (w.heap.size + 1) w3 v' (xs ++ [x])) := Lib.hid (ownS_push (by rw [hxl]; exact hown'))
      have hrow : ∀ k, u5.ownBlock = some k → w.heap.size + 1 ≤ k := fun k hk => (World.ownsRow.lt hown k hk).1
      have HB3 : Hid (Below w.heap.size w w3) := Lib.hid ((HB2.out.alloc (by omega) _).grown hgrow (by simp; omega) (fun k hk => by have := hrow k hk; omega))
      have HC3 := Lib.hid (curS_grown (curS_keep HC2.out ((Below.refl _ _).alloc (Nat.le_refl _) _)) hgrow (fun e => by have := hrow w.heap.size e.symm; omega) (fun k hk => by have := hrow k hk; omega))
      clear hown hown' hgrow hrow
      go_wp2
      go_roundw
      case rel => exact ⟨i + 1, xs ++ [x], by omega, by go_num, HO3.out, by simp; omega, fun y hy => by rw [List.mem_append] at hy; rcases hy with hy | hy; exact HXS.out y hy; simp at hy; subst hy; omega, curS_more HC3.out (by omega), HB3.out⟩
      case measure => simp [intOf]; omega
    · obtain rfl : i = n := by omega
      go_wp2_with fail
      refine (one_s w.heap.size (2 + 2 * i) w.heap.size 20 _ HC.out (by omega) (by omega)).mono ?_
      rintro e w2 ⟨r, rfl, hc2, hb2, hk2⟩
      have HO2 := Lib.hid (ownS_KB HO.out hk2 (by omega))
      have hz2' := hk2.1
      have HC2 := Lib.hid hc2
      have HB2 : Hid (Below w.heap.size w w2) := Lib.hid (HB.out.trans hb2)
      clear hc2 hb2 hk2
      cases r with
      | false =>
        obtain ⟨a5, c5, rfl⟩ := ownS_shape HO2.out
        have HO2' : Hid (OwnS (w.heap.size + 1) w2 (.slice a5 i c5) xs) := Lib.hid (by have := HO2.out; rwa [hxl] at this)
        go_wp2_with fail
        refine (of_s w.heap.size _ w.heap.size 100 w2.heap.size 5 _ (curS_keep HC2.out ((Below.refl _ _).alloc (Nat.le_refl _) _)) (by omega) (by omega) (by omega) (by omega) (fun j hj => ?_)).mono ?_
        · rcases five j hj with rfl | rfl | rfl | rfl | rfl <;> exact ⟨_, by simp; rfl, by decide⟩
        rintro e w3 ⟨y, rfl, hy, hc3, hb3, hk3⟩
        go_wp2
        go_ret2
        exact ⟨_, xs, y, rfl, ownS_mono (ownS_KB HO2'.out ((KB.alloc w2 _).trans hk3) (by omega)) (by omega), by omega, HXS.out, hy, (HB2.out.alloc (by omega) _).trans hb3⟩
      | true =>
        go_wp2_with fail
        refine (pick_s w.heap.size _ w.heap.size 20 _ HC2.out (by omega) (by omega)).mono ?_
        rintro e w3 ⟨r, rfl, p0, p1, p2, hc3, hb3, hk3⟩
        have hr := p1 (by omega)
        obtain ⟨q, rfl⟩ := Int.eq_ofNat_of_zero_le p0
        have hq : q < 20 := by omega
        have hz3 := hk3.1
        have HO3 := Lib.hid (ownS_KB HO2.out hk3 (by omega))
        have HC3 := Lib.hid hc3
        have HB3 : Hid (Below w.heap.size w w3) := Lib.hid (HB2.out.trans hb3)
        clear hc3 hb3 hk3 p0 p1 p2 hr
        go_wp2_with ((at_make; refine wpList_make_full w3 rfl _ _ 35 rfl w3.heap.size 5 i8 (.int .u8 0) 1 Tryd.underlying35 hi8 hy0 hy1 _ _ _ _ (3990 + q) rfl rfl (by omega) (by omega) ?b2 ?b3 (Nat.le_refl _) ?_))
        case b2 => rw [hy2]; omega
        case b3 => unfold maxLen; omega
        intro w4 hown8 hgr8
        have hcells : ∀ j, j < 3990 + q → w4.cell? ⟨w3.heap.size, j, none⟩ = some (.int .u8 0) := by
          intro j hj
          rw [World.ownsRow.cellAt hown8 j (by omega)]
          exact made_one (.int .u8 0) (3990 + q) j hj
        have hcv := run_convert_bytes_back (P := Tryd.prog) w4 35 9 5 ⟨w3.heap.size, 0, none⟩ (3990 + q) (List.replicate (3990 + q) 0) Tryd.underlying35 Tryd.underlying5 Tryd.underlying9 (by
          intro j hj
          rw [List.getElem_replicate]
          have := hcells j (by simpa using hj)
          by_cases hj0 : j = 0
          · subst hj0; simpa [Addr.add] using this
          · simpa [Addr.add, hj0] using this)
        rw [List.length_replicate] at hcv
        have hxs : (ByteArray.mk (List.replicate (3990 + q) (0 : UInt8)).toArray).size ≤ 5000 := by
          show (List.replicate (3990 + q) (0 : UInt8)).toArray.size ≤ 5000
          simp; omega
        generalize ByteArray.mk (List.replicate (3990 + q) (0 : UInt8)).toArray = x at hcv hxs
        have hkb4 : KB w.heap.size w3 w4 := ⟨hgr8.size, fun i hi _ => hgr8.block i hi (by simp)⟩
        have hz4 := hkb4.1
        have HO4 := Lib.hid (ownS_KB HO3.out hkb4 (by omega))
        have hown : w4.ownsRow (w.heap.size + 1) 9 1 _ _ _ := HO4.out
        have HC4 := Lib.hid (curS_grown HC3.out hgr8 (by simp) (fun k hk => by cases hk))
        have HB4 : Hid (Below w.heap.size w w4) := Lib.hid (HB3.out.grown hgr8 (by omega) (fun k hk => by cases hk))
        clear hgr8 hcells hown8 hkb4
        go_wp2_with ((at_builtin; refine wpList_append_own _ rfl _ _ 28 rfl (w.heap.size + 1) 9 i0 (.string ⟨#[]⟩) 1 16 Tryd.underlying28 hi hz0 hz1 hz2 rfl (by decide) _ _ _ rfl (hown.alloc _) ⟨w4.heap.size, 0, none⟩ 1 1 [.string x] rfl rfl (news_s (by simp)) (ones_s _) (by unfold maxLen; omega) (by omega) (by simp; omega) ?_))
        intro v' w5 hown' hgrow _
        have HO5 : Hid (OwnS (w.heap.size + 1) w5 v' (xs ++ [x])) := Lib.hid (ownS_push (by rw [hxl]; exact hown'))
        have hrow : ∀ k, u5.ownBlock = some k → w.heap.size + 1 ≤ k := fun k hk => (World.ownsRow.lt hown k hk).1
        have HB5 : Hid (Below w.heap.size w w5) := Lib.hid ((HB4.out.alloc (by omega) _).grown hgrow (by simp; omega) (fun k hk => by have := hrow k hk; omega))
        have HC5 := Lib.hid (curS_grown (curS_keep HC4.out ((Below.refl _ _).alloc (Nat.le_refl _) _)) hgrow (fun e => by have := hrow w.heap.size e.symm; omega) (fun k hk => by have := hrow k hk; omega))
        have hz5 : w4.heap.size ≤ w5.heap.size := by have := hgrow.size; simp at this; omega
        clear hown hown' hgrow hrow
        obtain ⟨a5, c5, rfl⟩ := ownS_shape HO5.out
        have HO5' : Hid (OwnS (w.heap.size + 1) w5 (.slice a5 (i + 1) c5) (xs ++ [x])) := Lib.hid (by have := HO5.out; rwa [show (xs ++ [x]).length = i + 1 by simp [hxl]] at this)
        go_wp2_with fail
        refine (of_s w.heap.size _ w.heap.size 100 w5.heap.size 5 _ (curS_keep HC5.out ((Below.refl _ _).alloc (Nat.le_refl _) _)) (by omega) (by omega) (by omega) (by omega) (fun j hj => ?_)).mono ?_
        · rcases five j hj with rfl | rfl | rfl | rfl | rfl <;> exact ⟨_, by simp; rfl, by decide⟩
        rintro e w6 ⟨y, rfl, hy, hc6, hb6, hk6⟩
        go_wp2
        go_ret2
        exact ⟨_, xs ++ [x], y, rfl, ownS_mono (ownS_KB HO5'.out ((KB.alloc w5 _).trans hk6) (by omega)) (by omega), by simp; omega, fun z hz => by rw [List.mem_append] at hz; rcases hz with hz | hz; exact HXS.out z hz; simp at hz; subst hz; exact hxs, hy, (HB5.out.alloc (by omega) _).trans hb6⟩

end Go.Proofs.YtegpbgdmehipnaaDoor
