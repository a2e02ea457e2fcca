/-
  Contracts of the draws of the law of rows. Condition: the code has at most 2^16 bytes.
-/
import Derived.Test.YthgjghgkjhkbbaaGreatDoorCurS
import Derived.Test.YthgjghgkjhkbbaaGreatDoorDrawC
import Derived.Test.YthgjghgkjhkbbaaGreatDoorTurn
import Derived.Test.YthgjghgkjhkbbaaGreatDoorCtrP
import Derived.Test.YthgjghgkjhkbbaaGreatDoorNumB
import Derived.Test.YthgjghgkjhkbbaaGreatDoorText
namespace Go.Proofs.YthgjghgkjhkbbaaGreatDoor
open Go.RowKit
set_option linter.unusedVariables false
set_option maxRecDepth 20000

theorem cur_new (w : World) (a : Option Addr) (len cap : Nat) (hb : Bytes w.heap.size w a len) (hl : len ≤ 65536) :
    CurS w.heap.size 0 (w.alloc (.cells #[.slice a len cap, .int .i64 0, .int .u64 0] 42)) w.heap.size := by
  refine ⟨a, len, cap, 0, 0, ⟨by simp, by simp, by simp, fun j => ?_, by simp, by omega, by omega⟩, bytes_keep hb ((Below.refl _ _).alloc (Nat.le_refl _) _), hl, Nat.le_refl _, Nat.le_refl _⟩
  simp
theorem bytes_of {w : World} {a : Option Addr} {len cap : Nat} {zs : List Int} (h : InRow .u8 w a len cap zs) : Bytes w.heap.size w a len := by
  intro j hj
  rcases h with ⟨rfl, rfl, rfl, rfl⟩ | ⟨x, rfl, hlc, hm, hz, hc, hw⟩
  · omega
  · obtain ⟨b, off, spot⟩ := x
    have h0 := hc 0 (by omega)
    have hspot : spot = none := by simpa [Addr.add] using World.cell?_spot h0
    subst hspot
    have h1 := hc j (by omega)
    have hmem : zs.getD j 0 ∈ zs := by
      rw [show zs.getD j 0 = zs[j]'(by omega) by simp [List.getD, List.getElem?_eq_getElem (show j < zs.length by omega)]]
      exact List.getElem_mem _
    have hwf := hw _ hmem
    have hr : 0 ≤ zs.getD j 0 ∧ zs.getD j 0 ≤ 255 := by
      have hm0 : IntKind.min .u8 = 0 := by decide
      have hmx : IntKind.max .u8 = 255 := by decide
      simp only [Lit.wf, hm0, hmx, Bool.and_eq_true, decide_eq_true_eq] at hwf
      exact hwf
    refine ⟨b, off, zs.getD j 0, rfl, World.block_lt_of_cell? w _ (by simpa [Addr.add] using h0), ?_, hr.1, hr.2⟩
    by_cases hj0 : j = 0
    · subst hj0; simpa [Addr.add] using h1
    · simpa [Addr.add, hj0] using h1

theorem bytes_go {w w' : World} {a : Option Addr} {len : Nat} (h : Bytes w.heap.size w a len) (hb : Below w.heap.size w w') : Bytes w'.heap.size w' a len := fun j hj => by
  obtain ⟨b, o, z, h1, h2, h3⟩ := bytes_keep h hb j hj
  exact ⟨b, o, z, h1, Nat.lt_of_lt_of_le h2 hb.size, h3⟩

theorem KB.belowR {g : Nat} {a b c : World} (h : KB g a b) (hb : Below a.heap.size b c) : KB g a c := ⟨Nat.le_trans h.1 hb.size, fun k hk hg => (hb.block k hk).trans (h.2 k hk hg)⟩
theorem own_kb {B g : Nat} {w w' : World} {v : Value} {xs : List Int} (h : Own B w v xs) (hk : KB g w w') (hg : g < B) : Own B w' v xs := by
  obtain ⟨hl, hv | ⟨g', cap, cur, hv, hbg, hgg, r⟩⟩ := h
  · exact ⟨hl, .inl hv⟩
  · refine ⟨hl, .inr ⟨g', cap, cur, hv, hbg, ?_, r⟩⟩
    rw [hk.2 g' (Array.getElem?_eq_some_iff.1 hgg).1 (by omega)]; exact hgg
theorem curS_grownR {N M g : Nat} {w w' : World} {row : Option Nat} (h : CurS N M w g) (hg : w.grownBy w' row) (hne : some g ≠ row) (hr : ∀ k, row = some k → N ≤ k) : CurS N M w' g := by
  have hN : N ≤ g := by obtain ⟨_, _, _, _, _, _, _, _, _, hh⟩ := h; exact hh
  have hlt := curS_lt h
  have hB : Below N w w' := (Below.refl _ _).grown hg (by omega) hr
  obtain ⟨a, len, cap, at_, seed, ⟨c0, c1, c2, hf, hgg, s0, s1⟩, h2, h3, h4, h5⟩ := h
  have hblk := hg.block g hlt hne
  exact ⟨a, len, cap, at_, seed, ⟨(World.cell?_of_block hblk).trans c0, (World.cell?_of_block hblk).trans c1, (World.cell?_of_block hblk).trans c2, fun j => (World.frozen?_of_block hblk).trans (hf j), Nat.lt_of_lt_of_le hgg hg.size, s0, s1⟩, bytes_keep h2 hB, h3, h4, h5⟩
theorem nineR (j : Nat) (h : j < 9) : j = 0 ∨ j = 1 ∨ j = 2 ∨ j = 3 ∨ j = 4 ∨ j = 5 ∨ j = 6 ∨ j = 7 ∨ j = 8 := by omega
theorem fiveR (j : Nat) (h : j < 5) : j = 0 ∨ j = 1 ∨ j = 2 ∨ j = 3 ∨ j = 4 := by omega
theorem tenR (j : Nat) (h : j < 10) : j = 0 ∨ j = 1 ∨ j = 2 ∨ j = 3 ∨ j = 4 ∨ j = 5 ∨ j = 6 ∨ j = 7 ∨ j = 8 ∨ j = 9 := by omega
set_option maxHeartbeats 4000000 in
theorem row_s (N M g : Nat) (w : World) (h : CurS N M w g) (hM : M ≤ 700000) :
    Calls Tryz.prog 58 #[.pointer (some ⟨g, 0, none⟩)] w fun e w' => ∃ (u : Value) (xs : List Int), e = .returned u ∧ xs.length ≤ 7 ∧ Own w.heap.size w' u xs ∧ CurS N (M + 200) w' g ∧ Below N w w' ∧ KB g w w' := by
  obtain ⟨i0, hi, hz0, hz1, hz2⟩ := info_parts info_int
  have hg := curS_lt h
  have hNg : N ≤ g := by obtain ⟨_, _, _, _, _, _, _, _, _, hh⟩ := h; exact hh
  have HC := Lib.hid h
  clear h
  have HE : Hid (Own w.heap.size (w.alloc (.cells #[] 3)) (.slice (some ⟨w.heap.size, 0, none⟩) 0 0) []) := World.ownsRow_lit w #[] 0 (Nat.le_refl _) (Nat.zero_le _) rfl
  go_enter Tryz.func58, Tryz.ntmps58
  go_wp2_with fail
  refine (among_s N M g (w.heap.size + 1) 9 (fun x => 0 ≤ x ∧ x ≤ 6) _ (curS_keep HC.out (((Below.refl _ _).alloc (Nat.le_refl _) _).alloc (by simp) _)) (by omega) (by omega) (by omega) (by omega) (fun j hj => ?_)).mono ?_
  · rcases nineR j hj with rfl | rfl | rfl | rfl | rfl | rfl | rfl | rfl | rfl <;> exact ⟨_, by simp; rfl, by omega, by omega⟩
  rintro e w1 ⟨n, rfl, hn, hc1, hb1, hk1⟩
  obtain ⟨n, rfl⟩ := Int.eq_ofNat_of_zero_le hn.1
  have HK1 : Hid (KB g w w1) := Lib.hid (((KB.alloc w _).trans (KB.alloc _ _)).trans hk1)
  have HB1 : Hid (Below N w w1) := Lib.hid ((((Below.refl N w).alloc (by omega) _).alloc (by simp; omega) _).trans hb1)
  have HO1 : Hid (Own w.heap.size w1 (.slice (some ⟨w.heap.size, 0, none⟩) 0 0) []) := Lib.hid (own_kb (own_keep HE.out ((Below.refl _ _).alloc (Nat.le_refl _) _)) hk1 hg)
  have HC1 := Lib.hid hc1
  clear hc1 hb1 hk1 HC HE
  go_wp2_with fail
  go_loopw [3, 4] (fun uv nv wr => ∃ (j : Nat) (xs : List Int), j ≤ 6 ∧ nv = .int .i64 j ∧ xs.length + j ≤ 6 ∧ Own w.heap.size wr uv xs ∧ CurS N (M + 4 + 20 * (6 - j)) wr g ∧ Below N w wr ∧ KB g w wr) (fun _ nv _ => (intOf nv).toNat)
  case atStart => exact ⟨n, [], by omega, rfl, by simp; omega, HO1.out, curS_more HC1.out (by omega), HB1.out, HK1.out⟩
  case round =>
    obtain ⟨j, xs, hj, rfl, hxl, ho, hc, hb, hk⟩ := hrel
    have HO := Lib.hid ho
    have HC := Lib.hid hc
    have HB := Lib.hid hb
    have HK := Lib.hid hk
    have hsz := hb.size
    clear ho hc hb hk
    by_cases hlt : 0 < j
    · have hj0 : (0 : Int) < (j : Int) := by omega
      go_wp2_with fail
      refine (cell_s N _ g _ HC.out (by omega)).mono ?_
      rintro e w2 ⟨x, rfl, hc2, hb2, hk2⟩
      have hown : w2.ownsRow w.heap.size 3 1 u3 _ _ := own_kb HO.out hk2 hg
      have hsz2 := hk2.1
      have HC2 := Lib.hid hc2
      have HB2 : Hid (Below N w w2) := Lib.hid (HB.out.trans hb2)
      have HK2 : Hid (KB g w w2) := Lib.hid (HK.out.trans hk2)
      clear hc2 hb2 hk2
      go_wp2_with ((at_builtin; refine wpList_append_own _ rfl _ _ 25 rfl w.heap.size 3 i0 (.int .i64 0) 1 8 Tryz.underlying25 hi hz0 hz1 hz2 rfl (by decide) _ _ _ rfl (hown.alloc _) ⟨w2.heap.size, 0, none⟩ 1 1 [.int .i64 x] rfl rfl ?c1 ?c2 ?c3 ?c4 ?c5 ?_))
      case c1 =>
        intro j u hj
        match j, hj with
        | 0, hj => simp at hj; subst hj; simp [Addr.add]
      case c2 => intro u hu; simp at hu; subst hu; rfl
      case c3 => unfold maxLen; omega
      case c4 => omega
      case c5 => simp; omega
      intro v' w3 hown' hgrow _
      have ho3 := own_push hown'
      have hgt : ∀ k, _ = some k → w.heap.size ≤ k := fun k hk => (World.ownsRow.lt hown k hk).1
      have hne : some g ≠ _ := fun e => absurd (hgt g e.symm) (by omega)
      have hc3 : CurS N (M + 4 + 20 * (7 - j)) w3 g := curS_more (curS_grownR (curS_keep HC2.out ((Below.refl _ _).alloc (Nat.le_refl _) _)) hgrow hne (fun k hk => Nat.le_trans (by omega) (hgt k hk))) (by omega)
      have hb3 : Below N w w3 := ((HB2.out).alloc (by omega) _).grown hgrow (by simp; omega) (fun k hk => Nat.le_trans (by omega) (hgt k hk))
      have hk3 : KB g w w3 := KB.belowR HK2.out (((Below.refl w.heap.size w2).alloc (by omega) _).grown hgrow (by simp; omega) hgt)
      have HO3 := Lib.hid ho3
      have HC3 := Lib.hid hc3
      have HB3 := Lib.hid hb3
      have HK3 := Lib.hid hk3
      clear hown hown' hgrow ho3 hc3 hb3 hk3 hgt hne
      go_wp2
      go_roundw
      case rel => exact ⟨j - 1, xs ++ [x], by omega, by rw [show ((j - 1 : Nat) : Int) = (j : Int) - 1 by omega], by rw [List.length_append, List.length_singleton]; omega, HO3.out, curS_more HC3.out (by omega), HB3.out, HK3.out⟩
      case measure => simp [intOf] <;> omega
    · obtain rfl : j = 0 := by omega
      have hj0 : decide ((0 : Int) < ((0 : Nat) : Int)) = false := rfl
      go_wp2_with fail
      refine (one_s N _ g 40 _ HC.out (by omega) (by omega)).mono ?_
      rintro e w2 ⟨r, rfl, hc2, hb2, hk2⟩
      have hsz2 := hk2.1
      have HC2 := Lib.hid hc2
      have HB2 : Hid (Below N w w2) := Lib.hid (HB.out.trans hb2)
      have HK2 : Hid (KB g w w2) := Lib.hid (HK.out.trans hk2)
      have HO2 : Hid (Own w.heap.size w2 u3 xs) := Lib.hid (own_kb HO.out hk2 hg)
      clear hc2 hb2 hk2
      cases r with
      | false =>
        go_wp2
        go_ret
        exact ⟨_, xs, rfl, by omega, HO2.out, curS_more HC2.out (by omega), HB2.out, HK2.out⟩
      | true =>
        go_wp2
        go_ret
        exact ⟨_, [6, 6, 6, 6, 6, 6, 6], rfl, by decide, World.ownsRow_lit w2 _ 7 (by omega) (by decide) rfl, curS_more (curS_keep HC2.out ((Below.refl _ _).alloc (Nat.le_refl _) _)) (by omega), HB2.out.alloc (by omega) _, KB.belowR HK2.out ((Below.refl _ _).alloc (by omega) _)⟩

set_option maxHeartbeats 4000000 in
theorem digits_s (N M g : Nat) (w : World) (h : CurS N M w g) (hM : M ≤ 600000) :
    Calls Tryz.prog 66 #[.pointer (some ⟨g, 0, none⟩)] w fun e w' => ∃ (u : Value) (xs : List Int), e = .returned u ∧ xs.length ≤ 7 ∧ Own w.heap.size w' u xs ∧ Below N w w' := by
  obtain ⟨i0, hi, hz0, hz1, hz2⟩ := info_parts info_int
  have hg := curS_lt h
  have hNg : N ≤ g := by obtain ⟨_, _, _, _, _, _, _, _, _, hh⟩ := h; exact hh
  have HC := Lib.hid h
  clear h
  go_enter Tryz.func66, Tryz.ntmps66
  go_wp2_with fail
  refine (one_s N _ g 6 _ HC.out (by omega) (by omega)).mono ?_
  rintro e wa ⟨r, rfl, hca, hba, hka⟩
  have hza := hka.1
  have HCA := Lib.hid hca
  have HBA := Lib.hid hba
  have HKA := Lib.hid hka
  have hga := curS_lt hca
  clear hca hba hka HC
  cases r with
  | true =>
    go_wp2_with fail
    refine (row_s N _ g _ HCA.out (by omega)).mono ?_
    rintro e w1 ⟨u, xs, rfl, hx, ho, hc1, hb1, hk1⟩
    go_wp2
    go_ret
    exact ⟨_, xs, rfl, hx, own_mono ho hza, HBA.out.trans hb1⟩
  | false =>
    have HE : Hid (Own w.heap.size (wa.alloc (.cells #[] 3)) (.slice (some ⟨wa.heap.size, 0, none⟩) 0 0) []) := World.ownsRow_lit wa #[] 0 hza (Nat.zero_le _) rfl
    go_wp2_with fail
    refine (among_s N _ g (wa.heap.size + 1) 5 (fun x => 0 ≤ x ∧ x ≤ 6) _ (curS_keep HCA.out (((Below.refl _ _).alloc (Nat.le_refl _) _).alloc (by simp) _)) (by omega) (by omega) (by omega) (by omega) (fun j hj => ?_)).mono ?_
    · rcases fiveR j hj with rfl | rfl | rfl | rfl | rfl <;> exact ⟨_, by simp; rfl, by omega, by omega⟩
    rintro e w1 ⟨n, rfl, hn, hc1, hb1, hk1⟩
    obtain ⟨n, rfl⟩ := Int.eq_ofNat_of_zero_le hn.1
    have HK1 : Hid (KB g w w1) := Lib.hid (((HKA.out.trans (KB.alloc wa _)).trans (KB.alloc _ _)).trans hk1)
    have HB1 : Hid (Below N w w1) := Lib.hid (((HBA.out.alloc (by omega) _).alloc (by simp; omega) _).trans hb1)
    have HO1 : Hid (Own w.heap.size w1 (.slice (some ⟨wa.heap.size, 0, none⟩) 0 0) []) := Lib.hid (own_kb (own_keep HE.out ((Below.refl _ _).alloc (Nat.le_refl _) _)) hk1 hg)
    have HC1 := Lib.hid hc1
    clear hc1 hb1 hk1 HE HCA HBA HKA
    go_wp2_with fail
    go_loopw [3, 4] (fun uv nv wr => ∃ (j : Nat) (xs : List Int), j ≤ 6 ∧ nv = .int .i64 j ∧ xs.length + j ≤ 6 ∧ Own w.heap.size wr uv xs ∧ CurS N (M + 4 + 20 * (6 - j)) wr g ∧ Below N w wr ∧ KB g w wr) (fun _ nv _ => (intOf nv).toNat)
    case atStart => exact ⟨n, [], by omega, rfl, by simp; omega, HO1.out, curS_more HC1.out (by omega), HB1.out, HK1.out⟩
    case round =>
      obtain ⟨j, xs, hj, rfl, hxl, ho, hc, hb, hk⟩ := hrel
      have HO := Lib.hid ho
      have HC := Lib.hid hc
      have HB := Lib.hid hb
      have HK := Lib.hid hk
      have hsz := hb.size
      have hgr := curS_lt hc
      clear ho hc hb hk
      by_cases hlt : 0 < j
      · have hj0 : (0 : Int) < (j : Int) := by omega
        go_wp2_with fail
        refine (among_s N _ g wr.heap.size 10 (fun x => 0 ≤ x ∧ x ≤ 9) _ (curS_keep HC.out ((Below.refl _ _).alloc (Nat.le_refl _) _)) (by omega) (by omega) (by omega) (by omega) (fun j hj => ?_)).mono ?_
        · rcases tenR j hj with rfl | rfl | rfl | rfl | rfl | rfl | rfl | rfl | rfl | rfl <;> exact ⟨_, by simp; rfl, by omega, by omega⟩
        rintro e w4 ⟨d, rfl, hd, hc4, hb4, hk4⟩
        obtain ⟨d, rfl⟩ := Int.eq_ofNat_of_zero_le hd.1
        have hd10 : d < 10 := by omega
        have HO4 : Hid (Own w.heap.size w4 u3 xs) := Lib.hid (own_kb (own_keep HO.out ((Below.refl _ _).alloc (Nat.le_refl _) _)) hk4 hg)
        have HC4 := Lib.hid hc4
        have HB4 : Hid (Below N w w4) := Lib.hid ((HB.out.alloc (by omega) _).trans hb4)
        have HK4 : Hid (KB g w w4) := Lib.hid ((HK.out.trans (KB.alloc _ _)).trans hk4)
        have hsz4 : w.heap.size ≤ w4.heap.size := HK4.out.1
        clear hc4 hb4 hk4 hd
        go_wp2_with fail
        refine (l2Digit_any d _ hd10).mono ?_
        rintro e w2 ⟨rfl, hbd⟩
        generalize dig.getD d 0 = x
        have hown : w2.ownsRow w.heap.size 3 1 u3 _ _ := own_keep HO4.out hbd
        have hsz2 := hbd.size
        have HC2 := Lib.hid (curS_keep HC4.out hbd)
        have HB2 : Hid (Below N w w2) := Lib.hid (HB4.out.trans (hbd.mono (by omega)))
        have HK2 : Hid (KB g w w2) := Lib.hid (HK4.out.trans (KB.of_below hbd))
        clear hbd
        go_wp2_with ((at_builtin; refine wpList_append_own _ rfl _ _ 25 rfl w.heap.size 3 i0 (.int .i64 0) 1 8 Tryz.underlying25 hi hz0 hz1 hz2 rfl (by decide) _ _ _ rfl (hown.alloc _) ⟨w2.heap.size, 0, none⟩ 1 1 [.int .i64 x] rfl rfl ?c1 ?c2 ?c3 ?c4 ?c5 ?_))
        case c1 =>
          intro j u hj
          match j, hj with
          | 0, hj => simp at hj; subst hj; simp [Addr.add]
        case c2 => intro u hu; simp at hu; subst hu; rfl
        case c3 => unfold maxLen; omega
        case c4 => omega
        case c5 => simp; omega
        intro v' w3 hown' hgrow _
        have ho3 := own_push hown'
        have hgt : ∀ k, _ = some k → w.heap.size ≤ k := fun k hk => (World.ownsRow.lt hown k hk).1
        have hne : some g ≠ _ := fun e => absurd (hgt g e.symm) (by omega)
        have hc3 : CurS N (M + 4 + 20 * (7 - j)) w3 g := curS_more (curS_grownR (curS_keep HC2.out ((Below.refl _ _).alloc (Nat.le_refl _) _)) hgrow hne (fun k hk => Nat.le_trans (by omega) (hgt k hk))) (by omega)
        have hb3 : Below N w w3 := ((HB2.out).alloc (by omega) _).grown hgrow (by simp; omega) (fun k hk => Nat.le_trans (by omega) (hgt k hk))
        have hk3 : KB g w w3 := KB.belowR HK2.out (((Below.refl w.heap.size w2).alloc (by omega) _).grown hgrow (by simp; omega) hgt)
        have HO3 := Lib.hid ho3
        have HC3 := Lib.hid hc3
        have HB3 := Lib.hid hb3
        have HK3 := Lib.hid hk3
        clear hown hown' hgrow ho3 hc3 hb3 hk3 hgt hne
        go_wp2
        go_roundw
        case rel => exact ⟨j - 1, xs ++ [x], by omega, by rw [show ((j - 1 : Nat) : Int) = (j : Int) - 1 by omega], by rw [List.length_append, List.length_singleton]; omega, HO3.out, curS_more HC3.out (by omega), HB3.out, HK3.out⟩
        case measure => simp [intOf] <;> omega
      · obtain rfl : j = 0 := by omega
        have hj0 : decide ((0 : Int) < ((0 : Nat) : Int)) = false := rfl
        go_wp2
        go_ret
        exact ⟨_, xs, rfl, by omega, HO.out, HB.out⟩

set_option maxHeartbeats 4000000 in
theorem number_s (N M g : Nat) (w : World) (h : CurS N M w g) (hM : M ≤ 700000) :
    Calls Tryz.prog 31 #[.pointer (some ⟨g, 0, none⟩)] w fun e w' => ∃ x : Int, e = .returned (.int .i64 x) ∧ (-1 ≤ x ∧ x ≤ 1000000) ∧ Below N w w' := by
  have hg := curS_lt h
  have hNg : N ≤ g := by obtain ⟨_, _, _, _, _, _, _, _, _, hh⟩ := h; exact hh
  have HC := Lib.hid h
  clear h
  go_enter Tryz.func31, Tryz.ntmps31
  have HB : Hid (Below N w w) := Lib.hid (Below.refl N w)
  go_wp2_with fail
  refine (pick_s N _ g 100 _ HC.out (by omega) (by omega)).mono ?_
  rintro e w1 ⟨r1, rfl, a1, b1, _, hc, hb, hk⟩
  have c1 := b1 (by omega)
  have HC1 := Lib.hid hc
  have HB1 : Hid (Below N w w1) := Lib.hid (HB.out.trans hb)
  clear hc hb hk b1
  go_wp2_with fail
  refine (pick_s N _ g 1000 _ HC1.out (by omega) (by omega)).mono ?_
  rintro e w2 ⟨r2, rfl, a2, b2, _, hc, hb, hk⟩
  have c2 := b2 (by omega)
  have HC2 := Lib.hid hc
  have HB2 : Hid (Below N w w2) := Lib.hid (HB1.out.trans hb)
  clear hc hb hk b2
  go_wp2_with fail
  refine (pick_s N _ g 10 _ HC2.out (by omega) (by omega)).mono ?_
  rintro e w3 ⟨r3, rfl, a3, b3, _, hc, hb, hk⟩
  have c3 := b3 (by omega)
  have HC3 := Lib.hid hc
  have HB3 : Hid (Below N w w3) := Lib.hid (HB2.out.trans hb)
  clear hc hb hk b3
  go_wp2_with fail
  refine (pick_s N _ g 1000 _ HC3.out (by omega) (by omega)).mono ?_
  rintro e w4 ⟨r4, rfl, a4, b4, _, hc, hb, hk⟩
  have c4 := b4 (by omega)
  have HC4 := Lib.hid hc
  have HB4 : Hid (Below N w w4) := Lib.hid (HB3.out.trans hb)
  clear hc hb hk b4
  go_wp2_with fail
  refine (pick_s N _ g 60000 _ HC4.out (by omega) (by omega)).mono ?_
  rintro e w5 ⟨r5, rfl, a5, b5, _, hc, hb, hk⟩
  have c5 := b5 (by omega)
  have HC5 := Lib.hid hc
  have HB5 : Hid (Below N w w5) := Lib.hid (HB4.out.trans hb)
  clear hc hb hk b5
  go_wp2_with fail
  refine (pick_s N _ g 100 _ HC5.out (by omega) (by omega)).mono ?_
  rintro e w6 ⟨r6, rfl, a6, b6, _, hc, hb, hk⟩
  have c6 := b6 (by omega)
  have HC6 := Lib.hid hc
  have HB6 : Hid (Below N w w6) := Lib.hid (HB5.out.trans hb)
  clear hc hb hk b6
  have hg6 := curS_lt HC6.out
  have hz6 := HB6.out.size
  go_wp2_with fail
  refine (among_s N _ g w6.heap.size 9 (fun x => -1 ≤ x ∧ x ≤ 1000000) _ (curS_keep HC6.out ((Below.refl _ _).alloc (Nat.le_refl _) _)) (by omega) (by omega) (by omega) (by omega) (fun j hj => ?_)).mono ?_
  · rcases nineR j hj with rfl | rfl | rfl | rfl | rfl | rfl | rfl | rfl | rfl <;> exact ⟨_, by simp; rfl, by omega, by omega⟩
  rintro e w7 ⟨x, rfl, hx, hc7, hb7, hk7⟩
  go_wp2
  go_ret
  exact ⟨x, rfl, hx, (HB6.out.alloc (by omega) _).trans hb7⟩

theorem sevenR (j : Nat) (h : j < 7) : j = 0 ∨ j = 1 ∨ j = 2 ∨ j = 3 ∨ j = 4 ∨ j = 5 ∨ j = 6 := by omega
set_option maxHeartbeats 4000000 in
theorem drawIsRow_any (a : Option Addr) (len cap : Nat) (w : World) (hb : Bytes w.heap.size w a len) (hl : len ≤ 65536) :
    Calls Tryz.prog 53 #[.slice a len cap] w fun e w' => ∃ (u : Value) (xs : List Int), e = .returned u ∧ xs.length ≤ 7 ∧ Own w.heap.size w' u xs ∧ Below w.heap.size w w' := by
  have HN := Lib.hid (cur_new w a len cap hb hl)
  clear hb
  go_enter Tryz.func53, Tryz.ntmps53
  go_wp2_with fail
  refine (row_s w.heap.size 0 w.heap.size _ HN.out (by omega)).mono ?_
  rintro e w2 ⟨u, xs, rfl, hx, ho, hc2, hb2, hk2⟩
  go_wp2
  go_ret
  exact ⟨_, xs, rfl, hx, own_mono ho (by simp), ((Below.refl _ _).alloc (Nat.le_refl _) _).trans hb2⟩
set_option maxHeartbeats 4000000 in
theorem drawLitOf_any (a : Option Addr) (len cap : Nat) (w : World) (hb : Bytes w.heap.size w a len) (hl : len ≤ 65536) :
    Calls Tryz.prog 23 #[.slice a len cap] w fun e w' => ∃ (u : Value) (xs : List Int), e = .returned u ∧ xs.length ≤ 7 ∧ Own w.heap.size w' u xs ∧ Below w.heap.size w w' := by
  have H := Lib.hid (drawIsRow_any a len cap w hb hl)
  clear hb
  go_enter Tryz.func23, Tryz.ntmps23
  go_wp2_with ((go_at_call 53; refine H.out.mono ?_; rintro e w1 ⟨u, xs, rfl, hx, ho, hb1⟩))
  go_ret
  exact ⟨_, xs, rfl, hx, ho, hb1⟩
set_option maxHeartbeats 4000000 in
theorem drawNumberOf_any (a : Option Addr) (len cap : Nat) (w : World) (hb : Bytes w.heap.size w a len) (hl : len ≤ 65536) :
    Calls Tryz.prog 36 #[.slice a len cap] w fun e w' => ∃ (u : Value) (xs : List Int), e = .returned u ∧ xs.length ≤ 7 ∧ Own w.heap.size w' u xs ∧ Below w.heap.size w w' := by
  have HN := Lib.hid (cur_new w a len cap hb hl)
  clear hb
  go_enter Tryz.func36, Tryz.ntmps36
  go_wp2_with fail
  refine (digits_s w.heap.size 0 w.heap.size _ HN.out (by omega)).mono ?_
  rintro e w2 ⟨u, xs, rfl, hx, ho, hb2⟩
  go_wp2
  go_ret
  exact ⟨_, xs, rfl, hx, own_mono ho (by simp), ((Below.refl _ _).alloc (Nat.le_refl _) _).trans hb2⟩
set_option maxHeartbeats 4000000 in
theorem drawTurnRow_any (a : Option Addr) (len cap : Nat) (w : World) (hb : Bytes w.heap.size w a len) (hl : len ≤ 65536) :
    Calls Tryz.prog 9 #[.slice a len cap] w fun e w' => ∃ (u : Value) (xs : List Int), e = .returned u ∧ xs.length ≤ 7 ∧ Own w.heap.size w' u xs ∧ Below w.heap.size w w' := by
  have H := Lib.hid (drawNumberOf_any a len cap w hb hl)
  clear hb
  go_enter Tryz.func9, Tryz.ntmps9
  go_wp2_with ((go_at_call 36; refine H.out.mono ?_; rintro e w1 ⟨u, xs, rfl, hx, ho, hb1⟩))
  go_ret
  exact ⟨_, xs, rfl, hx, ho, hb1⟩
set_option maxHeartbeats 4000000 in
theorem drawRowOf_any (a : Option Addr) (len cap : Nat) (w : World) (hb : Bytes w.heap.size w a len) (hl : len ≤ 65536) :
    Calls Tryz.prog 5 #[.slice a len cap] w fun e w' => ∃ x : Int, e = .returned (.int .i64 x) ∧ (-1 ≤ x ∧ x ≤ 1000000) ∧ Below w.heap.size w w' := by
  have HN := Lib.hid (cur_new w a len cap hb hl)
  clear hb
  go_enter Tryz.func5, Tryz.ntmps5
  go_wp2_with fail
  refine (number_s w.heap.size 0 w.heap.size _ HN.out (by omega)).mono ?_
  rintro e w2 ⟨x, rfl, hx, hb2⟩
  go_wp2
  go_ret
  exact ⟨_, rfl, hx, ((Below.refl _ _).alloc (Nat.le_refl _) _).trans hb2⟩
set_option maxHeartbeats 4000000 in
theorem drawAlike_any (a : Option Addr) (len cap : Nat) (w : World) (hb : Bytes w.heap.size w a len) (hl : len ≤ 65536) :
    Calls Tryz.prog 20 #[.slice a len cap] w fun e w' => ∃ x : Int, e = .returned (.int .i64 x) ∧ (-1 ≤ x ∧ x ≤ 1000000) ∧ Below w.heap.size w w' := by
  have HN := Lib.hid (cur_new w a len cap hb hl)
  clear hb
  go_enter Tryz.func20, Tryz.ntmps20
  have HC := HN
  have HB : Hid (Below w.heap.size w (w.alloc (.cells #[.slice a len cap, .int .i64 0, .int .u64 0] 42))) := Lib.hid ((Below.refl _ _).alloc (Nat.le_refl _) _)
  go_wp2_with fail
  refine (pick_s w.heap.size _ w.heap.size 100 _ HC.out (by omega) (by omega)).mono ?_
  rintro e w1 ⟨r1, rfl, a1, b1, _, hc, hb, hk⟩
  have c1 := b1 (by omega)
  have HC1 := Lib.hid hc
  have HB1 : Hid (Below w.heap.size w w1) := Lib.hid (HB.out.trans hb)
  clear hc hb hk b1
  go_wp2_with fail
  refine (pick_s w.heap.size _ w.heap.size 1000 _ HC1.out (by omega) (by omega)).mono ?_
  rintro e w2 ⟨r2, rfl, a2, b2, _, hc, hb, hk⟩
  have c2 := b2 (by omega)
  have HC2 := Lib.hid hc
  have HB2 : Hid (Below w.heap.size w w2) := Lib.hid (HB1.out.trans hb)
  clear hc hb hk b2
  go_wp2_with fail
  refine (pick_s w.heap.size _ w.heap.size 10 _ HC2.out (by omega) (by omega)).mono ?_
  rintro e w3 ⟨r3, rfl, a3, b3, _, hc, hb, hk⟩
  have c3 := b3 (by omega)
  have HC3 := Lib.hid hc
  have HB3 : Hid (Below w.heap.size w w3) := Lib.hid (HB2.out.trans hb)
  clear hc hb hk b3
  go_wp2_with fail
  refine (pick_s w.heap.size _ w.heap.size 10000 _ HC3.out (by omega) (by omega)).mono ?_
  rintro e w4 ⟨r4, rfl, a4, b4, _, hc, hb, hk⟩
  have c4 := b4 (by omega)
  have HC4 := Lib.hid hc
  have HB4 : Hid (Below w.heap.size w w4) := Lib.hid (HB3.out.trans hb)
  clear hc hb hk b4
  have hg4 := curS_lt HC4.out
  go_wp2_with fail
  refine (among_s w.heap.size _ w.heap.size w4.heap.size 7 (fun x => -1 ≤ x ∧ x ≤ 1000000) _ (curS_keep HC4.out ((Below.refl _ _).alloc (Nat.le_refl _) _)) (by omega) (by omega) (by omega) (by omega) (fun j hj => ?_)).mono ?_
  · rcases sevenR j hj with rfl | rfl | rfl | rfl | rfl | rfl | rfl <;> exact ⟨_, by simp; rfl, by omega, by omega⟩
  rintro e w7 ⟨x, rfl, hx, hc7, hb7, hk7⟩
  go_wp2
  go_ret
  exact ⟨x, rfl, hx, (HB4.out.alloc (by omega) _).trans hb7⟩
set_option maxHeartbeats 4000000 in
theorem drawTurned_any (a : Option Addr) (len cap : Nat) (w : World) (hb : Bytes w.heap.size w a len) (hl : len ≤ 65536) :
    Calls Tryz.prog 17 #[.slice a len cap] w fun e w' => ∃ x : Int, e = .returned (.int .i64 x) ∧ (-1 ≤ x ∧ x ≤ 1000000) ∧ Below w.heap.size w w' := by
  have HN := Lib.hid (cur_new w a len cap hb hl)
  clear hb
  go_enter Tryz.func17, Tryz.ntmps17
  go_wp2_with fail
  refine (one_s w.heap.size _ w.heap.size 2 _ HN.out (by omega) (by omega)).mono ?_
  rintro e wa ⟨r, rfl, hca, hba, hka⟩
  have HCA := Lib.hid hca
  have HBA : Hid (Below w.heap.size w wa) := Lib.hid (((Below.refl _ _).alloc (Nat.le_refl _) _).trans hba)
  clear hca hba hka HN
  cases r with
  | false =>
    go_wp2_with fail
    refine (number_s w.heap.size _ w.heap.size _ HCA.out (by omega)).mono ?_
    rintro e w2 ⟨x, rfl, hx, hb2⟩
    go_wp2
    go_ret
    exact ⟨_, rfl, hx, HBA.out.trans hb2⟩
  | true =>
    go_wp2_with fail
    refine (pick_s w.heap.size _ w.heap.size 6 _ HCA.out (by omega) (by omega)).mono ?_
    rintro e w1 ⟨r, rfl, p0, p1, _, hc1, hb1, hk1⟩
    have hr := p1 (by omega)
    obtain ⟨q, rfl⟩ := Int.eq_ofNat_of_zero_le p0
    have HC1 := Lib.hid hc1
    have HB1 : Hid (Below w.heap.size w w1) := Lib.hid (HBA.out.trans hb1)
    clear hc1 hb1 hk1 p1 p0
    go_wp2_with fail
    go_loopw [4, 5] (fun nv kv wr => ∃ (j t n : Nat), j + t ≤ 6 ∧ kv = .int .i64 j ∧ nv = .int .i64 n ∧ n < pw t ∧ CurS w.heap.size (10 + 2 * t) wr w.heap.size ∧ Below w.heap.size w wr) (fun _ kv _ => (intOf kv).toNat)
    case atStart => exact ⟨q + 1, 0, 0, by omega, by simp <;> omega, rfl, by decide, curS_more HC1.out (by omega), HB1.out⟩
    case round =>
      obtain ⟨j, t, n, hjt, rfl, rfl, hn, hc, hb⟩ := hrel
      have HC := Lib.hid hc
      have HB := Lib.hid hb
      have hgr := curS_lt hc
      clear hc hb
      by_cases hlt : 0 < j
      · have hj0 : (0 : Int) < (j : Int) := by omega
        have hp := (pw_le t (by omega)).2
        go_wp2_with fail
        refine (among_s w.heap.size _ w.heap.size wr.heap.size 7 (fun x => 0 ≤ x ∧ x ≤ 9) _ (curS_keep HC.out ((Below.refl _ _).alloc (Nat.le_refl _) _)) (by omega) (by omega) (by omega) (by omega) (fun j hj => ?_)).mono ?_
        · rcases sevenR j hj with rfl | rfl | rfl | rfl | rfl | rfl | rfl <;> exact ⟨_, by simp; rfl, by omega, by omega⟩
        rintro e w4 ⟨d, rfl, hd, hc4, hb4, hk4⟩
        obtain ⟨d, rfl⟩ := Int.eq_ofNat_of_zero_le hd.1
        have hd10 : d < 10 := by omega
        have HC4 := Lib.hid hc4
        have HB4 : Hid (Below w.heap.size w w4) := Lib.hid ((HB.out.alloc HB.out.size _).trans hb4)
        have HP : Hid (10 * n + d < pw (t + 1)) := Lib.hid (by rw [pw_succ]; omega)
        have hn6 : (n : Int) < 1000000 := by omega
        clear hc4 hb4 hk4 hd hn hp
        go_wp2
        go_roundw
        case rel => exact ⟨j - 1, t + 1, 10 * n + d, by omega, by rw [show ((j - 1 : Nat) : Int) = (j : Int) - 1 by omega], by rw [show ((10 * n + d : Nat) : Int) = 10 * (n : Int) + (d : Int) by omega], HP.out, curS_more HC4.out (by omega), HB4.out⟩
        case measure => simp [intOf] <;> omega
      · obtain rfl : j = 0 := by omega
        have hp := (pw_le t (by omega)).2
        have hj0 : decide ((0 : Int) < ((0 : Nat) : Int)) = false := rfl
        go_wp2
        go_ret
        exact ⟨_, rfl, ⟨by omega, by omega⟩, HB.out⟩
set_option maxHeartbeats 4000000 in
theorem drawParse_any (a : Option Addr) (len cap : Nat) (w : World) (hb : Bytes w.heap.size w a len) (hl : len ≤ 65536) :
    Calls Tryz.prog 28 #[.slice a len cap] w fun e w' => ∃ s : ByteArray, e = .returned (.string s) ∧ s.size ≤ 100 ∧ Below w.heap.size w w' := by
  have HN := Lib.hid (cur_new w a len cap hb hl)
  clear hb
  go_enter Tryz.func28, Tryz.ntmps28
  go_wp2_with fail
  refine (row_s w.heap.size 0 w.heap.size _ HN.out (by omega)).mono ?_
  rintro e w2 ⟨u, xs, rfl, hx, ho, hc2, hb2, hk2⟩
  have HB2 : Hid (Below w.heap.size w w2) := Lib.hid (((Below.refl _ _).alloc (Nat.le_refl _) _).trans hb2)
  have HC2 := Lib.hid hc2
  have HO2 := Lib.hid ho
  clear hc2 hb2 hk2 ho HN
  go_wp2_with fail
  refine (l2Row_any _ xs _ HO2.out (by omega)).mono ?_
  rintro e w3 ⟨rfl, hb3⟩
  have HB3 : Hid (Below w.heap.size w w3) := Lib.hid (HB2.out.trans (hb3.mono HB2.out.size))
  have HC3 := Lib.hid (curS_keep HC2.out hb3)
  have HO3 := Lib.hid (own_keep HO2.out hb3)
  clear hb3
  have hs : ∃ (r : Bool) (s : ByteArray), isRow xs = r ∧ s.size ≤ 48 ∧ (r = true → s = ⟨(txt xs).toArray⟩) := by
    by_cases h : isRow xs = true
    · exact ⟨true, ⟨(txt xs).toArray⟩, h, by have h1 := txt_len xs; have h2 := isRow_len xs h; show (txt xs).toArray.size ≤ 48; simp; omega, fun _ => rfl⟩
    · exact ⟨false, ⟨#[]⟩, by simpa using h, by decide, fun h => by cases h⟩
  obtain ⟨r, s, hr, hsz, hst⟩ := hs
  have HR := Lib.hid hr
  rw [hr]
  clear hr
  cases r with
  | true =>
    go_wp2_with fail
    refine (l2Text_any _ xs _ HO3.out HR.out).mono ?_
    rintro e w4 ⟨rfl, rfl⟩
    rw [← hst trivial]
    clear hst
    go_wp2_with fail
    refine (one_s w.heap.size _ w.heap.size 3 _ HC3.out (by omega) (by omega)).mono ?_
    rintro e w5 ⟨r, rfl, hc5, hb5, hk5⟩
    have HC5 := Lib.hid hc5
    have HB5 : Hid (Below w.heap.size w w5) := Lib.hid (HB3.out.trans hb5)
    clear hc5 hb5 hk5
    cases r with
    | false =>
      go_wp2
      go_ret
      exact ⟨_, rfl, by omega, HB5.out⟩
    | true =>
      go_wp2_with fail
      refine (spoilt_s w.heap.size _ w.heap.size s _ _ HC5.out (by omega) (by omega) (by decide) (by decide)).mono ?_
      rintro e w6 ⟨y, rfl, hy, hc6, hb6, hk6⟩
      go_wp2
      go_ret
      exact ⟨_, rfl, by omega, HB5.out.trans hb6⟩
  | false =>
    clear hst hsz
    go_wp2_with fail
    refine (one_s w.heap.size _ w.heap.size 3 _ HC3.out (by omega) (by omega)).mono ?_
    rintro e w5 ⟨r, rfl, hc5, hb5, hk5⟩
    have HC5 := Lib.hid hc5
    have HB5 : Hid (Below w.heap.size w w5) := Lib.hid (HB3.out.trans hb5)
    clear hc5 hb5 hk5
    cases r with
    | false =>
      go_wp2
      go_ret
      exact ⟨_, rfl, by decide, HB5.out⟩
    | true =>
      go_wp2_with fail
      refine (spoilt_s w.heap.size _ w.heap.size _ _ _ HC5.out (by omega) (by decide) (by decide) (by decide)).mono ?_
      rintro e w6 ⟨y, rfl, hy, hc6, hb6, hk6⟩
      go_wp2
      go_ret
      exact ⟨_, rfl, by have : y.size ≤ 0 + 1 := hy; omega, HB5.out.trans hb6⟩

end Go.Proofs.YthgjghgkjhkbbaaGreatDoor
