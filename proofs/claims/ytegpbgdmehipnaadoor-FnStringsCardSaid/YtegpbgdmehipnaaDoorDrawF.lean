/-
  Contracts of the draws of FormatInt, ParseInt, AppendChecksum. Condition: the code has at most 2^16 bytes.
-/
import Derived.Test.YtegpbgdmehipnaaDoorDrawJ
import Derived.Test.YtegpbgdmehipnaaDoorCurM
import Derived.Test.YtegpbgdmehipnaaDoorFmt
namespace Go.Proofs.YtegpbgdmehipnaaDoor
open Go.RowKit
set_option linter.unusedVariables false


set_option maxHeartbeats 2000000 in
theorem drawFormat_any (a : Option Addr) (len cap : Nat) (w : World) (hb : Bytes w.heap.size w a len) (hl : len ≤ 65536) :
    Calls Tryd.prog 24 #[.slice a len cap] w fun e w' => ∃ n : Int, e = .returned (.int .i64 n) ∧ (-1000000 ≤ n ∧ n ≤ 1000000) ∧ Below w.heap.size w w' := by
  have HN := Lib.hid (cur_new w a len cap hb hl)
  clear hb
  go_enter Tryd.func24, Tryd.ntmps24
  go_wp2_with fail
  refine (pick_s w.heap.size 0 w.heap.size 1000 _ HN.out (by omega) (by omega)).mono ?_
  rintro e w1 ⟨r, rfl, p0, p1, p2, hc1, hb1, hk1⟩
  have hr := p1 (by omega)
  have HC1 := Lib.hid hc1
  have HB1 : Hid (Below w.heap.size w w1) := Lib.hid (((Below.refl _ _).alloc (Nat.le_refl _) _).trans hb1)
  have hg1 := curS_lt hc1
  have hz1 := HB1.out.size
  clear hc1 hb1 hk1 p1
  go_wp2_with fail
  refine (among_s w.heap.size _ w.heap.size w1.heap.size 9 (fun x => -1000000 ≤ x ∧ x ≤ 1000000) _ (curS_keep HC1.out ((Below.refl _ _).alloc (Nat.le_refl _) _)) (by omega) (by omega) (by omega) (by omega) (fun j hj => ?_)).mono ?_
  · rcases nine j hj with rfl | rfl | rfl | rfl | rfl | rfl | rfl | rfl | rfl <;> exact ⟨_, by simp; rfl, by omega, by omega⟩
  rintro e w2 ⟨y, rfl, hy, hc2, hb2, hk2⟩
  go_wp2
  go_ret
  exact ⟨y, rfl, hy, (HB1.out.alloc (by omega) _).trans hb2⟩

theorem eleven (j : Nat) (h : j < 11) : j = 0 ∨ j = 1 ∨ j = 2 ∨ j = 3 ∨ j = 4 ∨ j = 5 ∨ j = 6 ∨ j = 7 ∨ j = 8 ∨ j = 9 ∨ j = 10 := by omega
set_option maxHeartbeats 2000000 in
theorem drawParse_any (a : Option Addr) (len cap : Nat) (w : World) (hb : Bytes w.heap.size w a len) (hl : len ≤ 65536) :
    Calls Tryd.prog 25 #[.slice a len cap] w fun e w' => ∃ s : ByteArray, e = .returned (.string s) ∧ s.size ≤ 100 ∧ Below w.heap.size w w' := by
  have HN := Lib.hid (cur_new w a len cap hb hl)
  clear hb
  go_enter Tryd.func25, Tryd.ntmps25
  go_wp2_with fail
  refine (one_s w.heap.size 0 w.heap.size 2 _ HN.out (by omega) (by omega)).mono ?_
  rintro e w1 ⟨r, rfl, hc1, hb1, hk1⟩
  have HC1 := Lib.hid hc1
  have HB1 : Hid (Below w.heap.size w w1) := Lib.hid (((Below.refl _ _).alloc (Nat.le_refl _) _).trans hb1)
  have hz1 := hk1.1
  have hg1 := curS_lt hc1
  clear hc1 hb1 hk1
  cases r with
  | true =>
    go_wp2_with fail
    refine (of_s w.heap.size _ w.heap.size 100 w1.heap.size 11 _ (curS_keep HC1.out ((Below.refl _ _).alloc (Nat.le_refl _) _)) (by omega) (by omega) (by omega) (by omega) (fun j hj => ?_)).mono ?_
    · rcases eleven j hj with rfl | rfl | rfl | rfl | rfl | rfl | rfl | rfl | rfl | rfl | rfl <;> exact ⟨_, by simp; rfl, by decide⟩
    rintro e w2 ⟨y, rfl, hy, hc2, hb2, hk2⟩
    go_wp2
    go_ret
    exact ⟨y, rfl, hy, (HB1.out.alloc (by omega) _).trans hb2⟩
  | false =>
    go_wp2_with fail
    refine (pick_s w.heap.size _ w.heap.size 2000 _ HC1.out (by omega) (by omega)).mono ?_
    rintro e w2 ⟨r, rfl, p0, p1, p2, hc2, hb2, hk2⟩
    have hr := p1 (by omega)
    have HB2 : Hid (Below w.heap.size w w2) := Lib.hid (HB1.out.trans hb2)
    have hz2 := HB2.out.size
    clear hc2 hb2 hk2 p1 p2
    go_wp2_with fail
    refine (l1Num_any (r - 1000) _ (by omega) (by omega)).mono ?_
    rintro e w3 ⟨rfl, hb3⟩
    have hsz : (ByteArray.mk (Lib.itoa (r - 1000)).toArray).size ≤ 100 := by
      show (Lib.itoa (r - 1000)).toArray.size ≤ 100
      have := itoa_len (r - 1000) (by omega) (by omega)
      simp; omega
    generalize ByteArray.mk (Lib.itoa (r - 1000)).toArray = y at hsz ⊢
    go_wp2
    go_ret
    exact ⟨y, rfl, hsz, HB2.out.trans (hb3.mono hz2)⟩

set_option maxHeartbeats 2000000 in
theorem drawAppend_any (a : Option Addr) (len cap : Nat) (w : World) (hb : Bytes w.heap.size w a len) (hl : len ≤ 65536) :
    Calls Tryd.prog 26 #[.slice a len cap] w fun e w' => ∃ s : ByteArray, e = .returned (.string s) ∧ s.size ≤ 5000 ∧ Below w.heap.size w w' := by
  obtain ⟨i8, hi8, hy0, hy1, hy2⟩ := info_parts info_u8
  have HN := Lib.hid (cur_new w a len cap hb hl)
  clear hb
  go_enter Tryd.func26, Tryd.ntmps26
  go_wp2_with fail
  refine (one_s w.heap.size 0 w.heap.size 20 _ HN.out (by omega) (by omega)).mono ?_
  rintro e w1 ⟨r, rfl, hc1, hb1, hk1⟩
  have HC1 := Lib.hid hc1
  have HB1 : Hid (Below w.heap.size w w1) := Lib.hid (((Below.refl _ _).alloc (Nat.le_refl _) _).trans hb1)
  clear hc1 hb1 hk1
  cases r with
  | false =>
    go_wp2_with fail
    refine (any1_s w.heap.size _ w.heap.size _ HC1.out (by omega)).mono ?_
    rintro e w2 ⟨x, rfl, hx, hc2, hb2, hk2⟩
    go_wp2
    go_ret
    exact ⟨x, rfl, by omega, HB1.out.trans hb2⟩
  | true =>
    go_wp2_with fail
    refine (pick_s w.heap.size _ w.heap.size 10 _ HC1.out (by omega) (by omega)).mono ?_
    rintro e w3 ⟨r, rfl, p0, p1, p2, hc3, hb3, hk3⟩
    have hr := p1 (by omega)
    obtain ⟨q, rfl⟩ := Int.eq_ofNat_of_zero_le p0
    have hq : q < 10 := by omega
    have HB3 : Hid (Below w.heap.size w w3) := Lib.hid (HB1.out.trans hb3)
    have hz3 := HB3.out.size
    clear hc3 hb3 hk3 p0 p1 p2 hr
    go_wp2_with ((at_make; refine wpList_make_full w3 rfl _ _ 35 rfl w3.heap.size 5 i8 (.int .u8 0) 1 Tryd.underlying35 hi8 hy0 hy1 _ _ _ _ (3990 + q) rfl rfl (by omega) (by omega) ?b2 ?b3 (Nat.le_refl _) ?_))
    case b2 => rw [hy2]; omega
    case b3 => unfold maxLen; omega
    intro w4 hown8 hgr8
    have hcells : ∀ j, j < 3990 + q → w4.cell? ⟨w3.heap.size, j, none⟩ = some (.int .u8 0) := by
      intro j hj
      rw [World.ownsRow.cellAt hown8 j (by omega)]
      exact made_one (.int .u8 0) (3990 + q) j hj
    have hcv := run_convert_bytes_back (P := Tryd.prog) w4 35 9 5 ⟨w3.heap.size, 0, none⟩ (3990 + q) (List.replicate (3990 + q) 0) Tryd.underlying35 Tryd.underlying5 Tryd.underlying9 (by
      intro j hj
      rw [List.getElem_replicate]
      have := hcells j (by simpa using hj)
      by_cases hj0 : j = 0
      · subst hj0; simpa [Addr.add] using this
      · simpa [Addr.add, hj0] using this)
    rw [List.length_replicate] at hcv
    have hxs : (ByteArray.mk (List.replicate (3990 + q) (0 : UInt8)).toArray).size ≤ 5000 := by
      show (List.replicate (3990 + q) (0 : UInt8)).toArray.size ≤ 5000
      simp; omega
    generalize ByteArray.mk (List.replicate (3990 + q) (0 : UInt8)).toArray = x at hcv hxs
    have HB4 : Hid (Below w.heap.size w w4) := Lib.hid (HB3.out.grown hgr8 (by omega) (fun k hk => by cases hk))
    clear hgr8 hcells hown8
    go_wp2
    go_ret
    exact ⟨x, rfl, hxs, HB4.out⟩
theorem byteAt {N : Nat} {w : World} {a : Option Addr} {len : Nat} (h : Bytes N w a len) (j : Nat) (hj : j < len) : ∃ b o z, a = some ⟨b, o, none⟩ ∧ w.cell? ⟨b, o + j, none⟩ = some (.int .u8 z) ∧ 0 ≤ z ∧ z ≤ 255 := by
  obtain ⟨b, o, z, h1, h2, h3, h4, h5⟩ := h j hj
  exact ⟨b, o, z, h1, h3, h4, h5⟩
set_option maxHeartbeats 1000000 in
theorem vAt_any {N : Nat} (a : Option Addr) (len cap j : Nat) (w : World) (hb : Bytes N w a len) (hl : len ≤ 65536) (hj : j ≤ 100) :
    Calls Tryd.prog 27 #[.slice a len cap, .int .i64 j] w fun e w' => ∃ z : Int, e = .returned (.int .i64 z) ∧ 0 ≤ z ∧ z ≤ 255 ∧ w = w' := by
  by_cases h : j < len
  · obtain ⟨b, o, z, rfl, hc, z0, z1⟩ := byteAt hb j h
    have hlt : (j : Int) < (len : Int) := by omega
    clear hb
    go_enter Tryd.func27, Tryd.ntmps27
    go_wp2
    go_ret
    exact ⟨z, rfl, z0, z1, rfl⟩
  · have hd : decide ((j : Int) < (len : Int)) = false := decide_eq_false (by omega)
    have h0 : 0 ≤ ((j : Int) * 7 + (len : Int)) % 256 := Int.emod_nonneg _ (by decide)
    have h1 : ((j : Int) * 7 + (len : Int)) % 256 < 256 := Int.emod_lt_of_pos _ (by decide)
    clear hb
    go_enter Tryd.func27, Tryd.ntmps27
    go_wp2
    go_ret
    exact ⟨_, rfl, by omega, by omega, rfl⟩

end Go.Proofs.YtegpbgdmehipnaaDoor
