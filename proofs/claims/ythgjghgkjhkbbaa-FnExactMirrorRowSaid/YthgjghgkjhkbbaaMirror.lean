/-
  The law FnExactMirrorRow returns true, whatever the list. No condition.
-/
import Derived.Test.YthgjghgkjhkbbaaBack
namespace Go.Proofs.Ythgjghgkjhkbbaa
open Go.RowKit
set_option linter.unusedVariables false

set_option maxHeartbeats 2000000 in
theorem l2MirrorRow_any {A : Nat} (v : Value) (xs : List Int) (w : World) (hv : Own A w v xs) (hr : isRow xs = true) :
    Calls Try.prog 55 #[v] w fun e w' => ∃ u, e = .returned u ∧ Own w.heap.size w' u (tRow mirFrom xs) ∧ Below w.heap.size w w' := by
  obtain ⟨i0, hi, hz0, hz1, hz2⟩ := info_parts info_int
  have hl6 := isRow_len xs hr
  have HCe := Lib.hid (isRow_cell xs hr)
  clear hr
  have HE : Hid (∀ w : World, Own w.heap.size (w.alloc (.cells #[] 3)) (.slice (some ⟨w.heap.size, 0, none⟩) 0 0) []) := fun w => World.ownsRow_lit w #[] 0 (Nat.le_refl _) (Nat.zero_le _) rfl
  rcases own_cases hv with ⟨rfl, rfl⟩ | ⟨g, cap, rfl, hg1, hg2, hg3, hg4, hgc, hgf⟩
  · go_enter Try.func55, Try.ntmps55
    go_wp2
    refine wp_loop_rounds 1 ?_
    rw [rounds_succ]
    go_wp2
    go_ret
    exact ⟨_, rfl, HE.out w, (Below.refl _ _).alloc (Nat.le_refl _) _⟩
  · generalize hn : xs.length = n at *
    have HN := Lib.hid hn
    have HC := Lib.hid hgc
    clear hgc hgf hn hv hg1 hg3 hg4
    go_enter Try.func55, Try.ntmps55
    go_wp2
    go_loopw [3, 4] (fun uv iv wr => ∃ k : Nat, k ≤ n ∧ iv = .int .i64 ((n : Int) - 1 - k) ∧ Own w.heap.size wr uv (tRow mirFrom (xs.drop (n - k))) ∧ Below w.heap.size w wr) (fun _ iv _ => ((intOf iv) + 1).toNat)
    case atStart => exact ⟨0, by omega, by simp, by rw [List.drop_eq_nil_of_le (by rw [HN.out]; exact Nat.le_refl _)]; exact HE.out w, (Below.refl _ _).alloc (Nat.le_refl _) _⟩
    case round =>
      obtain ⟨k, hk, rfl, ho, hb⟩ := hrel
      by_cases hlt : k < n
      · have hkk : n - 1 - k < n := by omega
        have hcell : wr.cell? ⟨g, n - 1 - k, none⟩ = some (.int .i64 (xs.getD (n - 1 - k) 0)) := by rw [hb.cell (p := ⟨g, n - 1 - k, none⟩) hg2]; exact HC.out _ hkk
        have hcr := HCe.out (n - 1 - k) hkk
        generalize hxi : xs.getD (n - 1 - k) 0 = x at hcell hcr
        obtain ⟨c, rfl⟩ := Int.eq_ofNat_of_zero_le hcr.1
        have hc : c < 128 := by omega
        have HX := Lib.hid hxi
        have HO := Lib.hid ho
        have HB := Lib.hid hb
        have ei : (n : Int) - 1 - (k : Int) = ((n - 1 - k : Nat) : Int) := by omega
        rw [ei]
        have hi0 : (0 : Int) ≤ ((n - 1 - k : Nat) : Int) := by omega
        generalize hq : n - 1 - k = q at *
        have HQ := Lib.hid hq
        clear hxi ho hb hcr ei hq
        go_wp2_with fail
        refine (l2Mirror_any c _ hc).mono ?_
        rintro e w2 ⟨rfl, hb2⟩
        have HB2 := Lib.hid hb2
        have hown : w2.ownsRow w.heap.size 3 1 u3 _ _ := own_keep HO.out hb2
        have hsz := hb2.size
        have hsz0 := HB.out.size
        have hlen : (tRow mirFrom (xs.drop (n - k))).length ≤ 6 := by
          simp only [tRow, List.length_reverse, List.length_map, List.length_drop]; rw [HN.out]; omega
        clear hb2
        go_wp2_with ((at_builtin; refine wpList_append_own _ rfl _ _ 22 rfl w.heap.size 3 i0 (.int .i64 0) 1 8 Try.underlying22 hi hz0 hz1 hz2 rfl (by decide) _ _ _ rfl (hown.alloc _) ⟨w2.heap.size, 0, none⟩ 1 1 [.int .i64 (mirFrom c 7 : Nat)] rfl rfl ?c1 ?c2 ?c3 ?c4 ?c5 ?_))
        case c1 =>
          intro j u hj
          match j, hj with
          | 0, hj => simp at hj; subst hj; simp [Addr.add]
        case c2 => intro u hu; simp at hu; subst hu; rfl
        case c3 => unfold maxLen; omega
        case c4 => omega
        case c5 => simp; omega
        intro v' w3 hown' hgrow _
        have ho3 := own_push hown'
        have hb3 : Below w.heap.size w w3 := ((HB.out.trans (HB2.out.mono hsz0)).alloc (Nat.le_trans hsz0 hsz) _).grown hgrow (by simp; omega) (fun k hk => (World.ownsRow.lt hown k hk).1)
        have HO3 := Lib.hid ho3
        have HB3 := Lib.hid hb3
        clear hown hown' hgrow ho3 hb3 hlen
        go_wp2
        go_roundw
        case rel =>
          have e1 : (q : Int) - 1 = (n : Int) - 1 - ((k + 1 : Nat) : Int) := by have := HQ.out; omega
          exact ⟨k + 1, by omega, by rw [e1], by rw [tRow_step mirFrom xs n k c HN.out hlt (by rw [HQ.out]; exact HX.out)]; exact HO3.out, HB3.out⟩
        case measure => simp [intOf] <;> omega
      · obtain rfl : k = n := by omega
        rw [Nat.sub_self, List.drop_zero] at ho
        have en : (k : Int) - 1 - (k : Int) = -1 := by omega
        rw [en]
        go_wp2
        go_ret
        exact ⟨_, rfl, ho, hb⟩

set_option maxHeartbeats 2000000 in
theorem backMirrored_any {A : Nat} (v : Value) (xs : List Int) (w : World) (hv : Own A w v xs) (hr : isRow xs = true) :
    Calls Try.prog 53 #[v, .func (.func 56) #[] #[]] w fun e w' => ∃ u, e = .returned u ∧ Own w.heap.size w' u (tRow mirFrom xs) ∧ Below w.heap.size w w' := by
  obtain ⟨i0, hi, hz0, hz1, hz2⟩ := info_parts info_int
  have hl6 := isRow_len xs hr
  have HCe := Lib.hid (isRow_cell xs hr)
  clear hr
  rcases own_cases hv with ⟨rfl, rfl⟩ | ⟨g, cap, rfl, hg1, hg2, hg3, hg4, hgc, hgf⟩
  · go_enter Try.func53, Try.ntmps53
    go_wp2
    refine wp_loop_rounds 1 ?_
    rw [rounds_succ]
    go_wp2_with ((go_at_call 84; refine (reverse_any (B := w.heap.size) _ [] _ (World.ownsRow_nil _ _ _ _) (by simp)).mono ?_; rintro e w1 ⟨rfl, ho1, hb1⟩))
    go_ret
    exact ⟨_, rfl, ho1, hb1⟩
  · generalize hn : xs.length = n at *
    have HN := Lib.hid hn
    have HC := Lib.hid hgc
    clear hgc hgf hn hv hg1 hg3 hg4
    go_enter Try.func53, Try.ntmps53
    go_wp2
    go_loopw [5, 10] (fun uv iv wr => ∃ k : Nat, k ≤ n ∧ iv = .int .i64 k ∧ Own w.heap.size wr uv (fRow mirFrom (xs.take k)) ∧ Below w.heap.size w wr) (fun _ iv _ => n - (intOf iv).toNat)
    case atStart => exact ⟨0, by omega, rfl, World.ownsRow_nil _ _ _ _, Below.refl _ _⟩
    case round =>
      obtain ⟨k, hk, rfl, ho, hb⟩ := hrel
      by_cases hlt : k < n
      · have hcell : wr.cell? ⟨g, k, none⟩ = some (.int .i64 (xs.getD k 0)) := by rw [hb.cell (p := ⟨g, k, none⟩) hg2]; exact HC.out _ hlt
        have hcr := HCe.out k hlt
        generalize hxi : xs.getD k 0 = x at hcell hcr
        obtain ⟨c, rfl⟩ := Int.eq_ofNat_of_zero_le hcr.1
        have hc : c < 128 := by omega
        have HX := Lib.hid hxi
        have HO := Lib.hid ho
        have HB := Lib.hid hb
        clear hxi ho hb hcr
        go_wp2_with fail
        refine (mirrored_any c _ hc).mono ?_
        rintro e w2 ⟨rfl, hb2⟩
        have HB2 := Lib.hid hb2
        have hown : w2.ownsRow w.heap.size 3 1 u5 _ _ := own_keep HO.out hb2
        have hsz := hb2.size
        have hsz0 := HB.out.size
        have hlen : (fRow mirFrom (xs.take k)).length ≤ 6 := by
          simp only [fRow, List.length_map, List.length_take]; omega
        clear hb2
        go_wp2_with ((at_builtin; refine wpList_append_own _ rfl _ _ 22 rfl w.heap.size 3 i0 (.int .i64 0) 1 8 Try.underlying22 hi hz0 hz1 hz2 rfl (by decide) _ _ _ rfl (hown.alloc _) ⟨w2.heap.size, 0, none⟩ 1 1 [.int .i64 (mirFrom c 7 : Nat)] rfl rfl ?c1 ?c2 ?c3 ?c4 ?c5 ?_))
        case c1 =>
          intro j u hj
          match j, hj with
          | 0, hj => simp at hj; subst hj; simp [Addr.add]
        case c2 => intro u hu; simp at hu; subst hu; rfl
        case c3 => unfold maxLen; omega
        case c4 => omega
        case c5 => simp; omega
        intro v' w3 hown' hgrow _
        have ho3 := own_push hown'
        have hb3 : Below w.heap.size w w3 := ((HB.out.trans (HB2.out.mono hsz0)).alloc (Nat.le_trans hsz0 hsz) _).grown hgrow (by simp; omega) (fun k hk => (World.ownsRow.lt hown k hk).1)
        have HO3 := Lib.hid ho3
        have HB3 := Lib.hid hb3
        clear hown hown' hgrow ho3 hb3 hlen
        go_wp2
        go_roundw
        case rel => exact ⟨k + 1, by omega, by go_num, by rw [fRow_step mirFrom xs k c (by rw [HN.out]; exact hlt) HX.out]; exact HO3.out, HB3.out⟩
        case measure => simp [intOf]; omega
      · obtain rfl : k = n := by omega
        have he : xs.take k = xs := List.take_of_length_le (by rw [HN.out]; exact Nat.le_refl _)
        rw [he] at ho
        have hfl : (fRow mirFrom xs).length ≤ 1073741824 := by simp only [fRow, List.length_map]; rw [HN.out]; omega
        have HR := Lib.hid (reverse_any _ _ _ ho hfl)
        have HB := Lib.hid hb
        obtain ⟨a5, c5, rfl⟩ := own_shape ho
        clear ho hb he
        go_wp2_with ((go_at_call 84; refine HR.out.mono ?_; rintro e w1 ⟨rfl, ho1, hb1⟩))
        go_ret
        exact ⟨_, rfl, ho1, HB.out.trans hb1⟩

def mirFromR (xs : List Int) : List Int := if isRow xs then tRow mirFrom xs else []
theorem mirFromR_len (xs : List Int) : (mirFromR xs).length ≤ 6 := by
  unfold mirFromR
  split
  · next h => have := isRow_len xs h; simpa [tRow] using this
  · simp

set_option maxHeartbeats 1000000 in
theorem specMirrorRow_any {A : Nat} (v : Value) (xs : List Int) (w : World) (hv : Own A w v xs) (hx : xs.length ≤ 1073741824) :
    Calls Try.prog 20 #[v] w fun e w' => ∃ u, e = .returned (.tuple #[u, .bool (isRow xs)]) ∧ Own w.heap.size w' u (mirFromR xs) ∧ Below w.heap.size w w' := by
  have H1 := Lib.hid (l2Row_any v xs w hv hx)
  have HK := Lib.hid (fun w1 (h : Below w.heap.size w w1) => own_keep hv h)
  by_cases hr : isRow xs = true
  · have H2 := Lib.hid (fun w1 (h : Own A w1 v xs) => l2MirrorRow_any v xs w1 h hr)
    have e : mirFromR xs = tRow mirFrom xs := if_pos hr
    rw [e]
    rw [hr] at H1 ⊢
    clear hv e hr
    go_enter Try.func20, Try.ntmps20
    go_wp2_with (first | (go_at_call 48; refine H1.out.mono ?_; rintro e w1 ⟨rfl, hb1⟩) | (go_at_call 55; refine (H2.out _ (HK.out _ hb1)).mono ?_; rintro e w2 ⟨u, rfl, ho2, hb2⟩))
    go_ret2
    exact ⟨_, rfl, own_mono ho2 hb1.size, bt hb1 hb2⟩
  · have hr' : isRow xs = false := by simpa using hr
    have e : mirFromR xs = [] := if_neg hr
    rw [e]
    rw [hr'] at H1 ⊢
    clear hv e hr hr'
    go_enter Try.func20, Try.ntmps20
    go_wp2_with ((go_at_call 48; refine H1.out.mono ?_; rintro e w1 ⟨rfl, hb1⟩))
    go_ret2
    exact ⟨_, rfl, own_mono (World.ownsRow_lit w1 #[] 0 (Nat.le_refl _) (Nat.zero_le _) rfl) hb1.size, bt hb1 ((Below.refl _ _).alloc (Nat.le_refl _) _)⟩

set_option maxHeartbeats 1000000 in
theorem implMirrorRow_any {A : Nat} (v : Value) (xs : List Int) (w : World) (hv : Own A w v xs) (hx : xs.length ≤ 1073741824) :
    Calls Try.prog 21 #[v] w fun e w' => ∃ u, e = .returned (.tuple #[u, .bool (isRow xs)]) ∧ Own w.heap.size w' u (mirFromR xs) ∧ Below w.heap.size w w' := by
  have H1 := Lib.hid (implIsRow_any v xs w hv hx)
  have HK := Lib.hid (fun w1 (h : Below w.heap.size w w1) => own_keep hv h)
  by_cases hr : isRow xs = true
  · have H2 := Lib.hid (fun w1 (h : Own A w1 v xs) => backMirrored_any v xs w1 h hr)
    have e : mirFromR xs = tRow mirFrom xs := if_pos hr
    rw [e]
    rw [hr] at H1 ⊢
    clear hv e hr
    go_enter Try.func21, Try.ntmps21
    go_wp2_with (first | (go_at_call 12; refine H1.out.mono ?_; rintro e w1 ⟨rfl, hb1⟩) | (go_at_call 53; refine (H2.out _ (HK.out _ hb1)).mono ?_; rintro e w2 ⟨u, rfl, ho2, hb2⟩))
    go_ret2
    exact ⟨_, rfl, own_mono ho2 hb1.size, bt hb1 hb2⟩
  · have hr' : isRow xs = false := by simpa using hr
    have e : mirFromR xs = [] := if_neg hr
    rw [e]
    rw [hr'] at H1 ⊢
    clear hv e hr hr'
    go_enter Try.func21, Try.ntmps21
    go_wp2_with ((go_at_call 12; refine H1.out.mono ?_; rintro e w1 ⟨rfl, hb1⟩))
    go_ret2
    exact ⟨_, rfl, World.ownsRow_nil _ _ _ _, hb1⟩

set_option maxHeartbeats 4000000 in
theorem walkFnExactMirrorRow (a : Option Addr) (len cap : Nat) (zs : List Int) (w : World) (ha : InRow .i64 w a len cap zs) :
    Calls Try.prog 6 #[.slice a len cap] w fun e w' => e = .returned (.bool true) ∧ Below w.heap.size w w' := by
  have hlm : len ≤ 9223372036854775807 := by
    rcases ha with ⟨rfl, rfl, rfl, rfl⟩ | ⟨x, rfl, hlc, hm, _⟩
    · omega
    · unfold maxLen at hm; omega
  have hzl : (zs.take len).length ≤ len := by rw [List.length_take]; omega
  by_cases hl : len ≤ 1048576
  · have hz2 : (zs.take len).length ≤ 1073741824 := by omega
    have HT := Lib.hid (fun w hw => toIntS_any a len cap zs w _ ha hl hw)
    generalize zs.take len = xs at HT hz2 hzl
    have H1 := Lib.hid (fun (A : Nat) v w (h : Own A w v xs) => specMirrorRow_any v xs w h hz2)
    have H2 := Lib.hid (fun (A : Nat) v w (h : Own A w v xs) => implMirrorRow_any v xs w h hz2)
    have hrl : (mirFromR xs).length ≤ 1073741824 := Nat.le_trans (mirFromR_len xs) (by omega)
    generalize mirFromR xs = rs at H1 H2 hrl
    generalize isRow xs = b at H1 H2
    have HZ := Lib.hid hz2
    have HR := Lib.hid hrl
    clear ha hzl hz2
    go_enter Try.func6, Try.ntmps6
    go_wp2_with fail
    refine (HT.out _ (Below.refl _ _)).mono ?_
    rintro e w1 ⟨v1, rfl, ho1, hb1⟩
    go_wp2_with fail
    refine (H1.out _ _ _ ho1).mono ?_
    rintro e w2 ⟨w0, rfl, hr2, hb2⟩
    have hB2 := bt hb1 hb2
    go_wp2_with fail
    refine (HT.out _ hB2).mono ?_
    rintro e w3 ⟨x0, rfl, ho3, hb3⟩
    have hB3 := bt hB2 hb3
    go_wp2_with fail
    refine (H2.out _ _ _ ho3).mono ?_
    rintro e w4 ⟨g0, rfl, hr4, hb4⟩
    have hB4 := bt hB3 hb4
    have hw4 := own_keep (own_keep hr2 hb3) hb4
    have hx4 := own_keep ho3 hb4
    go_wp2_with fail
    refine (eqIntS_any _ _ _ _ _ hr4 hw4 HR.out HR.out).mono ?_
    rintro e w5 ⟨rfl, hb5⟩
    rw [decide_eq_true rfl]
    have hB5 := bt hB4 hb5
    go_wp2_with fail
    refine (HT.out _ hB5).mono ?_
    rintro e w6 ⟨x1, rfl, ho6, hb6⟩
    have hB6 := bt hB5 hb6
    have hb56 := bt hb5 hb6
    go_wp2_with fail
    refine (eqIntS_any _ _ _ _ _ (own_keep hx4 hb56) ho6 HZ.out HZ.out).mono ?_
    rintro e w7 ⟨rfl, hb7⟩
    rw [decide_eq_true rfl]
    have hB7 := bt hB6 hb7
    have hb47 := bt hb56 hb7
    go_wp2_with fail
    refine (markIntS_any _ xs 1 w7 (own_keep hx4 hb47) HZ.out (by omega) (by omega)).mono ?_
    rintro e w8 ⟨rfl, ho8, hb8, hz8, hon8⟩
    have hB8 : Below w.heap.size w w8 := hB7.trans (hb8.mono hB2.size)
    have hw8 := own_only (own_keep hw4 hb47) hon8 (own_apart hr2 ho3 (Nat.le_refl _)).2
    have hg8 := own_only (own_keep hr4 hb47) hon8 (own_apart ho3 hr4 (Nat.le_refl _)).1
    have hk8 : (0 : Int) ≤ 1 + (xs.length : Int) := by omega
    have hk8' : 1 + (xs.length : Int) ≤ 1073741825 := by have := HZ.out; omega
    go_wp2_with fail
    refine (eqIntS_any _ _ _ _ _ hg8 hw8 HR.out HR.out).mono ?_
    rintro e w9 ⟨rfl, hb9⟩
    rw [decide_eq_true rfl]
    have hB9 := bt hB8 hb9
    go_wp2_with fail
    refine (markIntS_any _ rs 1 w9 (own_keep hg8 hb9) HR.out (by omega) (by omega)).mono ?_
    rintro e w10 ⟨rfl, ho10, hb10, hz10, hon10⟩
    have hB10 : Below w.heap.size w w10 := hB9.trans (hb10.mono hB3.size)
    have hw10 := own_only (own_keep hw8 hb9) hon10 (own_apart hr2 hr4 hb3.size).2
    have hq8 : (0 : Int) ≤ 1 + (rs.length : Int) := by omega
    have hq8' : 1 + (rs.length : Int) ≤ 1073741825 := by have := HR.out; omega
    go_wp2_with fail
    refine (heldIntS_any _ rs.length 1 w10 ho10 HR.out (by omega) (by omega)).mono ?_
    rintro e w11 ⟨rfl, hb11⟩
    have hB11 := bt hB10 hb11
    go_wp2_with fail
    refine (HT.out _ hB11).mono ?_
    rintro e w12 ⟨x2, rfl, ho12, hb12⟩
    have hB12 := bt hB11 hb12
    go_wp2_with fail
    refine (H2.out _ _ _ ho12).mono ?_
    rintro e w13 ⟨h0, rfl, hr13, hb13⟩
    have hB13 := bt hB12 hb13
    have hb1013 := bt (bt hb11 hb12) hb13
    go_wp2_with fail
    refine (eqIntS_any _ _ _ _ _ hr13 (own_keep hw10 hb1013) HR.out HR.out).mono ?_
    rintro e w14 ⟨rfl, hb14⟩
    rw [decide_eq_true rfl]
    have hB14 := bt hB13 hb14
    go_wp2_with fail
    refine (heldIntS_any _ rs.length 1 w14 (own_keep ho10 (bt hb1013 hb14)) HR.out (by omega) (by omega)).mono ?_
    rintro e w15 ⟨rfl, hb15⟩
    have hB15 := bt hB14 hb15
    go_wp2
    go_ret
    exact ⟨rfl, hB15⟩
  · go_enter Try.func6, Try.ntmps6
    go_wp2
    go_ret
    exact ⟨rfl, Below.refl _ _⟩


end Go.Proofs.Ythgjghgkjhkbbaa
