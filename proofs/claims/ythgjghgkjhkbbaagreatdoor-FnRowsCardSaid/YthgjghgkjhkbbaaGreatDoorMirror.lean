/-
  The law FnExactMirrorRow returns true, whatever the list. No condition.
-/
import Derived.Test.YthgjghgkjhkbbaaGreatDoorBack
namespace Go.Proofs.YthgjghgkjhkbbaaGreatDoor
open Go.RowKit
set_option linter.unusedVariables false
set_option maxRecDepth 20000

set_option maxHeartbeats 2000000 in
theorem l2MirrorRow_any {A : Nat} (v : Value) (xs : List Int) (w : World) (hv : Own A w v xs) (hr : isRow xs = true) :
    Calls Tryz.prog 44 #[v] w fun e w' => ∃ u, e = .returned u ∧ Own w.heap.size w' u (tRow mirFrom xs) ∧ Below w.heap.size w w' := by
  obtain ⟨i0, hi, hz0, hz1, hz2⟩ := info_parts info_int
  have hl6 := isRow_len xs hr
  have HCe := Lib.hid (isRow_cell xs hr)
  clear hr
  have HE : Hid (∀ w : World, Own w.heap.size (w.alloc (.cells #[] 3)) (.slice (some ⟨w.heap.size, 0, none⟩) 0 0) []) := fun w => World.ownsRow_lit w #[] 0 (Nat.le_refl _) (Nat.zero_le _) rfl
  rcases own_cases hv with ⟨rfl, rfl⟩ | ⟨g, cap, rfl, hg1, hg2, hg3, hg4, hgc, hgf⟩
  · go_enter Tryz.func44, Tryz.ntmps44
    go_wp2
    refine wp_loop_rounds 1 ?_
    rw [rounds_succ]
    go_wp2
    go_ret
    exact ⟨_, rfl, HE.out w, (Below.refl _ _).alloc (Nat.le_refl _) _⟩
  · generalize hn : xs.length = n at *
    have HN := Lib.hid hn
    have HC := Lib.hid hgc
    clear hgc hgf hn hv hg1 hg3 hg4
    go_enter Tryz.func44, Tryz.ntmps44
    go_wp2
    go_loopw [3, 4] (fun uv iv wr => ∃ k : Nat, k ≤ n ∧ iv = .int .i64 ((n : Int) - 1 - k) ∧ Own w.heap.size wr uv (tRow mirFrom (xs.drop (n - k))) ∧ Below w.heap.size w wr) (fun _ iv _ => ((intOf iv) + 1).toNat)
    case atStart => exact ⟨0, by omega, by simp, by rw [List.drop_eq_nil_of_le (by rw [HN.out]; exact Nat.le_refl _)]; exact HE.out w, (Below.refl _ _).alloc (Nat.le_refl _) _⟩
    case round =>
      obtain ⟨k, hk, rfl, ho, hb⟩ := hrel
      by_cases hlt : k < n
      · have hkk : n - 1 - k < n := by omega
        have hcell : wr.cell? ⟨g, n - 1 - k, none⟩ = some (.int .i64 (xs.getD (n - 1 - k) 0)) := by rw [hb.cell (p := ⟨g, n - 1 - k, none⟩) hg2]; exact HC.out _ hkk
        have hcr := HCe.out (n - 1 - k) hkk
        generalize hxi : xs.getD (n - 1 - k) 0 = x at hcell hcr
        obtain ⟨c, rfl⟩ := Int.eq_ofNat_of_zero_le hcr.1
        have hc : c < 128 := by omega
        have HX := Lib.hid hxi
        have HO := Lib.hid ho
        have HB := Lib.hid hb
        have ei : (n : Int) - 1 - (k : Int) = ((n - 1 - k : Nat) : Int) := by omega
        rw [ei]
        have hi0 : (0 : Int) ≤ ((n - 1 - k : Nat) : Int) := by omega
        generalize hq : n - 1 - k = q at *
        have HQ := Lib.hid hq
        clear hxi ho hb hcr ei hq
        go_wp2_with fail
        refine (l2Mirror_any c _ hc).mono ?_
        rintro e w2 ⟨rfl, hb2⟩
        have HB2 := Lib.hid hb2
        have hown : w2.ownsRow w.heap.size 3 1 u3 _ _ := own_keep HO.out hb2
        have hsz := hb2.size
        have hsz0 := HB.out.size
        have hlen : (tRow mirFrom (xs.drop (n - k))).length ≤ 6 := by
          simp only [tRow, List.length_reverse, List.length_map, List.length_drop]; rw [HN.out]; omega
        clear hb2
        go_wp2_with ((at_builtin; refine wpList_append_own _ rfl _ _ 25 rfl w.heap.size 3 i0 (.int .i64 0) 1 8 Tryz.underlying25 hi hz0 hz1 hz2 rfl (by decide) _ _ _ rfl (hown.alloc _) ⟨w2.heap.size, 0, none⟩ 1 1 [.int .i64 (mirFrom c 7 : Nat)] rfl rfl ?c1 ?c2 ?c3 ?c4 ?c5 ?_))
        case c1 =>
          intro j u hj
          match j, hj with
          | 0, hj => simp at hj; subst hj; simp [Addr.add]
        case c2 => intro u hu; simp at hu; subst hu; rfl
        case c3 => unfold maxLen; omega
        case c4 => omega
        case c5 => simp; omega
        intro v' w3 hown' hgrow _
        have ho3 := own_push hown'
        have hb3 : Below w.heap.size w w3 := ((HB.out.trans (HB2.out.mono hsz0)).alloc (Nat.le_trans hsz0 hsz) _).grown hgrow (by simp; omega) (fun k hk => (World.ownsRow.lt hown k hk).1)
        have HO3 := Lib.hid ho3
        have HB3 := Lib.hid hb3
        clear hown hown' hgrow ho3 hb3 hlen
        go_wp2
        go_roundw
        case rel =>
          have e1 : (q : Int) - 1 = (n : Int) - 1 - ((k + 1 : Nat) : Int) := by have := HQ.out; omega
          exact ⟨k + 1, by omega, by rw [e1], by rw [tRow_step mirFrom xs n k c HN.out hlt (by rw [HQ.out]; exact HX.out)]; exact HO3.out, HB3.out⟩
        case measure => simp [intOf] <;> omega
      · obtain rfl : k = n := by omega
        rw [Nat.sub_self, List.drop_zero] at ho
        have en : (k : Int) - 1 - (k : Int) = -1 := by omega
        rw [en]
        go_wp2
        go_ret
        exact ⟨_, rfl, ho, hb⟩

set_option maxHeartbeats 2000000 in
theorem backMirrored_any {A : Nat} (v : Value) (xs : List Int) (w : World) (hv : Own A w v xs) (hr : isRow xs = true) :
    Calls Tryz.prog 37 #[v, .func (.func 43) #[] #[]] w fun e w' => ∃ u, e = .returned u ∧ Own w.heap.size w' u (tRow mirFrom xs) ∧ Below w.heap.size w w' := by
  obtain ⟨i0, hi, hz0, hz1, hz2⟩ := info_parts info_int
  have hl6 := isRow_len xs hr
  have HCe := Lib.hid (isRow_cell xs hr)
  clear hr
  rcases own_cases hv with ⟨rfl, rfl⟩ | ⟨g, cap, rfl, hg1, hg2, hg3, hg4, hgc, hgf⟩
  · go_enter Tryz.func37, Tryz.ntmps37
    go_wp2
    refine wp_loop_rounds 1 ?_
    rw [rounds_succ]
    go_wp2_with ((go_at_call 67; refine (reverse_any (B := w.heap.size) _ [] _ (World.ownsRow_nil _ _ _ _) (by simp)).mono ?_; rintro e w1 ⟨rfl, ho1, hb1⟩))
    go_ret
    exact ⟨_, rfl, ho1, hb1⟩
  · generalize hn : xs.length = n at *
    have HN := Lib.hid hn
    have HC := Lib.hid hgc
    clear hgc hgf hn hv hg1 hg3 hg4
    go_enter Tryz.func37, Tryz.ntmps37
    go_wp2
    go_loopw [5, 10] (fun uv iv wr => ∃ k : Nat, k ≤ n ∧ iv = .int .i64 k ∧ Own w.heap.size wr uv (fRow mirFrom (xs.take k)) ∧ Below w.heap.size w wr) (fun _ iv _ => n - (intOf iv).toNat)
    case atStart => exact ⟨0, by omega, rfl, World.ownsRow_nil _ _ _ _, Below.refl _ _⟩
    case round =>
      obtain ⟨k, hk, rfl, ho, hb⟩ := hrel
      by_cases hlt : k < n
      · have hcell : wr.cell? ⟨g, k, none⟩ = some (.int .i64 (xs.getD k 0)) := by rw [hb.cell (p := ⟨g, k, none⟩) hg2]; exact HC.out _ hlt
        have hcr := HCe.out k hlt
        generalize hxi : xs.getD k 0 = x at hcell hcr
        obtain ⟨c, rfl⟩ := Int.eq_ofNat_of_zero_le hcr.1
        have hc : c < 128 := by omega
        have HX := Lib.hid hxi
        have HO := Lib.hid ho
        have HB := Lib.hid hb
        clear hxi ho hb hcr
        go_wp2_with fail
        refine (mirrored_any c _ hc).mono ?_
        rintro e w2 ⟨rfl, hb2⟩
        have HB2 := Lib.hid hb2
        have hown : w2.ownsRow w.heap.size 3 1 u5 _ _ := own_keep HO.out hb2
        have hsz := hb2.size
        have hsz0 := HB.out.size
        have hlen : (fRow mirFrom (xs.take k)).length ≤ 6 := by
          simp only [fRow, List.length_map, List.length_take]; omega
        clear hb2
        go_wp2_with ((at_builtin; refine wpList_append_own _ rfl _ _ 25 rfl w.heap.size 3 i0 (.int .i64 0) 1 8 Tryz.underlying25 hi hz0 hz1 hz2 rfl (by decide) _ _ _ rfl (hown.alloc _) ⟨w2.heap.size, 0, none⟩ 1 1 [.int .i64 (mirFrom c 7 : Nat)] rfl rfl ?c1 ?c2 ?c3 ?c4 ?c5 ?_))
        case c1 =>
          intro j u hj
          match j, hj with
          | 0, hj => simp at hj; subst hj; simp [Addr.add]
        case c2 => intro u hu; simp at hu; subst hu; rfl
        case c3 => unfold maxLen; omega
        case c4 => omega
        case c5 => simp; omega
        intro v' w3 hown' hgrow _
        have ho3 := own_push hown'
        have hb3 : Below w.heap.size w w3 := ((HB.out.trans (HB2.out.mono hsz0)).alloc (Nat.le_trans hsz0 hsz) _).grown hgrow (by simp; omega) (fun k hk => (World.ownsRow.lt hown k hk).1)
        have HO3 := Lib.hid ho3
        have HB3 := Lib.hid hb3
        clear hown hown' hgrow ho3 hb3 hlen
        go_wp2
        go_roundw
        case rel => exact ⟨k + 1, by omega, by go_num, by rw [fRow_step mirFrom xs k c (by rw [HN.out]; exact hlt) HX.out]; exact HO3.out, HB3.out⟩
        case measure => simp [intOf]; omega
      · obtain rfl : k = n := by omega
        have he : xs.take k = xs := List.take_of_length_le (by rw [HN.out]; exact Nat.le_refl _)
        rw [he] at ho
        have hfl : (fRow mirFrom xs).length ≤ 1073741824 := by simp only [fRow, List.length_map]; rw [HN.out]; omega
        have HR := Lib.hid (reverse_any _ _ _ ho hfl)
        have HB := Lib.hid hb
        obtain ⟨a5, c5, rfl⟩ := own_shape ho
        clear ho hb he
        go_wp2_with ((go_at_call 67; refine HR.out.mono ?_; rintro e w1 ⟨rfl, ho1, hb1⟩))
        go_ret
        exact ⟨_, rfl, ho1, HB.out.trans hb1⟩

def mirFromR (xs : List Int) : List Int := if isRow xs then tRow mirFrom xs else []
theorem mirFromR_len (xs : List Int) : (mirFromR xs).length ≤ 6 := by
  unfold mirFromR
  split
  · next h => have := isRow_len xs h; simpa [tRow] using this
  · simp

set_option maxHeartbeats 1000000 in
theorem specMirrorRow_any {A : Nat} (v : Value) (xs : List Int) (w : World) (hv : Own A w v xs) (hx : xs.length ≤ 1073741824) :
    Calls Tryz.prog 14 #[v] w fun e w' => ∃ u, e = .returned (.tuple #[u, .bool (isRow xs)]) ∧ Own w.heap.size w' u (mirFromR xs) ∧ Below w.heap.size w w' := by
  have H1 := Lib.hid (l2Row_any v xs w hv hx)
  have HK := Lib.hid (fun w1 (h : Below w.heap.size w w1) => own_keep hv h)
  by_cases hr : isRow xs = true
  · have H2 := Lib.hid (fun w1 (h : Own A w1 v xs) => l2MirrorRow_any v xs w1 h hr)
    have e : mirFromR xs = tRow mirFrom xs := if_pos hr
    rw [e]
    rw [hr] at H1 ⊢
    clear hv e hr
    go_enter Tryz.func14, Tryz.ntmps14
    go_wp2_with (first | (go_at_call 39; refine H1.out.mono ?_; rintro e w1 ⟨rfl, hb1⟩) | (go_at_call 44; refine (H2.out _ (HK.out _ hb1)).mono ?_; rintro e w2 ⟨u, rfl, ho2, hb2⟩))
    go_ret2
    exact ⟨_, rfl, own_mono ho2 hb1.size, bt hb1 hb2⟩
  · have hr' : isRow xs = false := by simpa using hr
    have e : mirFromR xs = [] := if_neg hr
    rw [e]
    rw [hr'] at H1 ⊢
    clear hv e hr hr'
    go_enter Tryz.func14, Tryz.ntmps14
    go_wp2_with ((go_at_call 39; refine H1.out.mono ?_; rintro e w1 ⟨rfl, hb1⟩))
    go_ret2
    exact ⟨_, rfl, own_mono (World.ownsRow_lit w1 #[] 0 (Nat.le_refl _) (Nat.zero_le _) rfl) hb1.size, bt hb1 ((Below.refl _ _).alloc (Nat.le_refl _) _)⟩

set_option maxHeartbeats 1000000 in
theorem implMirrorRow_any {A : Nat} (v : Value) (xs : List Int) (w : World) (hv : Own A w v xs) (hx : xs.length ≤ 1073741824) :
    Calls Tryz.prog 13 #[v] w fun e w' => ∃ u, e = .returned (.tuple #[u, .bool (isRow xs)]) ∧ Own w.heap.size w' u (mirFromR xs) ∧ Below w.heap.size w w' := by
  have H1 := Lib.hid (implIsRow_any v xs w hv hx)
  have HK := Lib.hid (fun w1 (h : Below w.heap.size w w1) => own_keep hv h)
  by_cases hr : isRow xs = true
  · have H2 := Lib.hid (fun w1 (h : Own A w1 v xs) => backMirrored_any v xs w1 h hr)
    have e : mirFromR xs = tRow mirFrom xs := if_pos hr
    rw [e]
    rw [hr] at H1 ⊢
    clear hv e hr
    go_enter Tryz.func13, Tryz.ntmps13
    go_wp2_with (first | (go_at_call 12; refine H1.out.mono ?_; rintro e w1 ⟨rfl, hb1⟩) | (go_at_call 37; refine (H2.out _ (HK.out _ hb1)).mono ?_; rintro e w2 ⟨u, rfl, ho2, hb2⟩))
    go_ret2
    exact ⟨_, rfl, own_mono ho2 hb1.size, bt hb1 hb2⟩
  · have hr' : isRow xs = false := by simpa using hr
    have e : mirFromR xs = [] := if_neg hr
    rw [e]
    rw [hr'] at H1 ⊢
    clear hv e hr hr'
    go_enter Tryz.func13, Tryz.ntmps13
    go_wp2_with ((go_at_call 12; refine H1.out.mono ?_; rintro e w1 ⟨rfl, hb1⟩))
    go_ret2
    exact ⟨_, rfl, World.ownsRow_nil _ _ _ _, hb1⟩

end Go.Proofs.YthgjghgkjhkbbaaGreatDoor
