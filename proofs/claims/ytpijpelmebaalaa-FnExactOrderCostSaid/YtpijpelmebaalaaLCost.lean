/-
  The law FnExactOrderCost returns true, whatever the list. No condition.
-/
import Derived.Test.YtpijpelmebaalaaCost
import Derived.Test.YtpijpelmebaalaaTo
import Derived.Test.YtpijpelmebaalaaShelf
import Derived.Test.YtpijpelmebaalaaCtrS
import Derived.Deep.RegionHeld3
import Derived.Deep.AppendLies
namespace Go.Proofs.Ytpijpelmebaalaa
open Go.RowKit
set_option linter.unusedVariables false


def ocI (xs : List Int) (ring : Bool) : Int × Bool := if ordB xs then ((costN xs ring : Int), true) else (0, false)

set_option maxHeartbeats 2000000 in
theorem specOrderCost_any {A : Nat} (v : Value) (xs : List Int) (ring : Bool) (w : World) (hv : Own A w v xs) (hx : xs.length ≤ 1073741824) :
    Calls Try.prog 36 #[v, .bool ring] w fun e w' => e = .returned (.tuple #[.int .i64 (ocI xs ring).1, .bool (ocI xs ring).2]) ∧ Below w.heap.size w w' := by
  have H1 := Lib.hid (l4Order_any v xs w hv hx)
  have HV := Lib.hid hv
  unfold ocI
  by_cases ho : ordB xs = true
  · rw [if_pos ho]
    rw [ho] at H1
    have hl := ordB_len xs ho
    have HC := Lib.hid (fun (A : Nat) w (h : Own A w v xs) => l4Cost_any v xs ring w h (by omega) (ordB_rng xs ho))
    generalize costN xs ring = c at HC
    clear hv ho
    go_enter Try.func36, Try.ntmps36
    go_wp2_with fail
    refine H1.out.mono ?_
    rintro e w1 ⟨rfl, hb1⟩
    have HV1 := Lib.hid (own_keep HV.out hb1)
    have HB1 := Lib.hid hb1
    clear hb1
    go_wp2_with ((go_at_call 72; refine (HC.out _ _ HV1.out).mono ?_; rintro e w2 ⟨rfl, hb2⟩))
    go_ret2
    exact ⟨rfl, bt HB1.out hb2⟩
  · have ho' : ordB xs = false := by simpa using ho
    rw [if_neg ho]
    rw [ho'] at H1
    clear hv ho ho'
    go_enter Try.func36, Try.ntmps36
    go_wp2_with ((go_at_call 71; refine H1.out.mono ?_; rintro e w1 ⟨rfl, hb1⟩))
    go_ret2
    exact ⟨rfl, hb1⟩

theorem below_drewC {N : Nat} {w0 W : World} (hz : N ≤ W.heap.size) (h : Below N w0 W) : Below N w0 W.drew := h.trans ((below_drew1 W).mono hz)
theorem news_one {W : World} {k : Nat} {v : Value} (h : W.cell? ⟨k, 0, none⟩ = some v) : ∀ j u, [v][j]? = some u → W.cell? ((⟨k, 0, none⟩ : Addr).add j) = some u := by
  intro j u hj
  match j, hj with
  | 0, hj => simp at hj; subst hj; simpa [Addr.add] using h
theorem one_cell (x : Int) : ∀ u ∈ [Value.int .i64 x], u.oneCell' = true := by intro u hu; simp at hu; subst hu; rfl
theorem getD_snoc (xs : List Int) (x : Int) (i : Nat) : (xs ++ [x]).getD i 0 = if i < xs.length then xs.getD i 0 else if i = xs.length then x else 0 := by
  by_cases h : i < xs.length
  · rw [if_pos h]; simp [List.getD, List.getElem?_append_left h]
  · rw [if_neg h]
    by_cases e : i = xs.length
    · subst e; simp [List.getD]
    · rw [if_neg e]
      simp only [List.getD]
      rw [List.getElem?_eq_none (by simp; omega)]; rfl
theorem dcN_snoc (xs : List Int) (x : Int) : ∀ i, i < xs.length → dcN (xs ++ [x]) i = dcN xs i
  | 0, _ => rfl
  | i + 1, h => by
    simp only [dcN]
    rw [dcN_snoc xs x i (by omega), getD_snoc, getD_snoc, if_pos (by omega), if_pos (by omega)]
theorem dcN_ring (xs : List Int) (x : Int) (h : 0 < xs.length) : dcN (xs ++ [x]) ((xs ++ [x]).length - 1) = dcN xs (xs.length - 1) + farT (xs.getD (xs.length - 1) 0).toNat x.toNat := by
  obtain ⟨m, hm⟩ : ∃ m, xs.length = m + 1 := ⟨xs.length - 1, by omega⟩
  rw [List.length_append, hm]
  show dcN (xs ++ [x]) (m + 1) = _
  simp only [dcN, Nat.add_sub_cancel]
  rw [dcN_snoc xs x m (by omega), getD_snoc, getD_snoc, if_pos (by omega), if_neg (by omega), if_pos (by omega)]

set_option maxRecDepth 100000 in
set_option maxHeartbeats 4000000 in
theorem implOrderCost_any {A : Nat} (v : Value) (xs : List Int) (ring : Bool) (w : World) (hv : Own A w v xs) (hx : xs.length ≤ 1073741824) :
    Calls Try.prog 38 #[v, .bool ring] w fun e w' => e = .returned (.tuple #[.int .i64 (ocI xs ring).1, .bool (ocI xs ring).2]) ∧ Below w.heap.size w w' := by
  obtain ⟨i0, hi, hz0, hz1, hz2⟩ := info_parts info_int
  have H1 := Lib.hid (isOrder_any v xs w hv hx)
  have HV := Lib.hid hv
  unfold ocI
  by_cases ho : ordB xs = true
  · rw [if_pos ho]
    rw [ho] at H1
    have hl := ordB_len xs ho
    have HR := Lib.hid (ordB_rng xs ho)
    have HCO : Hid (costN xs ring = if ring && decide (0 < xs.length) then dcN xs (xs.length - 1) + farT (xs.getD (xs.length - 1) 0).toNat (xs.getD 0 0).toNat else dcN xs (xs.length - 1)) := rfl
    by_cases hc : (ring && decide (0 < xs.length)) = true
    · have hco := HCO.out
      rw [if_pos hc] at hco
      rw [Bool.and_eq_true] at hc
      have hn1 : 0 < xs.length := of_decide_eq_true hc.2
      obtain rfl : ring = true := hc.1
      rcases own_cases hv with ⟨rfl, e2⟩ | ⟨g, cap, rfl, hg1, hg2, hg3, hg4, hgc, hgf⟩
      · rw [e2] at hn1; simp at hn1
      · have hc0 : w.cell? ⟨g, 0, none⟩ = some (.int .i64 (xs.getD 0 0)) := hgc 0 hn1
        have HG := Lib.hid hgc
        have hn0 : (0 : Int) < (xs.length : Int) := by omega
        generalize hx0 : xs.getD 0 0 = x0 at hc0 hco
        have HX0 := Lib.hid hx0
        have HCF := Lib.hid hco
        obtain ⟨n, hn⟩ : ∃ n, xs.length = n := ⟨_, rfl⟩
        have HN := Lib.hid hn
        rw [hn] at hn1 hn0 hl hg3 H1 ⊢
        have hsn : (xs ++ [x0]).length ≤ 11 := by rw [List.length_append, hn]; simp; omega
        have hdr := dcN_ring xs x0 (by omega)
        rw [hn] at hdr hco
        have HDC : Hid (∀ (A : Nat) v w, Own A w v (xs ++ [x0]) → Calls Try.prog 74 #[v] w fun e w' => e = .returned (.int .i64 (costN xs true : Nat)) ∧ Below w.heap.size w w') := Lib.hid (fun A v w h => by
          have := digitChanges_any v (xs ++ [x0]) w h hsn (fun i hi => by
            rw [getD_snoc]
            split
            · next h => exact HR.out i h
            · split
              · rw [← HX0.out]; exact HR.out 0 (by omega)
              · omega)
          rw [hdr, ← hco] at this
          exact this)
        have HCl : Hid (∀ W : World, Below w.heap.size w W → Calls Try.prog 75 #[.slice (some ⟨g, 0, none⟩) n cap] W fun e w' => ∃ u, e = .returned u ∧ Own w.heap.size w' u xs ∧ Below W.heap.size W w') := Lib.hid (fun W hW => by
          refine (Try.slices_Clone_int g 0 n cap xs W (by rw [hn]; exact Nat.le_refl _) (by omega) (fun j hj => by rw [Nat.zero_add, hW.cell (p := ⟨g, j, none⟩) hg2]; exact HG.out j hj)).mono ?_
          rintro e w' ⟨u, rfl, h1, _, h2⟩
          refine ⟨u, rfl, own_mono ?_ hW.size, h2⟩
          unfold Own
          rw [hn]
          rw [List.take_of_length_le (by rw [hn]; exact Nat.le_refl _)] at h1
          exact h1)
        have HCl1 : Hid (Calls Try.prog 75 #[.slice (some ⟨g, 0, none⟩) n cap] w.drew fun e w' => ∃ u, e = .returned u ∧ Own w.heap.size w' u xs ∧ Below w.heap.size w w') := Lib.hid (by
          refine (HCl.out w.drew (below_drew1 w)).mono ?_
          rintro e w' ⟨u, rfl, h1, h2⟩
          exact ⟨u, rfl, h1, bt (below_drew1 w) h2⟩)
        have HCl2 : Hid (Calls Try.prog 75 #[.slice (some ⟨g, 0, none⟩) n cap] (w.alloc (.cells #[.int .i64 x0] 3)).drew fun e w' => ∃ u, e = .returned u ∧ Own w.heap.size w' u xs ∧ Below w.heap.size w w' ∧ w'.cell? ⟨w.heap.size, 0, none⟩ = some (.int .i64 x0)) := Lib.hid (by
          have hw : Below w.heap.size w (w.alloc (.cells #[.int .i64 x0] 3)).drew := below_drewC (by simp) ((Below.refl _ _).alloc (Nat.le_refl _) _)
          refine (HCl.out _ hw).mono ?_
          rintro e w' ⟨u, rfl, h1, h2⟩
          refine ⟨u, rfl, h1, bt hw h2, ?_⟩
          rw [h2.cell (p := ⟨w.heap.size, 0, none⟩) (by simp)]
          simp)
        have HKG : Hid (∀ W : World, Below w.heap.size w W → W.cell? ⟨g, 0, none⟩ = some (.int .i64 x0) ∧ Below w.heap.size w W) := Lib.hid (fun W hW => ⟨by rw [hW.cell (p := ⟨g, 0, none⟩) hg2]; exact hc0, hW⟩)
        have hz1x : w.heap.size ≤ w.heap.size := Nat.le_refl _
        clear hv ho hc hco hgc hgf hx0 hn hg1 hg4 hdr hsn
        go_enter Try.func38, Try.ntmps38
        go_wp2_with ((go_at_call 73; refine H1.out.mono ?_; rintro e w1 ⟨rfl, rfl⟩))
        go_region_held3 (fun w' => w'.cell? ⟨g, 0, none⟩ = some (.int .i64 x0) ∧ Below w.heap.size w w') (first | exact HKG.out _ hB | exact HKG.out _ (below_drew1 w) | exact HKG.out _ (below_drewC (by simp) ((Below.refl _ _).alloc (Nat.le_refl _) _)) | exact HKG.out _ (hB.alloc hB.size _)) (first | (go_at_call 75; (with_reducible refine HCl1.out.mono ?_); rintro e w2 ⟨u, rfl, hO, hB⟩) | (go_at_call 75; (with_reducible refine HCl2.out.mono ?_); rintro e w2 ⟨u, rfl, hO, hB, hel⟩) | (go_at_call 74; refine (HDC.out _ _ _ (own_push hown9)).mono ?_; rintro e w10 ⟨rfl, hb10⟩; have hB := bt hB9 hb10) | (refine step_append_lies _ (by rfl) _ _ _ (by rfl) w.heap.size 3 i0 (.int .i64 0) 1 8 Try.underlying22 hi hz0 hz1 hz2 rfl (by omega) _ _ _ (by rfl) hO ⟨w.heap.size, 0, none⟩ 1 1 [.int .i64 x0] (by rfl) (by rfl) (news_one hel) (one_cell x0) (by omega) (by unfold maxLen; rw [HN.out]; omega) (by rw [HN.out]; omega) hB.size _ rfl ?_; intro g9 cap9 w9 hown9 hgrow hat hlt; have hB9 : Below w.heap.size w w9 := hB.grown hgrow hB.size (fun k hk => (own_lt hO k hk).1); have hB := hB9) | (refine step_append_lies _ (by rfl) _ _ _ (by rfl) w.heap.size 3 i0 (.int .i64 0) 1 8 Try.underlying22 hi hz0 hz1 hz2 rfl (by omega) _ _ _ (by rfl) (hO.alloc _) ⟨w2.heap.size, 0, none⟩ 1 1 [.int .i64 x0] (by rfl) (by rfl) (news_one (by simp)) (one_cell x0) (by omega) (by unfold maxLen; rw [HN.out]; omega) (by rw [HN.out]; omega) (by have := hB.size; simp; omega) _ rfl ?_; intro g9 cap9 w9 hown9 hgrow hat hlt; have hB9 : Below w.heap.size w w9 := (hB.alloc hB.size _).grown hgrow (by have := hB.size; simp; omega) (fun k hk => (own_lt hO k hk).1); have hB := hB9))
        all_goals
          go_wp2
          go_ret2
          exact ⟨rfl, hB⟩
    · have hco := HCO.out
      rw [if_neg hc] at hco
      have HCF := Lib.hid hco
      have HDC := Lib.hid (fun (A : Nat) w (h : Own A w v xs) => digitChanges_any v xs w h (by omega) HR.out)
      rw [← hco] at HDC
      generalize costN xs ring = c at HDC ⊢
      obtain ⟨a0, c0, rfl⟩ := own_shape hv
      have HVV := Lib.hid hv
      obtain ⟨n, hn⟩ : ∃ n, xs.length = n := ⟨_, rfl⟩
      rw [hn] at hc H1 HDC HVV ⊢
      clear hv ho hco hl hx HV HCO HCF
      cases ring
      · clear hc hn
        go_enter Try.func38, Try.ntmps38
        go_wp2_with (first | (go_at_call 73; refine H1.out.mono ?_; rintro e w1 ⟨rfl, rfl⟩) | (go_at_call 74; refine (HDC.out _ _ HVV.out).mono ?_; rintro e w2 ⟨rfl, hb2⟩))
        go_ret2
        exact ⟨rfl, hb2⟩
      · have hn0 : n = 0 := by simp at hc; exact hc
        subst hn0
        clear hc hn
        go_enter Try.func38, Try.ntmps38
        go_wp2_with (first | (go_at_call 73; refine H1.out.mono ?_; rintro e w1 ⟨rfl, rfl⟩) | (go_at_call 74; refine (HDC.out _ _ HVV.out).mono ?_; rintro e w2 ⟨rfl, hb2⟩))
        go_ret2
        exact ⟨rfl, hb2⟩
  · have ho' : ordB xs = false := by simpa using ho
    rw [if_neg ho]
    rw [ho'] at H1
    clear hv ho ho'
    go_enter Try.func38, Try.ntmps38
    go_wp2_with ((go_at_call 73; refine H1.out.mono ?_; rintro e w1 ⟨rfl, rfl⟩))
    go_ret2
    exact ⟨rfl, Below.refl _ _⟩

set_option maxHeartbeats 2000000 in
theorem walkFnExactOrderCost (a : Option Addr) (len cap : Nat) (zs : List Int) (ring : Bool) (w : World) (ha : InRow .i64 w a len cap zs) :
    Calls Try.prog 10 #[.slice a len cap, .bool ring] w fun e w' => e = .returned (.bool true) ∧ Below w.heap.size w w' := by
  have hlm : len ≤ 9223372036854775807 := by
    rcases ha with ⟨rfl, rfl, rfl, rfl⟩ | ⟨x, rfl, hlc, hm, _⟩
    · omega
    · unfold maxLen at hm; omega
  have hzl : (zs.take len).length ≤ len := by rw [List.length_take]; omega
  by_cases hl : len ≤ 1048576
  · have hz2 : (zs.take len).length ≤ 1073741824 := by omega
    have HT := Lib.hid (fun w hw => toIntS_any a len cap zs w _ ha hl hw)
    generalize zs.take len = xs at HT hz2 hzl
    have H1 := Lib.hid (fun (A : Nat) v w (h : Own A w v xs) => specOrderCost_any v xs ring w h hz2)
    have H2 := Lib.hid (fun (A : Nat) v w (h : Own A w v xs) => implOrderCost_any v xs ring w h hz2)
    generalize (ocI xs ring).1 = r1 at H1 H2
    generalize (ocI xs ring).2 = r2 at H1 H2
    have HZ := Lib.hid hz2
    clear ha hzl hz2
    go_enter Try.func10, Try.ntmps10
    go_wp2_with fail
    refine (HT.out _ (Below.refl _ _)).mono ?_
    rintro e w1 ⟨v1, rfl, ho1, hb1⟩
    go_wp2_with fail
    refine (H1.out _ _ _ ho1).mono ?_
    rintro e w2 ⟨rfl, hb2⟩
    go_wp2_with fail
    refine (HT.out _ (bt hb1 hb2)).mono ?_
    rintro e w3 ⟨x0, rfl, ho3, hb3⟩
    go_wp2_with fail
    refine (H2.out _ _ _ ho3).mono ?_
    rintro e w4 ⟨rfl, hb4⟩
    go_wp2_with fail
    refine (HT.out _ (bt (bt hb1 hb2) (bt hb3 hb4))).mono ?_
    rintro e w5 ⟨x1, rfl, ho5, hb5⟩
    go_wp2_with fail
    refine (eqIntS_any _ _ _ _ _ (own_keep (own_keep ho3 hb4) hb5) ho5 HZ.out HZ.out).mono ?_
    rintro e w6 ⟨rfl, hb6⟩
    rw [decide_eq_true rfl]
    go_wp2
    go_ret
    exact ⟨rfl, bt (bt (bt hb1 hb2) (bt hb3 hb4)) (bt hb5 hb6)⟩
  · go_enter Try.func10, Try.ntmps10
    go_wp2
    go_ret
    exact ⟨rfl, Below.refl _ _⟩

end Go.Proofs.Ytpijpelmebaalaa
