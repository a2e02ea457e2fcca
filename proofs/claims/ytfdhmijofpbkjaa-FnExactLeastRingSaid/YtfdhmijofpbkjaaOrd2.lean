/-
  Contracts: is a list an order (the reference and the program). Condition: a list that the call owns.
-/
import Derived.Test.YtfdhmijofpbkjaaOrd
namespace Go.Proofs.Ytfdhmijofpbkjaa
open Go.RowKit
set_option linter.unusedVariables false


theorem isD_in (x : Int) : inB x 0 9 = isD x := by
  unfold inB isD
  by_cases h0 : 0 ≤ x <;> by_cases h1 : x ≤ 9 <;> simp [h0, h1]
theorem isDigitD_any (n : Int) (w : World) : Calls Try.prog 29 #[.int .i64 n] w fun e w' => e = .returned (.bool (isD n)) ∧ w = w' := by
  rw [← isD_in]
  have HW := Lib.hid (within_any n 0 9)
  go_enter Try.func29, Try.ntmps29
  go_wp2_with ((go_at_call 39; refine (HW.out _).mono ?_; rintro e w1 ⟨rfl, rfl⟩))
  go_ret
  exact ⟨rfl, rfl⟩
theorem l1InD_any (n : Int) (w : World) : Calls Try.prog 19 #[.int .i64 n, .int .i64 0, .int .i64 9] w fun e w' => e = .returned (.bool (isD n)) ∧ w = w' := by
  rw [← isD_in]; exact l1In_any n 0 9 w

set_option maxHeartbeats 2000000 in
theorem isOrder_any {A : Nat} (v : Value) (xs : List Int) (w : World) (hv : Own A w v xs) (hx : xs.length ≤ 1073741824) :
    Calls Try.prog 22 #[v] w fun e w' => e = .returned (.bool (ordB xs)) ∧ w = w' := by
  rcases own_cases hv with ⟨rfl, rfl⟩ | ⟨g, cap, rfl, hg1, hg2, hg3, hg4, hgc, hgf⟩
  · go_enter Try.func22, Try.ntmps22
    go_wp2
    refine wp_loop_rounds 1 ?_
    rw [rounds_succ]
    go_wp2
    go_ret
    exact ⟨rfl, rfl⟩
  · obtain ⟨n, hn⟩ : ∃ n, xs.length = n := ⟨_, rfl⟩
    have HX := Lib.hid hx
    rw [hn] at hgc hg3 hx ⊢
    have HN := Lib.hid hn
    have HC := Lib.hid hgc
    clear hgc hgf hn hv hg1 hg2 hg4
    go_enter Try.func22, Try.ntmps22
    go_wp2
    go_loop [7] (fun iv => ∃ i : Nat, i ≤ n ∧ iv = .int .i64 i ∧ ∀ j, j < i → okAt xs j = true) (fun iv => n - (intOf iv).toNat)
    case atStart => exact ⟨0, by omega, rfl, fun j hj => absurd hj (Nat.not_lt_zero _)⟩
    case round =>
      obtain ⟨i, hi, rfl, hall⟩ := hrel
      have HA := Lib.hid hall
      clear hall
      by_cases hlt : i < n
      · have hcell := HC.out i hlt
        have hok := okAt_is xs i
        have HK := Lib.hid (fun w (h : ∀ j, j < xs.length → w.cell? ⟨g, j, none⟩ = some (.int .i64 (xs.getD j 0))) => containsI_any g cap i xs (xs.getD i 0) w (by rw [HN.out]; omega) HX.out h)
        generalize hasB (xs.getD i 0) xs i = b at hok HK
        generalize xs.getD i 0 = d at hcell hok HK
        have HD := Lib.hid (isDigitD_any d)
        generalize isD d = q at hok HD
        have HOK := Lib.hid hok
        have HCW : Hid (∀ j, j < xs.length → w.cell? ⟨g, j, none⟩ = some (.int .i64 (xs.getD j 0))) := by rw [HN.out]; exact HC.out
        have hic : (i : Int) ≤ (cap : Int) := by omega
        clear hok
        have hok2 := HOK.out
        cases q
        · have HF := Lib.hid (ordB_no xs i (by rw [HN.out]; exact hlt) hok2)
          clear hok2
          go_wp2_with ((go_at_call 29; refine (HD.out _).mono ?_; rintro e w1 ⟨rfl, rfl⟩))
          go_ret
          exact ⟨by rw [HF.out]; rfl, rfl⟩
        · cases b
          · have HT := Lib.hid hok2
            clear hok2
            go_wp2_with (first | (go_at_call 29; refine (HD.out _).mono ?_; rintro e w1 ⟨rfl, rfl⟩) | (go_at_call 30; refine (HK.out _ HCW.out).mono ?_; rintro e w1 ⟨rfl, rfl⟩))
            go_round
            case rel => exact ⟨i + 1, by omega, by go_num, fun j hj => by by_cases e : j = i; (subst e; exact HT.out); exact HA.out j (by omega)⟩
            case measure => simp [intOf]; omega
          · have HF := Lib.hid (ordB_no xs i (by rw [HN.out]; exact hlt) hok2)
            clear hok2
            go_wp2_with (first | (go_at_call 29; refine (HD.out _).mono ?_; rintro e w1 ⟨rfl, rfl⟩) | (go_at_call 30; refine (HK.out _ HCW.out).mono ?_; rintro e w1 ⟨rfl, rfl⟩))
            go_ret
            exact ⟨by rw [HF.out]; rfl, rfl⟩
      · obtain rfl : i = n := by omega
        have HT := Lib.hid (ordB_yes xs (fun j hj => HA.out j (by rw [← HN.out]; exact hj)))
        go_wp2
        go_ret
        exact ⟨by rw [HT.out]; rfl, rfl⟩
theorem quiet_of_eqO {P : Program} {f : FuncId} {args : Array Value} {w : World} {n : Nat} {v : Value}
    (h : Calls P f args (w.drewN n) fun e w' => e = .returned v ∧ w.drewN n = w') : Calls P f args (w.drewN n) fun e w'' => e = .returned v ∧ ∃ m, w'' = w.drewN m :=
  h.mono fun _ _ ⟨he, hm⟩ => ⟨he, n, hm.symm⟩
set_option maxHeartbeats 2000000 in
theorem l4Order_any {A : Nat} (v : Value) (xs : List Int) (w : World) (hv : Own A w v xs) (hx : xs.length ≤ 1073741824) :
    Calls Try.prog 13 #[v] w fun e w' => e = .returned (.bool (ordB xs)) ∧ Below w.heap.size w w' := by
  rcases own_cases hv with ⟨rfl, rfl⟩ | ⟨g, cap, rfl, hg1, hg2, hg3, hg4, hgc, hgf⟩
  · go_enter Try.func13, Try.ntmps13
    go_wp2
    refine wp_loop_rounds 1 ?_
    rw [rounds_succ]
    go_wp2
    go_ret
    exact ⟨rfl, Below.refl _ _⟩
  · obtain ⟨n, hn⟩ : ∃ n, xs.length = n := ⟨_, rfl⟩
    have HX := Lib.hid hx
    rw [hn] at hgc hg3 hx ⊢
    have HN := Lib.hid hn
    have HC := Lib.hid hgc
    clear hgc hgf hn hv hg1 hg4
    go_enter Try.func13, Try.ntmps13
    go_wp2
    go_loopw [3] (fun iv wr => ∃ i : Nat, i ≤ n ∧ i ≤ 11 ∧ iv = .int .i64 i ∧ (∀ j, j < i → okAt xs j = true) ∧ Below w.heap.size w wr) (fun iv _ => 11 - (intOf iv).toNat)
    case atStart => exact ⟨0, by omega, by omega, rfl, fun j hj => absurd hj (Nat.not_lt_zero _), Below.refl _ _⟩
    case round =>
      obtain ⟨i, hi, hi11, rfl, hall, hb⟩ := hrel
      have HB := Lib.hid hb
      have HCW2 : Hid (∀ q j, j < xs.length → (wr.drewN q).cell? ⟨g, j, none⟩ = some (.int .i64 (xs.getD j 0))) := fun q j hj => by rw [(below_drewN wr q).cell (p := ⟨g, j, none⟩) (Nat.lt_of_lt_of_le hg2 hb.size), hb.cell (p := ⟨g, j, none⟩) hg2]; exact HC.out j (by rw [← HN.out]; exact hj)
      clear hb
      have HA := Lib.hid hall
      clear hall
      by_cases hlt : i < n ∧ i ≤ 10
      · obtain ⟨hlt, hlt10⟩ := hlt
        have hcell : wr.cell? ⟨g, i, none⟩ = some (.int .i64 (xs.getD i 0)) := HCW2.out 0 i (by rw [HN.out]; exact hlt)
        have hi0 : (i : Int) < (n : Int) := by omega
        have hok := okAt_is xs i
        have HK := Lib.hid (fun w (h : ∀ j, j < xs.length → w.cell? ⟨g, j, none⟩ = some (.int .i64 (xs.getD j 0))) => l1Has_any g cap i xs (xs.getD i 0) w (by rw [HN.out]; omega) HX.out h)
        generalize hasB (xs.getD i 0) xs i = b at hok HK
        generalize xs.getD i 0 = d at hcell hok HK
        have HD := Lib.hid (l1InD_any d)
        generalize isD d = q at hok HD
        have HOK := Lib.hid hok
        have hic : (i : Int) ≤ (cap : Int) := by omega
        clear hok
        have hok2 := HOK.out
        cases q
        · have HF := Lib.hid (ordB_no xs i (by rw [HN.out]; exact hlt) hok2)
          clear hok2
          go_wp2
          go_quiet ((go_at_call 19; exact quiet_of_eqO (HD.out _)))
          go_wp2
          go_ret
          exact ⟨by rw [HF.out]; rfl, bt HB.out (below_drewN _ _)⟩
        · cases b
          · have HT := Lib.hid hok2
            clear hok2
            go_wp2
            go_quiet (first | (go_at_call 19; exact quiet_of_eqO (HD.out _)) | (go_at_call 20; exact quiet_of_eqO (HK.out _ (HCW2.out _))))
            go_wp2
            go_roundw
            case rel => exact ⟨i + 1, by omega, by omega, by go_num, fun j hj => by by_cases e : j = i; (subst e; exact HT.out); exact HA.out j (by omega), bt HB.out (below_drewN _ _)⟩
            case measure => simp [intOf]; omega
          · have HF := Lib.hid (ordB_no xs i (by rw [HN.out]; exact hlt) hok2)
            clear hok2
            go_wp2
            go_quiet (first | (go_at_call 19; exact quiet_of_eqO (HD.out _)) | (go_at_call 20; exact quiet_of_eqO (HK.out _ (HCW2.out _))))
            go_wp2
            go_ret
            exact ⟨by rw [HF.out]; rfl, bt HB.out (below_drewN _ _)⟩
      · by_cases hn10 : n ≤ 10
        · obtain rfl : i = n := by omega
          have HT := Lib.hid (ordB_yes xs (fun j hj => HA.out j (by rw [← HN.out]; exact hj)))
          go_wp2
          go_ret
          exact ⟨ret_bool (by rw [HT.out]; exact decide_eq_true (by omega)), HB.out⟩
        · have HT := Lib.hid (ordB_long xs (by rw [HN.out]; exact hn10))
          obtain rfl : i = 11 := by omega
          by_cases hn11 : n = 11
          · subst hn11
            clear hn10 hlt
            go_wp2
            go_ret
            exact ⟨by rw [HT.out]; rfl, HB.out⟩
          · have h11 : 11 < n := by omega
            have h11' : (11 : Int) < (n : Int) := by omega
            clear hlt
            go_wp2
            go_ret
            exact ⟨ret_bool (by rw [HT.out]; exact decide_eq_false (by omega)), HB.out⟩

end Go.Proofs.Ytfdhmijofpbkjaa
