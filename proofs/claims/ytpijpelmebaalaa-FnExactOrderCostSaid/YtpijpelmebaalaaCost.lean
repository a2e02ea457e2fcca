/-
  Contracts: the cost of a list of digits (the reference and the program).
-/
import Derived.Test.YtpijpelmebaalaaOrd2
import Derived.Test.YtpijpelmebaalaaTabC
import Derived.Deep.RegionHeld3
namespace Go.Proofs.Ytpijpelmebaalaa
open Go.RowKit
set_option linter.unusedVariables false


/-- The changes over the first i pairs. -/
def dcN (xs : List Int) : Nat → Nat
  | 0 => 0
  | i + 1 => dcN xs i + farT (xs.getD i 0).toNat (xs.getD (i + 1) 0).toNat
theorem dcN_le (xs : List Int) : ∀ i, dcN xs i ≤ 7 * i
  | 0 => by simp [dcN]
  | i + 1 => by have := dcN_le xs i; have := farT_le (xs.getD i 0).toNat (xs.getD (i + 1) 0).toNat; simp only [dcN]; omega
theorem tabL_at (x y : Nat) (hx : x < 10) (hy : y < 10) : (tabL 100).getD (x * 10 + y) 0 = (farT x y : Int) := by
  have hl : x * 10 + y < (List.range 100).length := by rw [List.length_range]; omega
  unfold tabL
  simp only [List.getD, List.getElem?_map, List.getElem?_range (show x * 10 + y < 100 by omega), Option.map_some, Option.getD_some]
  rw [if_pos (by omega), show (x * 10 + y) / 10 = x by omega, show (x * 10 + y) % 10 = y by omega]
theorem boxT (w : World) : (w.alloc (.cells Try.zeroCells41 41)).there w.heap.size 0 tabC.size ∧ OwnT 41 w.heap.size ((w.alloc (.cells Try.zeroCells41 41)).setCells w.heap.size 0 tabC.toList) w.heap.size (tabL 100) ∧ Below w.heap.size w ((w.alloc (.cells Try.zeroCells41 41)).setCells w.heap.size 0 tabC.toList) := by
  have hO : OwnT 41 w.heap.size (w.alloc (.cells Try.zeroCells41 41)) w.heap.size (tabL 0) := ownT_new w Try.zeroCells41 (tabL 0) (Nat.le_refl _) (by rw [tabL_len]; decide) (by rw [zero41])
  have hl0 : 0 + (tabL 100).length = (tabL 0).length := by rw [tabL_len, tabL_len]
  have hR := ownT_setCells (tabL 100) 0 _ (tabL 0) hl0 hO
  rw [List.take_zero, List.nil_append] at hR
  have hCl : tabC.toList = (tabL 100).map (Value.int .i64) := by simp [tabC]
  rw [← hCl] at hR
  exact ⟨by rw [tabC_size]; exact ownT_there hO (tabL_len 0), hR, below_setCellsN (Nat.le_refl _) _ _ _ ((Below.refl _ _).alloc (Nat.le_refl _) _)⟩

set_option maxRecDepth 100000 in
set_option maxHeartbeats 4000000 in
theorem digitChanges_any {A : Nat} (v : Value) (xs : List Int) (w : World) (hv : Own A w v xs) (hx : xs.length ≤ 11) (hd : ∀ i, i < xs.length → 0 ≤ xs.getD i 0 ∧ xs.getD i 0 ≤ 9) :
    Calls Try.prog 74 #[v] w fun e w' => e = .returned (.int .i64 (dcN xs (xs.length - 1) : Nat)) ∧ Below w.heap.size w w' := by
  have HT := Lib.hid implTab_any
  have h1 : tabC.all (·.oneCell') = true := ones_all _
  have H1C := Lib.hid h1
  have HI : Hid ((Try.prog.info? 41).map (·.size) = some tabC.size) := by rw [tabC_size]; exact info41
  have HBX := Lib.hid boxT
  have HV := Lib.hid hv
  have HD := Lib.hid hd
  generalize tabC = C at HT H1C HI HBX
  obtain ⟨n, hn⟩ : ∃ n, xs.length = n := ⟨_, rfl⟩
  have HN := Lib.hid hn
  obtain ⟨a0, c0, rfl⟩ := own_shape hv
  rw [hn] at hx ⊢
  clear h1 hv hd hn
  go_enter Try.func74, Try.ntmps74
  go_wp2_with fail
  refine (HT.out _).mono ?_
  rintro e w1 ⟨rfl, hb1⟩
  obtain ⟨b1, b2, b3⟩ := HBX.out w1
  have B1 := Lib.hid b1
  have B2 := Lib.hid b2
  have B3 := Lib.hid (bt hb1 b3)
  have HV1 := Lib.hid (own_keep (own_keep HV.out hb1) b3)
  clear b1 b2 b3 hb1
  go_wp2_with ((refine wpList_store_mid rfl 41 _ _ rfl w1.heap.size 0 C rfl rfl B1.out HI.out H1C.out ?_))
  generalize (w1.alloc (.cells Try.zeroCells41 41)).setCells w1.heap.size 0 C.toList = W1 at B2 B3 HV1 ⊢
  generalize w1.heap.size = tb at B2 ⊢
  rcases own_cases HV1.out with ⟨e1, e2⟩ | ⟨g, cap, e1, hg1, hg2, hg3, hg4, hgc, hgf⟩
  · have hn0 : n = 0 := by rw [← HN.out, e2]; rfl
    subst hn0
    clear e1 e2
    refine wp_loop_rounds 1 ?_
    rw [rounds_succ]
    go_wp2
    go_ret
    exact ⟨rfl, B3.out⟩
  · rw [HN.out] at e1 hgc
    injection e1 with e3 e4 e5
    subst e3
    have HC := Lib.hid hgc
    have htl := (ownT_lt B2.out).2
    clear hgc hgf hg1 hg3 hg4 e4 e5
    go_loopw [4, 5] (fun sv iv wr => ∃ j : Nat, j ≤ n - 1 ∧ iv = .int .i64 ((j : Int) + 1) ∧ sv = .int .i64 (dcN xs j : Nat) ∧ Below W1.heap.size W1 wr) (fun _ iv _ => n - (intOf iv).toNat)
    case atStart => exact ⟨0, by omega, rfl, rfl, Below.refl _ _⟩
    case round =>
      obtain ⟨j, hj, rfl, rfl, hb⟩ := hrel
      have HB := Lib.hid hb
      have hle := dcN_le xs j
      by_cases hlt : j + 1 < n
      · have hcx : wr.cell? ⟨g, j, none⟩ = some (.int .i64 (xs.getD j 0)) := by rw [hb.cell (p := ⟨g, j, none⟩) hg2]; exact HC.out j (by omega)
        have hcy : wr.cell? ⟨g, j + 1, none⟩ = some (.int .i64 (xs.getD (j + 1) 0)) := by rw [hb.cell (p := ⟨g, j + 1, none⟩) hg2]; exact HC.out (j + 1) (by omega)
        have hdx := HD.out j (by rw [HN.out]; omega)
        have hdy := HD.out (j + 1) (by rw [HN.out]; omega)
        have HS : Hid (dcN xs (j + 1) = dcN xs j + farT (xs.getD j 0).toNat (xs.getD (j + 1) 0).toNat) := rfl
        generalize xs.getD j 0 = x at hcx hdx HS
        generalize xs.getD (j + 1) 0 = y at hcy hdy HS
        obtain ⟨p, rfl⟩ := Int.eq_ofNat_of_zero_le hdx.1
        obtain ⟨q, rfl⟩ := Int.eq_ofNat_of_zero_le hdy.1
        rw [Int.toNat_natCast, Int.toNat_natCast] at HS
        have hct : wr.cell? ⟨tb, p * 10 + q, none⟩ = some (.int .i64 (farT p q : Nat)) := by
          rw [hb.cell (p := ⟨tb, p * 10 + q, none⟩) htl, ownT_cell B2.out (p * 10 + q) (by rw [tabL_len]; omega), tabL_at p q (by omega) (by omega)]
        have hf7 := farT_le p q
        generalize farT p q = z at hct HS hf7
        generalize dcN xs j = s at HS hle ⊢
        have hp0 : (p : Int) < 10 := by omega
        have hq0 : (q : Int) < 10 := by omega
        have hj0 : (j : Int) < (n : Int) := by omega
        have hj1 : (j : Int) + 1 < (n : Int) := by omega
        clear hb
        go_wp2
        go_quiet (fail)
        go_wp2
        go_roundw
        case rel => exact ⟨j + 1, by omega, by go_num, by rw [HS.out]; go_num, bt HB.out (below_drewN _ _)⟩
        case measure => simp [intOf]; omega
      · obtain rfl : j = n - 1 := by omega
        have hge : ¬ ((n - 1 : Nat) : Int) + 1 < (n : Int) := by omega
        obtain ⟨s, hs⟩ : ∃ s, dcN xs (n - 1) = s := ⟨_, rfl⟩
        have HS9 := Lib.hid hs
        rw [hs] at hle ⊢
        clear hb hs
        go_wp2
        go_ret
        exact ⟨by rw [HS9.out]; rfl, bt B3.out HB.out⟩

/-- The cost of an order. -/
def costN (xs : List Int) (ring : Bool) : Nat := if ring && decide (0 < xs.length) then dcN xs (xs.length - 1) + farT (xs.getD (xs.length - 1) 0).toNat (xs.getD 0 0).toNat else dcN xs (xs.length - 1)

set_option maxHeartbeats 4000000 in
theorem l4Cost_any {A : Nat} (v : Value) (xs : List Int) (ring : Bool) (w : World) (hv : Own A w v xs) (hx : xs.length ≤ 11) (hd : ∀ i, i < xs.length → 0 ≤ xs.getD i 0 ∧ xs.getD i 0 ≤ 9) :
    Calls Try.prog 72 #[v, .bool ring] w fun e w' => e = .returned (.int .i64 (costN xs ring : Nat)) ∧ Below w.heap.size w w' := by
  have HD := Lib.hid hd
  obtain ⟨n, hn⟩ : ∃ n, xs.length = n := ⟨_, rfl⟩
  have HN := Lib.hid hn
  have HCO : Hid (costN xs ring = if ring && decide (0 < n) then dcN xs (n - 1) + farT (xs.getD (n - 1) 0).toNat (xs.getD 0 0).toNat else dcN xs (n - 1)) := Lib.hid (by unfold costN; rw [hn])
  rcases own_cases hv with ⟨rfl, e2⟩ | ⟨g, cap, rfl, hg1, hg2, hg3, hg4, hgc, hgf⟩
  · have hn0 : n = 0 := by rw [← hn, e2]; rfl
    subst hn0
    have HC0 : Hid (costN xs ring = 0) := Lib.hid (by rw [HCO.out]; simp [dcN])
    clear hv hd hn hx e2
    cases ring
    all_goals
      go_enter Try.func72, Try.ntmps72
      go_wp2
      refine wp_loop_rounds 1 ?_
      rw [rounds_succ]
      go_wp2
      go_ret
      exact ⟨by rw [HC0.out]; rfl, Below.refl _ _⟩
  · rw [hn] at hgc hx hg3 ⊢
    have HC := Lib.hid hgc
    clear hv hd hgc hgf hg1 hg4 hn
    go_enter Try.func72, Try.ntmps72
    go_wp2
    go_loopw [5, 6] (fun sv iv wr => ∃ j : Nat, j ≤ n - 1 ∧ iv = .int .i64 ((j : Int) + 1) ∧ sv = .int .i64 (dcN xs j : Nat) ∧ Below w.heap.size w wr) (fun _ iv _ => n - (intOf iv).toNat)
    case atStart => exact ⟨0, by omega, rfl, rfl, Below.refl _ _⟩
    case round =>
      obtain ⟨j, hj, rfl, rfl, hb⟩ := hrel
      have HB := Lib.hid hb
      have hle := dcN_le xs j
      by_cases hlt : j + 1 < n
      · have hcx : wr.cell? ⟨g, j, none⟩ = some (.int .i64 (xs.getD j 0)) := by rw [hb.cell (p := ⟨g, j, none⟩) hg2]; exact HC.out j (by omega)
        have hcy : wr.cell? ⟨g, j + 1, none⟩ = some (.int .i64 (xs.getD (j + 1) 0)) := by rw [hb.cell (p := ⟨g, j + 1, none⟩) hg2]; exact HC.out (j + 1) (by omega)
        have hdx := HD.out j (by rw [HN.out]; omega)
        have hdy := HD.out (j + 1) (by rw [HN.out]; omega)
        have HS : Hid (dcN xs (j + 1) = dcN xs j + farT (xs.getD j 0).toNat (xs.getD (j + 1) 0).toNat) := rfl
        generalize xs.getD j 0 = x at hcx hdx HS
        generalize xs.getD (j + 1) 0 = y at hcy hdy HS
        obtain ⟨p, rfl⟩ := Int.eq_ofNat_of_zero_le hdx.1
        obtain ⟨q, rfl⟩ := Int.eq_ofNat_of_zero_le hdy.1
        rw [Int.toNat_natCast, Int.toNat_natCast] at HS
        have hf7 := farT_le p q
        have HL := Lib.hid (fun w => l4Digits_any p q w (by omega) (by omega))
        generalize farT p q = z at HL HS hf7
        generalize dcN xs j = s at HS hle ⊢
        have hj0 : (j : Int) < (n : Int) := by omega
        have hj1 : (j : Int) + 1 < (n : Int) := by omega
        clear hb
        have hgr : g < wr.heap.size := Nat.lt_of_lt_of_le hg2 HB.out.size
        have hwz : IntKind.i64.wrap ((s : Int) + (z : Int)) = (s : Int) + (z : Int) := by rw [show (s : Int) + (z : Int) = ((s + z : Nat) : Int) by simp]; exact wrap_nat (s + z) (by omega)
        have hw1 : IntKind.i64.wrap ((j : Int) + 1 - 1) = (j : Int) := by rw [show (j : Int) + 1 - 1 = (j : Int) by omega]; exact wrap_nat j (by omega)
        have hw2 : IntKind.i64.wrap (j : Int) = (j : Int) := wrap_nat j (by omega)
        have hj00 : (0 : Int) ≤ (j : Int) := by omega
        have hj10 : (0 : Int) ≤ (j : Int) + 1 := by omega
        have hw3 : ((j : Int) + 1).toNat = j + 1 := by omega
        go_wp2
        go_region_held3 (fun w' => w'.cell? ⟨g, j, none⟩ = some (.int .i64 (p : Int)) ∧ w'.cell? ⟨g, j + 1, none⟩ = some (.int .i64 (q : Int))) (first | exact ⟨(hb3.cell (p := ⟨g, j, none⟩) hgr).trans hcx, (hb3.cell (p := ⟨g, j + 1, none⟩) hgr).trans hcy⟩ | exact ⟨hcx, hcy⟩) (first | (go_at_call 67; refine (HL.out _).mono ?_; rintro e w3 ⟨rfl, hb3⟩))
        clear hw1 hw2 hw3 hwz
        go_wp2
        go_roundw
        case rel => exact ⟨j + 1, by omega, by go_num, by rw [HS.out]; go_num, bt HB.out ((below_drew1 wr).trans hb3)⟩
        case measure => simp [intOf]; omega
      · obtain rfl : j = n - 1 := by omega
        have hge : ¬ ((n - 1 : Nat) : Int) + 1 < (n : Int) := by omega
        obtain ⟨s, hs⟩ : ∃ s, dcN xs (n - 1) = s := ⟨_, rfl⟩
        have hco := HCO.out
        rw [hs] at hle hco ⊢
        by_cases hc : (ring && decide (0 < n)) = true
        · rw [if_pos hc] at hco
          rw [Bool.and_eq_true] at hc
          have hn1 : 0 < n := of_decide_eq_true hc.2
          obtain rfl : ring = true := hc.1
          have hcx : wr.cell? ⟨g, n - 1, none⟩ = some (.int .i64 (xs.getD (n - 1) 0)) := by rw [hb.cell (p := ⟨g, n - 1, none⟩) hg2]; exact HC.out (n - 1) (by omega)
          have hcy : wr.cell? ⟨g, 0, none⟩ = some (.int .i64 (xs.getD 0 0)) := by rw [hb.cell (p := ⟨g, 0, none⟩) hg2]; exact HC.out 0 (by omega)
          have hdx := HD.out (n - 1) (by rw [HN.out]; omega)
          have hdy := HD.out 0 (by rw [HN.out]; omega)
          generalize xs.getD (n - 1) 0 = x at hcx hdx hco
          generalize xs.getD 0 0 = y at hcy hdy hco
          obtain ⟨p, rfl⟩ := Int.eq_ofNat_of_zero_le hdx.1
          obtain ⟨q, rfl⟩ := Int.eq_ofNat_of_zero_le hdy.1
          rw [Int.toNat_natCast, Int.toNat_natCast] at hco
          have hf7 := farT_le p q
          have HL := Lib.hid (fun w => l4Digits_any p q w (by omega) (by omega))
          generalize farT p q = z at HL hco hf7
          have HCF := Lib.hid hco
          have hgr : g < wr.heap.size := Nat.lt_of_lt_of_le hg2 HB.out.size
          have hwz : IntKind.i64.wrap ((s : Int) + (z : Int)) = (s : Int) + (z : Int) := by rw [show (s : Int) + (z : Int) = ((s + z : Nat) : Int) by simp]; exact wrap_nat (s + z) (by omega)
          have hw1 : IntKind.i64.wrap ((n : Int) - 1) = ((n - 1 : Nat) : Int) := by rw [show (n : Int) - 1 = ((n - 1 : Nat) : Int) by omega]; exact wrap_nat (n - 1) (by omega)
          have hn00 : (0 : Int) ≤ ((n - 1 : Nat) : Int) := by omega
          have hn10 : ((n - 1 : Nat) : Int) < (n : Int) := by omega
          have hn20 : (0 : Int) < (n : Int) := by omega
          clear hb hs hc hco
          go_wp2
          go_region_held3 (fun w' => w'.cell? ⟨g, n - 1, none⟩ = some (.int .i64 (p : Int)) ∧ w'.cell? ⟨g, 0, none⟩ = some (.int .i64 (q : Int))) (first | exact ⟨(hb3.cell (p := ⟨g, n - 1, none⟩) hgr).trans hcx, (hb3.cell (p := ⟨g, 0, none⟩) hgr).trans hcy⟩ | exact ⟨hcx, hcy⟩) (first | (go_at_call 67; refine (HL.out _).mono ?_; rintro e w3 ⟨rfl, hb3⟩))
          go_wp2
          go_ret
          exact ⟨by rw [HCF.out]; exact ret_int (by simp), bt HB.out ((below_drew1 wr).trans hb3)⟩
        · rw [if_neg hc] at hco
          have HCF := Lib.hid hco
          cases ring
          · clear hb hs hc hco
            go_wp2
            go_ret
            exact ⟨by rw [HCF.out]; rfl, HB.out⟩
          · have hn0 : n = 0 := by simp at hc; exact hc
            subst hn0
            clear hb hs hc hco
            go_wp2
            go_ret
            exact ⟨by rw [HCF.out]; rfl, HB.out⟩

end Go.Proofs.Ytpijpelmebaalaa
