/-
  The law FnExactBarShares returns true. No condition.
-/
import Derived.Test.YtpijpelmebaalaaDigit
import Derived.Test.YtpijpelmebaalaaBit7
import Derived.Test.YtpijpelmebaalaaArr
import Derived.Test.YtpijpelmebaalaaEq7
import Derived.Deep.RegionWith
import Derived.BigRegion
namespace Go.Proofs.Ytpijpelmebaalaa
open Go.RowKit
set_option linter.unusedVariables false


/-- In how many of the first d digit cells the bar j lights. -/
def shN (j : Nat) : Nat → Nat
  | 0 => 0
  | d + 1 => shN j d + bitN (dig.getD d 0).toNat j
def shRow (d b : Nat) : List Int := (List.range 7).map fun j => ((shN j d + if j < b then bitN (dig.getD d 0).toNat j else 0 : Nat) : Int)
theorem shRow_len (d b : Nat) : (shRow d b).length = 7 := by simp [shRow]
theorem shRow_set : ∀ d : Nat, d < 10 → ∀ b : Nat, b < 7 → (shRow d b).set b ((shRow d b).getD b 0 + (bitN (dig.getD d 0).toNat b : Int)) = shRow d (b + 1) := by decide +kernel
theorem shRow_next : ∀ d : Nat, d < 10 → shRow d 7 = shRow (d + 1) 0 := by decide +kernel
theorem shRow_rng : ∀ d : Nat, d < 10 → ∀ b : Nat, b < 7 → 0 ≤ (shRow d b).getD b 0 ∧ (shRow d b).getD b 0 ≤ 10 := by decide +kernel
theorem dig_nat : ∀ d : Nat, d < 10 → dig.getD d 0 = ((dig.getD d 0).toNat : Int) ∧ (dig.getD d 0).toNat < 128 := by decide +kernel
def shares : Array Value := ((shRow 10 0).map (Value.int .i64)).toArray
theorem shares_is : shares = #[.int .i64 8, .int .i64 8, .int .i64 9, .int .i64 7, .int .i64 4, .int .i64 6, .int .i64 7] := by kernel_rfl
theorem zeros_is : (#[.int .i64 0, .int .i64 0, .int .i64 0, .int .i64 0, .int .i64 0, .int .i64 0, .int .i64 0] : Array Value).toList = (shRow 0 0).map (Value.int .i64) := rfl

set_option maxHeartbeats 2000000 in
theorem specBarShares_any (w : World) :
    Calls Try.prog 51 #[] w fun e w' => e = .returned (.agg shares) ∧ Below w.heap.size w w' := by
  rw [shares_is]
  go_enter Try.func51, Try.ntmps51
  go_wp2
  obtain ⟨hO0, hO1, hBW⟩ := ownT_two 58 w #[.int .i64 0, .int .i64 0, .int .i64 0, .int .i64 0, .int .i64 0, .int .i64 0, .int .i64 0] (shRow 0 0) (by rw [shRow_len]; decide) zeros_is
  generalize (w.alloc (.cells #[.int .i64 0, .int .i64 0, .int .i64 0, .int .i64 0, .int .i64 0, .int .i64 0, .int .i64 0] 58)).alloc (.cells #[.int .i64 0, .int .i64 0, .int .i64 0, .int .i64 0, .int .i64 0, .int .i64 0, .int .i64 0] 58) = W0 at hO0 hO1 hBW ⊢
  have H0 := Lib.hid hO0
  have H1 := Lib.hid hO1
  have HBW := Lib.hid hBW
  have hW0 : w.heap.size + 1 ≤ W0.heap.size := Nat.succ_le_of_lt (ownT_lt hO0).2
  clear hO0 hO1 hBW
  go_loopw [2] (fun dv wr => ∃ d : Nat, d ≤ 10 ∧ dv = .int .i64 d ∧ OwnT 58 w.heap.size wr (w.heap.size + 1) (shRow d 0) ∧ Below (w.heap.size + 1) W0 wr) (fun dv _ => 10 - (intOf dv).toNat)
  case atStart => exact ⟨0, by omega, rfl, H1.out, Below.refl _ _⟩
  case round =>
    obtain ⟨d, hd, rfl, ho, hb⟩ := hrel
    have HO := Lib.hid ho
    have HB := Lib.hid hb
    clear ho hb
    by_cases hlt : d < 10
    · have hd10 : decide ((d : Int) < 10) = true := decide_eq_true (by omega)
      go_wp2
      obtain ⟨wo, rfl⟩ : ∃ wo : World, wo = wr := ⟨_, rfl⟩
      go_loopw [3] (fun bv wr => ∃ b : Nat, b ≤ 7 ∧ bv = .int .i64 b ∧ OwnT 58 w.heap.size wr (w.heap.size + 1) (shRow d b) ∧ Below (w.heap.size + 1) W0 wr) (fun bv _ => 7 - (intOf bv).toNat)
      case atStart => exact ⟨0, by omega, rfl, HO.out, HB.out⟩
      case round =>
        obtain ⟨b, hbn, rfl, ho, hb⟩ := hrel
        have hcell := fun h => ownT_cell ho b (h : b < (shRow d b).length)
        have hfree := ownT_free ho b
        have hOB := (ownT_lt ho).2
        have hwz : w.heap.size + 1 ≤ wr.heap.size := Nat.le_of_lt hOB
        have HO2 := Lib.hid ho
        have HB2 := Lib.hid hb
        clear ho hb
        by_cases hbl : b < 7
        · have hcell := hcell (by rw [shRow_len]; exact hbl)
          have hrng := shRow_rng d hlt b hbl
          have HS := Lib.hid (shRow_set d hlt b hbl)
          obtain ⟨hdn, hdl⟩ := dig_nat d hlt
          have HD := Lib.hid (fun w => l2Digit_any d w hlt)
          rw [hdn] at HD
          generalize (shRow d b).getD b 0 = x at hcell hrng HS
          generalize (dig.getD d 0).toNat = c at hdl HD HS
          have hbit := bit_and7 c hdl b hbl
          have hb2 := bitN_lt c b
          generalize bitN c b = z at hbit hb2 HS
          have hbi0 : (b : Int) < 7 := by omega
          clear hdn
          go_wp2
          go_region_with ((go_at_call 83; refine (HD.out _).mono ?_; rintro e w3 ⟨rfl, hb3⟩; have hca3 : w3.cell? ⟨w.heap.size + 1, b, none⟩ = some (.int .i64 x) := (hb3.cell (p := ⟨w.heap.size + 1, b, none⟩) hOB).trans hcell; have hfr3 : w3.frozen? ⟨w.heap.size + 1, b, none⟩ = false := (hb3.frozen (p := ⟨w.heap.size + 1, b, none⟩) hOB).trans hfree; have hB3 : Below wr.heap.size wr w3 := (below_drew1 wr).trans hb3))
          all_goals
            go_wp2
            go_roundw
            case rel => exact ⟨b + 1, by omega, by go_num, by rw [← HS.out]; exact ownT_set (ownT_keep HO2.out hB3) b (x + z), (HB2.out.trans (hB3.mono hwz)).setCell (Nat.le_refl _) _⟩
            case measure => simp [intOf]; omega
        · obtain rfl : b = 7 := by omega
          have HS := Lib.hid (shRow_next d hlt)
          go_wp2
          go_roundw
          case rel => exact ⟨d + 1, by omega, by go_num, by rw [← HS.out]; exact HO2.out, HB2.out⟩
          case measure => simp [intOf]; omega
    · obtain rfl : d = 10 := by omega
      have hc0 : wr.cell? ⟨w.heap.size + 1, 0, none⟩ = some (.int .i64 8) := ownT_cell HO.out 0 (by decide)
      have hc1 : wr.cell? ⟨w.heap.size + 1, 1, none⟩ = some (.int .i64 8) := ownT_cell HO.out 1 (by decide)
      have hc2 : wr.cell? ⟨w.heap.size + 1, 2, none⟩ = some (.int .i64 9) := ownT_cell HO.out 2 (by decide)
      have hc3 : wr.cell? ⟨w.heap.size + 1, 3, none⟩ = some (.int .i64 7) := ownT_cell HO.out 3 (by decide)
      have hc4 : wr.cell? ⟨w.heap.size + 1, 4, none⟩ = some (.int .i64 4) := ownT_cell HO.out 4 (by decide)
      have hc5 : wr.cell? ⟨w.heap.size + 1, 5, none⟩ = some (.int .i64 6) := ownT_cell HO.out 5 (by decide)
      have hc6 : wr.cell? ⟨w.heap.size + 1, 6, none⟩ = some (.int .i64 7) := ownT_cell HO.out 6 (by decide)
      have hZ := ownT_keepC H0.out HB.out (Nat.lt_succ_self _)
      have hz0 : wr.cell? ⟨w.heap.size, 0, none⟩ = some (.int .i64 0) := ownT_cell hZ 0 (by decide)
      have hz1 : wr.cell? ⟨w.heap.size, 1, none⟩ = some (.int .i64 0) := ownT_cell hZ 1 (by decide)
      have hz2 : wr.cell? ⟨w.heap.size, 2, none⟩ = some (.int .i64 0) := ownT_cell hZ 2 (by decide)
      have hz3 : wr.cell? ⟨w.heap.size, 3, none⟩ = some (.int .i64 0) := ownT_cell hZ 3 (by decide)
      have hz4 : wr.cell? ⟨w.heap.size, 4, none⟩ = some (.int .i64 0) := ownT_cell hZ 4 (by decide)
      have hz5 : wr.cell? ⟨w.heap.size, 5, none⟩ = some (.int .i64 0) := ownT_cell hZ 5 (by decide)
      have hz6 : wr.cell? ⟨w.heap.size, 6, none⟩ = some (.int .i64 0) := ownT_cell hZ 6 (by decide)
      have hf0 := ownT_free hZ 0
      have hf1 := ownT_free hZ 1
      have hf2 := ownT_free hZ 2
      have hf3 := ownT_free hZ 3
      have hf4 := ownT_free hZ 4
      have hf5 := ownT_free hZ 5
      have hf6 := ownT_free hZ 6
      have hBE : Below w.heap.size w wr := HBW.out.trans (HB.out.mono (Nat.le_succ _))
      have HR : Hid (OwnT 58 w.heap.size (((((((wr.setCell ⟨w.heap.size, 0, none⟩ (.int .i64 8)).setCell ⟨w.heap.size, 1, none⟩ (.int .i64 8)).setCell ⟨w.heap.size, 2, none⟩ (.int .i64 9)).setCell ⟨w.heap.size, 3, none⟩ (.int .i64 7)).setCell ⟨w.heap.size, 4, none⟩ (.int .i64 4)).setCell ⟨w.heap.size, 5, none⟩ (.int .i64 6)).setCell ⟨w.heap.size, 6, none⟩ (.int .i64 7)) w.heap.size [8, 8, 9, 7, 4, 6, 7]) := ownT_set (ownT_set (ownT_set (ownT_set (ownT_set (ownT_set (ownT_set hZ 0 8) 1 8) 2 9) 3 7) 4 4) 5 6) 6 7
      have HBE : Hid (Below w.heap.size w (((((((wr.setCell ⟨w.heap.size, 0, none⟩ (.int .i64 8)).setCell ⟨w.heap.size, 1, none⟩ (.int .i64 8)).setCell ⟨w.heap.size, 2, none⟩ (.int .i64 9)).setCell ⟨w.heap.size, 3, none⟩ (.int .i64 7)).setCell ⟨w.heap.size, 4, none⟩ (.int .i64 4)).setCell ⟨w.heap.size, 5, none⟩ (.int .i64 6)).setCell ⟨w.heap.size, 6, none⟩ (.int .i64 7))) := ((((((hBE.setCell (Nat.le_refl _) _).setCell (Nat.le_refl _) _).setCell (Nat.le_refl _) _).setCell (Nat.le_refl _) _).setCell (Nat.le_refl _) _).setCell (Nat.le_refl _) _).setCell (Nat.le_refl _) _
      clear hZ hBE
      go_wp2
      have hR := HR.out
      have hE := HBE.out
      clear HR HBE hz0 hf0 hc0 hz1 hf1 hc1 hz2 hf2 hc2 hz3 hf3 hc3 hz4 hf4 hc4 hz5 hf5 hc5 hz6 hf6 hc6
      generalize (((((((wr.setCell ⟨w.heap.size, 0, none⟩ (.int .i64 8)).setCell ⟨w.heap.size, 1, none⟩ (.int .i64 8)).setCell ⟨w.heap.size, 2, none⟩ (.int .i64 9)).setCell ⟨w.heap.size, 3, none⟩ (.int .i64 7)).setCell ⟨w.heap.size, 4, none⟩ (.int .i64 4)).setCell ⟨w.heap.size, 5, none⟩ (.int .i64 6)).setCell ⟨w.heap.size, 6, none⟩ (.int .i64 7)) = W9 at hR hE ⊢
      have k0 := ownT_cell hR 0 (by decide)
      have k1 := ownT_cell hR 1 (by decide)
      have k2 := ownT_cell hR 2 (by decide)
      have k3 := ownT_cell hR 3 (by decide)
      have k4 := ownT_cell hR 4 (by decide)
      have k5 := ownT_cell hR 5 (by decide)
      have k6 := ownT_cell hR 6 (by decide)
      simp only [List.getD_cons_zero, List.getD_cons_succ] at k0 k1 k2 k3 k4 k5 k6
      refine bodyPost_ret (v := .agg #[.int .i64 8, .int .i64 8, .int .i64 9, .int .i64 7, .int .i64 4, .int .i64 6, .int .i64 7]) (by simp [results, Try.results51, go_sem, k0, k1, k2, k3, k4, k5, k6]) rfl ⟨rfl, hE⟩

set_option maxHeartbeats 2000000 in
theorem implBarShares_any (w : World) :
    Calls Try.prog 52 #[] w fun e w' => e = .returned (.agg shares) ∧ Below w.heap.size w w' := by
  rw [shares_is]
  go_enter Try.func52, Try.ntmps52
  go_wp2_with fail
  obtain ⟨hO0, hO1, hBW⟩ := ownT_two 58 w #[.int .i64 0, .int .i64 0, .int .i64 0, .int .i64 0, .int .i64 0, .int .i64 0, .int .i64 0] (shRow 0 0) (by rw [shRow_len]; decide) zeros_is
  generalize (w.alloc (.cells #[.int .i64 0, .int .i64 0, .int .i64 0, .int .i64 0, .int .i64 0, .int .i64 0, .int .i64 0] 58)).alloc (.cells #[.int .i64 0, .int .i64 0, .int .i64 0, .int .i64 0, .int .i64 0, .int .i64 0, .int .i64 0] 58) = Wa at hO0 hO1 hBW ⊢
  refine (digitCells_any _).mono ?_
  rintro e W0 ⟨rfl, hb1⟩
  have H0 := Lib.hid (ownT_keep hO0 hb1)
  have H1 := Lib.hid (ownT_keep hO1 hb1)
  have HBW := Lib.hid (bt hBW hb1)
  have hW0 : w.heap.size + 1 ≤ W0.heap.size := Nat.succ_le_of_lt (ownT_lt (ownT_keep hO0 hb1)).2
  clear hO0 hO1 hBW hb1
  go_wp2
  go_loopw [6] (fun dv wr => ∃ d : Nat, d ≤ 10 ∧ dv = .int .i64 d ∧ OwnT 58 w.heap.size wr (w.heap.size + 1) (shRow d 0) ∧ Below (w.heap.size + 1) W0 wr) (fun dv _ => 10 - (intOf dv).toNat)
  case atStart => exact ⟨0, by omega, rfl, H1.out, Below.refl _ _⟩
  case round =>
    obtain ⟨d, hd, rfl, ho, hb⟩ := hrel
    have HO := Lib.hid ho
    have HB := Lib.hid hb
    clear ho hb
    by_cases hlt : d < 10
    · have hix := dig_at d hlt
      obtain ⟨hdn, hdl⟩ := dig_nat d hlt
      rw [hdn] at hix
      obtain ⟨c, hc⟩ : ∃ c : Nat, (dig.getD d 0).toNat = c := ⟨_, rfl⟩
      have HC := Lib.hid hc
      rw [hc] at hix hdl
      clear hdn hc
      have hd10 : decide ((d : Int) < 10) = true := decide_eq_true (by omega)
      go_wp2
      obtain ⟨wo, rfl⟩ : ∃ wo : World, wo = wr := ⟨_, rfl⟩
      go_loopw [9] (fun bv wr => ∃ b : Nat, b ≤ 7 ∧ bv = .int .i64 b ∧ OwnT 58 w.heap.size wr (w.heap.size + 1) (shRow d b) ∧ Below (w.heap.size + 1) W0 wr) (fun bv _ => 7 - (intOf bv).toNat)
      case atStart => exact ⟨0, by omega, rfl, HO.out, HB.out⟩
      case round =>
        obtain ⟨b, hbn, rfl, ho, hb⟩ := hrel
        have hcell := fun h => ownT_cell ho b (h : b < (shRow d b).length)
        have hfree := ownT_free ho b
        have hOB := (ownT_lt ho).2
        have hwz : w.heap.size + 1 ≤ wr.heap.size := Nat.le_of_lt hOB
        have HO2 := Lib.hid ho
        have HB2 := Lib.hid hb
        clear ho hb
        by_cases hbl : b < 7
        · have hcell := hcell (by rw [shRow_len]; exact hbl)
          have hrng := shRow_rng d hlt b hbl
          have hs := shRow_set d hlt b hbl
          rw [HC.out] at hs
          have HS := Lib.hid hs
          clear hs
          generalize (shRow d b).getD b 0 = x at hcell hrng HS
          have hbit := bit_and7 c hdl b hbl
          have hb2 := bitN_lt c b
          generalize bitN c b = z at hbit hb2 HS
          have hbi0 : (b : Int) < 7 := by omega
          go_wp2
          go_region
          all_goals
            go_wp2
            go_roundw
            case rel => exact ⟨b + 1, by omega, by go_num, by rw [← HS.out]; exact ownT_set (ownT_keep HO2.out (below_drew1 wr)) b (x + z), (HB2.out.trans ((below_drew1 wr).mono hwz)).setCell (Nat.le_refl _) _⟩
            case measure => simp [intOf]; omega
        · obtain rfl : b = 7 := by omega
          have HS := Lib.hid (shRow_next d hlt)
          go_wp2
          go_roundw
          case rel => exact ⟨d + 1, by omega, by go_num, by rw [← HS.out]; exact HO2.out, HB2.out⟩
          case measure => simp [intOf]; omega
    · obtain rfl : d = 10 := by omega
      have hc0 : wr.cell? ⟨w.heap.size + 1, 0, none⟩ = some (.int .i64 8) := ownT_cell HO.out 0 (by decide)
      have hc1 : wr.cell? ⟨w.heap.size + 1, 1, none⟩ = some (.int .i64 8) := ownT_cell HO.out 1 (by decide)
      have hc2 : wr.cell? ⟨w.heap.size + 1, 2, none⟩ = some (.int .i64 9) := ownT_cell HO.out 2 (by decide)
      have hc3 : wr.cell? ⟨w.heap.size + 1, 3, none⟩ = some (.int .i64 7) := ownT_cell HO.out 3 (by decide)
      have hc4 : wr.cell? ⟨w.heap.size + 1, 4, none⟩ = some (.int .i64 4) := ownT_cell HO.out 4 (by decide)
      have hc5 : wr.cell? ⟨w.heap.size + 1, 5, none⟩ = some (.int .i64 6) := ownT_cell HO.out 5 (by decide)
      have hc6 : wr.cell? ⟨w.heap.size + 1, 6, none⟩ = some (.int .i64 7) := ownT_cell HO.out 6 (by decide)
      have hZ := ownT_keepC H0.out HB.out (Nat.lt_succ_self _)
      have hz0 : wr.cell? ⟨w.heap.size, 0, none⟩ = some (.int .i64 0) := ownT_cell hZ 0 (by decide)
      have hz1 : wr.cell? ⟨w.heap.size, 1, none⟩ = some (.int .i64 0) := ownT_cell hZ 1 (by decide)
      have hz2 : wr.cell? ⟨w.heap.size, 2, none⟩ = some (.int .i64 0) := ownT_cell hZ 2 (by decide)
      have hz3 : wr.cell? ⟨w.heap.size, 3, none⟩ = some (.int .i64 0) := ownT_cell hZ 3 (by decide)
      have hz4 : wr.cell? ⟨w.heap.size, 4, none⟩ = some (.int .i64 0) := ownT_cell hZ 4 (by decide)
      have hz5 : wr.cell? ⟨w.heap.size, 5, none⟩ = some (.int .i64 0) := ownT_cell hZ 5 (by decide)
      have hz6 : wr.cell? ⟨w.heap.size, 6, none⟩ = some (.int .i64 0) := ownT_cell hZ 6 (by decide)
      have hf0 := ownT_free hZ 0
      have hf1 := ownT_free hZ 1
      have hf2 := ownT_free hZ 2
      have hf3 := ownT_free hZ 3
      have hf4 := ownT_free hZ 4
      have hf5 := ownT_free hZ 5
      have hf6 := ownT_free hZ 6
      have hBE : Below w.heap.size w wr := HBW.out.trans (HB.out.mono (Nat.le_succ _))
      have HR : Hid (OwnT 58 w.heap.size (((((((wr.setCell ⟨w.heap.size, 0, none⟩ (.int .i64 8)).setCell ⟨w.heap.size, 1, none⟩ (.int .i64 8)).setCell ⟨w.heap.size, 2, none⟩ (.int .i64 9)).setCell ⟨w.heap.size, 3, none⟩ (.int .i64 7)).setCell ⟨w.heap.size, 4, none⟩ (.int .i64 4)).setCell ⟨w.heap.size, 5, none⟩ (.int .i64 6)).setCell ⟨w.heap.size, 6, none⟩ (.int .i64 7)) w.heap.size [8, 8, 9, 7, 4, 6, 7]) := ownT_set (ownT_set (ownT_set (ownT_set (ownT_set (ownT_set (ownT_set hZ 0 8) 1 8) 2 9) 3 7) 4 4) 5 6) 6 7
      have HBE : Hid (Below w.heap.size w (((((((wr.setCell ⟨w.heap.size, 0, none⟩ (.int .i64 8)).setCell ⟨w.heap.size, 1, none⟩ (.int .i64 8)).setCell ⟨w.heap.size, 2, none⟩ (.int .i64 9)).setCell ⟨w.heap.size, 3, none⟩ (.int .i64 7)).setCell ⟨w.heap.size, 4, none⟩ (.int .i64 4)).setCell ⟨w.heap.size, 5, none⟩ (.int .i64 6)).setCell ⟨w.heap.size, 6, none⟩ (.int .i64 7))) := ((((((hBE.setCell (Nat.le_refl _) _).setCell (Nat.le_refl _) _).setCell (Nat.le_refl _) _).setCell (Nat.le_refl _) _).setCell (Nat.le_refl _) _).setCell (Nat.le_refl _) _).setCell (Nat.le_refl _) _
      clear hZ hBE
      go_wp2
      have hR := HR.out
      have hE := HBE.out
      clear HR HBE hz0 hf0 hc0 hz1 hf1 hc1 hz2 hf2 hc2 hz3 hf3 hc3 hz4 hf4 hc4 hz5 hf5 hc5 hz6 hf6 hc6
      generalize (((((((wr.setCell ⟨w.heap.size, 0, none⟩ (.int .i64 8)).setCell ⟨w.heap.size, 1, none⟩ (.int .i64 8)).setCell ⟨w.heap.size, 2, none⟩ (.int .i64 9)).setCell ⟨w.heap.size, 3, none⟩ (.int .i64 7)).setCell ⟨w.heap.size, 4, none⟩ (.int .i64 4)).setCell ⟨w.heap.size, 5, none⟩ (.int .i64 6)).setCell ⟨w.heap.size, 6, none⟩ (.int .i64 7)) = W9 at hR hE ⊢
      have k0 := ownT_cell hR 0 (by decide)
      have k1 := ownT_cell hR 1 (by decide)
      have k2 := ownT_cell hR 2 (by decide)
      have k3 := ownT_cell hR 3 (by decide)
      have k4 := ownT_cell hR 4 (by decide)
      have k5 := ownT_cell hR 5 (by decide)
      have k6 := ownT_cell hR 6 (by decide)
      simp only [List.getD_cons_zero, List.getD_cons_succ] at k0 k1 k2 k3 k4 k5 k6
      refine bodyPost_ret (v := .agg #[.int .i64 8, .int .i64 8, .int .i64 9, .int .i64 7, .int .i64 4, .int .i64 6, .int .i64 7]) (by simp [results, Try.results52, go_sem, k0, k1, k2, k3, k4, k5, k6]) rfl ⟨rfl, hE⟩

set_option maxHeartbeats 1000000 in
theorem walkFnExactBarShares (w : World) :
    Calls Try.prog 14 #[] w fun e w' => e = .returned (.bool true) ∧ Below w.heap.size w w' := by
  have H1 := Lib.hid specBarShares_any
  have H2 := Lib.hid implBarShares_any
  rw [shares_is] at H1 H2
  go_enter Try.func14, Try.ntmps14
  go_wp2_with fail
  refine (H1.out _).mono ?_
  rintro e w1 ⟨rfl, hb1⟩
  go_wp2_with fail
  refine (H2.out _).mono ?_
  rintro e w2 ⟨rfl, hb2⟩
  have hB2 : Below w.heap.size w w2 := bt (bt hb1 ((Below.refl _ _).alloc (Nat.le_refl _) _)) hb2
  have hl : w1.heap.size < w2.heap.size := by have := hb2.size; simp at this; omega
  obtain ⟨hc2, hf2⟩ := bcell hb2
  go_wp2_with ((go_at_call 53; refine (eqIntA7_any _ _ _ _ _ _ _ _ _ _ _ _ _ _ _).mono ?_; rintro e w3 ⟨rfl, hb3⟩; rw [decide_eq_true rfl]))
  go_ret
  exact ⟨rfl, bt (bt hB2 ((Below.refl _ _).alloc (Nat.le_refl _) _)) hb3⟩

end Go.Proofs.Ytpijpelmebaalaa
