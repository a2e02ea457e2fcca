/-
  Contracts of the law file on slices of arrays of seven integers: equal, marked, held. Condition: at most six arrays.
-/
import Derived.Test.YtpijpelmebaalaaRowS
import Derived.Test.YtpijpelmebaalaaEq7
import Derived.StillTailTactics
namespace Go.Proofs.Ytpijpelmebaalaa
open Go.RowKit
set_option linter.unusedVariables false


set_option maxHeartbeats 2000000 in
theorem eqIntA7S_same {A B : Nat} (a b : Value) (n : Nat) (xs : List Int) (w : World) (ha : OwnR A w a n xs) (hb : OwnR B w b n xs) (hn : n ≤ 6) :
    Calls Try.prog 26 #[a, b] w fun e w' => e = .returned (.bool true) ∧ Below w.heap.size w w' := by
  have hlen := ownR_len ha
  rcases ownR_cases ha with ⟨rfl, rfl, rfl⟩ | ⟨g, cap, rfl, hg1, hg2, hg3, hg4, hgc, hgf⟩
  · rcases ownR_cases hb with ⟨rfl, _⟩ | ⟨g', cap', rfl, _⟩
    all_goals (
      go_enter Try.func26, Try.ntmps26
      go_wp2
      refine wp_loop_rounds 1 ?_
      rw [rounds_succ]
      go_wp2
      go_ret
      exact ⟨rfl, Below.refl _ _⟩)
  · rcases ownR_cases hb with ⟨rfl, rfl, _⟩ | ⟨g', cap', rfl, hh1, hh2, hh3, hh4, hhc, hhf⟩
    · go_enter Try.func26, Try.ntmps26
      go_wp2
      refine wp_loop_rounds 1 ?_
      rw [rounds_succ]
      go_wp2
      go_ret
      exact ⟨rfl, Below.refl _ _⟩
    · have HA := Lib.hid hgc
      have HB := Lib.hid hhc
      have hgw := Lib.hid hg2
      have hhw := Lib.hid hh2
      clear hgc hhc ha hb hgf hhf hg1 hg2 hg3 hg4 hh1 hh2 hh3 hh4 hlen
      go_enter Try.func26, Try.ntmps26
      go_wp2
      go_loopw [5] (fun iv wr => ∃ i : Nat, i ≤ n ∧ iv = .int .i64 i ∧ Below w.heap.size w wr) (fun iv _ => n - (intOf iv).toNat)
      case atStart => exact ⟨0, by omega, rfl, Below.refl _ _⟩
      case round =>
        obtain ⟨i, hi, rfl, hb⟩ := hrel
        have HBW := Lib.hid hb
        by_cases hlt : i < n
        · have hA : ∀ j, j < 7 → wr.cell? ⟨g, i * 7 + j, none⟩ = some (.int .i64 (xs.getD (i * 7 + j) 0)) := fun j hj => by rw [hb.cell (p := ⟨g, i * 7 + j, none⟩) hgw.out]; exact HA.out (i * 7 + j) (by omega)
          have hB' : ∀ j, j < 7 → wr.cell? ⟨g', i * 7 + j, none⟩ = some (.int .i64 (xs.getD (i * 7 + j) 0)) := fun j hj => by rw [hb.cell (p := ⟨g', i * 7 + j, none⟩) hhw.out]; exact HB.out (i * 7 + j) (by omega)
          obtain ⟨v0, hv0⟩ : ∃ v, xs.getD (i * 7 + 0) 0 = v := ⟨_, rfl⟩
          obtain ⟨v1, hv1⟩ : ∃ v, xs.getD (i * 7 + 1) 0 = v := ⟨_, rfl⟩
          obtain ⟨v2, hv2⟩ : ∃ v, xs.getD (i * 7 + 2) 0 = v := ⟨_, rfl⟩
          obtain ⟨v3, hv3⟩ : ∃ v, xs.getD (i * 7 + 3) 0 = v := ⟨_, rfl⟩
          obtain ⟨v4, hv4⟩ : ∃ v, xs.getD (i * 7 + 4) 0 = v := ⟨_, rfl⟩
          obtain ⟨v5, hv5⟩ : ∃ v, xs.getD (i * 7 + 5) 0 = v := ⟨_, rfl⟩
          obtain ⟨v6, hv6⟩ : ∃ v, xs.getD (i * 7 + 6) 0 = v := ⟨_, rfl⟩
          have hx0 : wr.cell? ⟨g, i * 7, none⟩ = some (.int .i64 v0) := by rw [← hv0]; exact hA 0 (by omega)
          have hy0 : wr.cell? ⟨g', i * 7, none⟩ = some (.int .i64 v0) := by rw [← hv0]; exact hB' 0 (by omega)
          have hx1 : wr.cell? ⟨g, i * 7 + 1, none⟩ = some (.int .i64 v1) := by rw [← hv1]; exact hA 1 (by omega)
          have hy1 : wr.cell? ⟨g', i * 7 + 1, none⟩ = some (.int .i64 v1) := by rw [← hv1]; exact hB' 1 (by omega)
          have hx2 : wr.cell? ⟨g, i * 7 + 2, none⟩ = some (.int .i64 v2) := by rw [← hv2]; exact hA 2 (by omega)
          have hy2 : wr.cell? ⟨g', i * 7 + 2, none⟩ = some (.int .i64 v2) := by rw [← hv2]; exact hB' 2 (by omega)
          have hx3 : wr.cell? ⟨g, i * 7 + 3, none⟩ = some (.int .i64 v3) := by rw [← hv3]; exact hA 3 (by omega)
          have hy3 : wr.cell? ⟨g', i * 7 + 3, none⟩ = some (.int .i64 v3) := by rw [← hv3]; exact hB' 3 (by omega)
          have hx4 : wr.cell? ⟨g, i * 7 + 4, none⟩ = some (.int .i64 v4) := by rw [← hv4]; exact hA 4 (by omega)
          have hy4 : wr.cell? ⟨g', i * 7 + 4, none⟩ = some (.int .i64 v4) := by rw [← hv4]; exact hB' 4 (by omega)
          have hx5 : wr.cell? ⟨g, i * 7 + 5, none⟩ = some (.int .i64 v5) := by rw [← hv5]; exact hA 5 (by omega)
          have hy5 : wr.cell? ⟨g', i * 7 + 5, none⟩ = some (.int .i64 v5) := by rw [← hv5]; exact hB' 5 (by omega)
          have hx6 : wr.cell? ⟨g, i * 7 + 6, none⟩ = some (.int .i64 v6) := by rw [← hv6]; exact hA 6 (by omega)
          have hy6 : wr.cell? ⟨g', i * 7 + 6, none⟩ = some (.int .i64 v6) := by rw [← hv6]; exact hB' 6 (by omega)
          clear hv0 hv1 hv2 hv3 hv4 hv5 hv6 hA hB' hb
          have HE := Lib.hid (fun w => by have := eqIntA7_any v0 v1 v2 v3 v4 v5 v6 v0 v1 v2 v3 v4 v5 v6 w; rw [decide_eq_true rfl] at this; exact this)
          have hi0 : (i : Int) < (n : Int) := by omega
          go_wp2
          go_still_tail 8, (by kernel_rfl)
          change wpList _ _ _ _ _ wr.drew
          go_wp2_with ((go_at_call 53; refine (HE.out _).mono ?_; rintro e w3 ⟨rfl, hb3⟩))
          go_roundw
          case rel => exact ⟨i + 1, by omega, by go_num, bt HBW.out ((below_drew1 wr).trans hb3)⟩
          case measure => simp [intOf]; omega
        · obtain rfl : i = n := by omega
          clear hb
          go_wp2
          go_ret
          exact ⟨rfl, HBW.out⟩

set_option maxHeartbeats 1000000 in
theorem markIntA7S_any {B : Nat} (a : Value) (n : Nat) (xs : List Int) (k : Int) (w : World) (ha : OwnR B w a n xs) (hn : n ≤ 6) (h0 : 0 ≤ k) (h1 : k ≤ 1073741824) :
    Calls Try.prog 27 #[a, .int .i64 k] w fun e w' => e = .returned (.int .i64 (k + (n * 7 : Nat))) ∧ OwnR B w' a n (mkL k (n * 7)) ∧ Below B w w' ∧ w'.heap.size = w.heap.size ∧ Only a w w' := by
  have hlen := ownR_len ha
  rcases ownR_cases ha with ⟨rfl, rfl, rfl⟩ | ⟨g, cap, rfl, hg1, hg2, hg3, hg4, hgc, hgf⟩
  · go_enter Try.func27, Try.ntmps27
    go_wp2
    refine wp_loop_rounds 1 ?_
    rw [rounds_succ]
    go_wp2
    go_ret
    exact ⟨by simp, ha, Below.refl _ _, rfl, only_refl _ _⟩
  · have HN := Lib.hid hlen
    have HO := Lib.hid ha
    have HG := Lib.hid hg1
    clear hgc hgf ha hg1 hg2 hg3 hg4 hlen
    go_enter Try.func27, Try.ntmps27
    go_wp2
    go_loopw [1, 5] (fun kv iv wr => ∃ i : Nat, i ≤ n ∧ iv = .int .i64 i ∧ kv = .int .i64 (k + (i * 7 : Nat)) ∧ OwnR B wr (.slice (some ⟨g, 0, none⟩) n cap) n (mkL k (i * 7) ++ xs.drop (i * 7)) ∧ Below B w wr ∧ wr.heap.size = w.heap.size ∧ Only (.slice (some ⟨g, 0, none⟩) n cap) w wr) (fun _ iv _ => n - (intOf iv).toNat)
    case atStart => exact ⟨0, by omega, rfl, by simp, by simpa [mkL] using HO.out, Below.refl _ _, rfl, only_refl _ _⟩
    case round =>
      obtain ⟨i, hi, rfl, rfl, ho, hb, hz, hon⟩ := hrel
      have HO1 := Lib.hid ho
      have HB1 := Lib.hid hb
      have HZ1 := Lib.hid hz
      have HON1 := Lib.hid hon
      clear ho hb hz hon
      by_cases hlt : i < n
      · go_wp2
        obtain ⟨wo, rfl⟩ : ∃ wo : World, wo = wr := ⟨_, rfl⟩
        go_loopw [1, 6] (fun kv jv wr => ∃ j : Nat, j ≤ 7 ∧ jv = .int .i64 j ∧ kv = .int .i64 (k + (i * 7 + j : Nat)) ∧ OwnR B wr (.slice (some ⟨g, 0, none⟩) n cap) n (mkL k (i * 7 + j) ++ xs.drop (i * 7 + j)) ∧ Below B w wr ∧ wr.heap.size = w.heap.size ∧ Only (.slice (some ⟨g, 0, none⟩) n cap) w wr) (fun _ jv _ => 7 - (intOf jv).toNat)
        case atStart => exact ⟨0, by omega, rfl, by simp, HO1.out, HB1.out, HZ1.out, HON1.out⟩
        case round =>
          obtain ⟨j, hj, rfl, rfl, ho, hb, hz, hon⟩ := hrel
          have HO2 := Lib.hid ho
          have HB2 := Lib.hid hb
          have HZ2 := Lib.hid hz
          have HON2 := Lib.hid hon
          by_cases hjl : j < 7
          · have hlen := mkL_mid k xs (i * 7 + j) (by rw [HN.out]; omega)
            rw [HN.out] at hlen
            have hcf : wr.frozen? ⟨g, i * 7 + j, none⟩ = false := World.ownsRow.frozenAt ho (i * 7 + j)
            have hcc : ∃ u, wr.cell? ⟨g, i * 7 + j, none⟩ = some u := by
              rw [World.ownsRow.cellAt ho (i * 7 + j) (by omega)]
              rw [List.getElem?_eq_getElem (by rw [List.length_map, hlen]; omega)]
              exact ⟨_, rfl⟩
            obtain ⟨u, hcu⟩ := hcc
            have HS := Lib.hid (mkL_step k xs (i * 7 + j) (by rw [HN.out]; omega))
            have hi0 : (i : Int) < (n : Int) := by omega
            have hj0 : (j : Int) < 7 := by omega
            clear ho hb hz hon hlen
            go_wp2
            go_roundw
            case rel => exact ⟨j + 1, by omega, by go_num, by go_num, by rw [← Nat.add_assoc, ← HS.out]; exact ownR_set HO2.out _ _, HB2.out.setCell HG.out _, by simpa using HZ2.out, only_set HON2.out _ _⟩
            case measure => simp [intOf]; omega
          · obtain rfl : j = 7 := by omega
            clear ho hb hz hon
            go_wp2
            go_roundw
            case rel => exact ⟨i + 1, by omega, by go_num, by go_num, by rw [show (i + 1) * 7 = i * 7 + 7 by omega]; exact HO2.out, HB2.out, HZ2.out, HON2.out⟩
            case measure => simp [intOf]; omega
      · obtain rfl : i = n := by omega
        have ho := HO1.out
        have h2 : mkL k (i * 7) ++ xs.drop (i * 7) = mkL k (i * 7) := by rw [List.drop_eq_nil_of_le (by rw [HN.out]; exact Nat.le_refl _), List.append_nil]
        rw [h2] at ho
        have HO2 := Lib.hid ho
        clear h2 ho
        go_wp2
        go_ret
        exact ⟨rfl, HO2.out, HB1.out, HZ1.out, HON1.out⟩

set_option maxHeartbeats 1000000 in
theorem heldIntA7S_any {B : Nat} (a : Value) (n : Nat) (k : Int) (w : World) (ha : OwnR B w a n (mkL k (n * 7))) (hn : n ≤ 6) (h0 : 0 ≤ k) (h1 : k ≤ 1073741824) :
    Calls Try.prog 28 #[a, .int .i64 k] w fun e w' => e = .returned (.int .i64 (k + (n * 7 : Nat))) ∧ Below w.heap.size w w' := by
  rcases ownR_cases ha with ⟨rfl, rfl, _⟩ | ⟨g, cap, rfl, hg1, hg2, hg3, hg4, hgc, hgf⟩
  · go_enter Try.func28, Try.ntmps28
    go_wp2
    refine wp_loop_rounds 1 ?_
    rw [rounds_succ]
    go_wp2
    go_ret
    exact ⟨by simp, Below.refl _ _⟩
  · have HC : Hid (∀ j, j < n * 7 → w.cell? ⟨g, j, none⟩ = some (.int .i64 (k + j))) := fun j hj => by rw [hgc j hj, mkL_at k (n * 7) j hj]
    clear hgc hgf ha hg1 hg2 hg3 hg4
    go_enter Try.func28, Try.ntmps28
    go_wp2
    go_loopw [1, 5] (fun kv iv wr => ∃ i q : Nat, i ≤ n ∧ iv = .int .i64 i ∧ kv = .int .i64 (k + (i * 7 : Nat)) ∧ wr = w.drewN q) (fun _ iv _ => n - (intOf iv).toNat)
    case atStart => exact ⟨0, 0, by omega, rfl, by simp, rfl⟩
    case round =>
      obtain ⟨i, q, hi, rfl, rfl, rfl⟩ := hrel
      by_cases hlt : i < n
      · go_wp2
        go_loopw [1, 6] (fun kv jv wr => ∃ j q : Nat, j ≤ 7 ∧ jv = .int .i64 j ∧ kv = .int .i64 (k + (i * 7 + j : Nat)) ∧ wr = w.drewN q) (fun _ jv _ => 7 - (intOf jv).toNat)
        case atStart => exact ⟨0, q, by omega, rfl, by simp, rfl⟩
        case round =>
          obtain ⟨j, q, hj, rfl, rfl, rfl⟩ := hrel
          by_cases hjl : j < 7
          · have hcell := HC.out (i * 7 + j) (by omega)
            have hi0 : (i : Int) < (n : Int) := by omega
            have hj0 : (j : Int) < 7 := by omega
            go_wp2
            go_roundw
            case rel => exact ⟨j + 1, q, by omega, by go_num, by go_num, rfl⟩
            case measure => simp [intOf]; omega
          · obtain rfl : j = 7 := by omega
            go_wp2
            go_roundw
            case rel => exact ⟨i + 1, q, by omega, by go_num, by go_num, rfl⟩
            case measure => simp [intOf]; omega
      · obtain rfl : i = n := by omega
        go_wp2
        go_ret
        exact ⟨rfl, below_drewN _ _⟩

end Go.Proofs.Ytpijpelmebaalaa
