/-
  Contract of rSevens on equal slices. Condition: at most six arrays.
-/
import Derived.Test.YtpijpelmebaalaaRowS
import Derived.Test.YtpijpelmebaalaaArr
import Derived.Test.YtpijpelmebaalaaTo
import Derived.StillTailTactics
import Derived.ChangeKeysEq
import Derived.Laws.StructEq
namespace Go.Proofs.Ytpijpelmebaalaa
open Go.RowKit
set_option linter.unusedVariables false


theorem eqA7 (v0 v1 v2 v3 v4 v5 v6 : Int) (w : World) : (Op.equalIn 10000 58 (.agg #[.int .i64 v0, .int .i64 v1, .int .i64 v2, .int .i64 v3, .int .i64 v4, .int .i64 v5, .int .i64 v6]) (.agg #[.int .i64 v0, .int .i64 v1, .int .i64 v2, .int .i64 v3, .int .i64 v4, .int .i64 v5, .int .i64 v6])).run Try.prog w = .ok true w := by
  have u3 := Try.underlying3
  have a3 := Try.isAgg3
  have z3 := Try.sizeOf3
  obtain ⟨i, hi, _⟩ := info_parts info_int
  rw [show (10000 : Nat) = 9998 + 1 + 1 from rfl, run_equalIn_array w 9999 _ _ Try.underlying58 hi, show Try.prog.cellsOf 3 = 1 by kernel_rfl]
  simp only [show List.range 7 = [0, 1, 2, 3, 4, 5, 6] from rfl, Op.eqItems]
  go_simp
  trace_state
set_option maxHeartbeats 2000000 in
theorem rSevens_same {A B : Nat} (a b : Value) (n : Nat) (xs : List Int) (w : World) (ha : OwnR A w a n xs) (hb : OwnR B w b n xs) (hn : n ≤ 6) :
    Calls Try.prog 45 #[a, b] w fun e w' => e = .returned (.bool true) ∧ Below w.heap.size w w' := by
  have hlen := ownR_len ha
  rcases ownR_cases ha with ⟨rfl, rfl, rfl⟩ | ⟨g, cap, rfl, hg1, hg2, hg3, hg4, hgc, hgf⟩
  · rcases ownR_cases hb with ⟨rfl, _⟩ | ⟨g', cap', rfl, _⟩
    all_goals (
      go_enter Try.func45, Try.ntmps45
      go_wp2
      refine wp_loop_rounds 1 ?_
      rw [rounds_succ]
      go_wp2
      go_ret
      exact ⟨rfl, Below.refl _ _⟩)
  · rcases ownR_cases hb with ⟨rfl, rfl, _⟩ | ⟨g', cap', rfl, hh1, hh2, hh3, hh4, hhc, hhf⟩
    · go_enter Try.func45, Try.ntmps45
      go_wp2
      refine wp_loop_rounds 1 ?_
      rw [rounds_succ]
      go_wp2
      go_ret
      exact ⟨rfl, Below.refl _ _⟩
    · have HA := Lib.hid hgc
      have HB := Lib.hid hhc
      have hgw := Lib.hid hg2
      have hhw := Lib.hid hh2
      clear hgc hhc ha hb hgf hhf hg1 hg2 hg3 hg4 hh1 hh2 hh3 hh4 hlen
      go_enter Try.func45, Try.ntmps45
      go_wp2
      go_loopw [5] (fun iv wr => ∃ i : Nat, i ≤ n ∧ iv = .int .i64 i ∧ Below w.heap.size w wr) (fun iv _ => n - (intOf iv).toNat)
      case atStart => exact ⟨0, by omega, rfl, Below.refl _ _⟩
      case round =>
        obtain ⟨i, hi, rfl, hb⟩ := hrel
        have HBW := Lib.hid hb
        by_cases hlt : i < n
        · have hA : ∀ j, j < 7 → wr.cell? ⟨g, i * 7 + j, none⟩ = some (.int .i64 (xs.getD (i * 7 + j) 0)) := fun j hj => by rw [hb.cell (p := ⟨g, i * 7 + j, none⟩) hgw.out]; exact HA.out (i * 7 + j) (by omega)
          have hB' : ∀ j, j < 7 → wr.cell? ⟨g', i * 7 + j, none⟩ = some (.int .i64 (xs.getD (i * 7 + j) 0)) := fun j hj => by rw [hb.cell (p := ⟨g', i * 7 + j, none⟩) hhw.out]; exact HB.out (i * 7 + j) (by omega)
          obtain ⟨v0, hv0⟩ : ∃ v, xs.getD (i * 7 + 0) 0 = v := ⟨_, rfl⟩
          obtain ⟨v1, hv1⟩ : ∃ v, xs.getD (i * 7 + 1) 0 = v := ⟨_, rfl⟩
          obtain ⟨v2, hv2⟩ : ∃ v, xs.getD (i * 7 + 2) 0 = v := ⟨_, rfl⟩
          obtain ⟨v3, hv3⟩ : ∃ v, xs.getD (i * 7 + 3) 0 = v := ⟨_, rfl⟩
          obtain ⟨v4, hv4⟩ : ∃ v, xs.getD (i * 7 + 4) 0 = v := ⟨_, rfl⟩
          obtain ⟨v5, hv5⟩ : ∃ v, xs.getD (i * 7 + 5) 0 = v := ⟨_, rfl⟩
          obtain ⟨v6, hv6⟩ : ∃ v, xs.getD (i * 7 + 6) 0 = v := ⟨_, rfl⟩
          have hx0 : wr.cell? ⟨g, i * 7, none⟩ = some (.int .i64 v0) := by rw [← hv0]; exact hA 0 (by omega)
          have hy0 : wr.cell? ⟨g', i * 7, none⟩ = some (.int .i64 v0) := by rw [← hv0]; exact hB' 0 (by omega)
          have hx1 : wr.cell? ⟨g, i * 7 + 1, none⟩ = some (.int .i64 v1) := by rw [← hv1]; exact hA 1 (by omega)
          have hy1 : wr.cell? ⟨g', i * 7 + 1, none⟩ = some (.int .i64 v1) := by rw [← hv1]; exact hB' 1 (by omega)
          have hx2 : wr.cell? ⟨g, i * 7 + 2, none⟩ = some (.int .i64 v2) := by rw [← hv2]; exact hA 2 (by omega)
          have hy2 : wr.cell? ⟨g', i * 7 + 2, none⟩ = some (.int .i64 v2) := by rw [← hv2]; exact hB' 2 (by omega)
          have hx3 : wr.cell? ⟨g, i * 7 + 3, none⟩ = some (.int .i64 v3) := by rw [← hv3]; exact hA 3 (by omega)
          have hy3 : wr.cell? ⟨g', i * 7 + 3, none⟩ = some (.int .i64 v3) := by rw [← hv3]; exact hB' 3 (by omega)
          have hx4 : wr.cell? ⟨g, i * 7 + 4, none⟩ = some (.int .i64 v4) := by rw [← hv4]; exact hA 4 (by omega)
          have hy4 : wr.cell? ⟨g', i * 7 + 4, none⟩ = some (.int .i64 v4) := by rw [← hv4]; exact hB' 4 (by omega)
          have hx5 : wr.cell? ⟨g, i * 7 + 5, none⟩ = some (.int .i64 v5) := by rw [← hv5]; exact hA 5 (by omega)
          have hy5 : wr.cell? ⟨g', i * 7 + 5, none⟩ = some (.int .i64 v5) := by rw [← hv5]; exact hB' 5 (by omega)
          have hx6 : wr.cell? ⟨g, i * 7 + 6, none⟩ = some (.int .i64 v6) := by rw [← hv6]; exact hA 6 (by omega)
          have hy6 : wr.cell? ⟨g', i * 7 + 6, none⟩ = some (.int .i64 v6) := by rw [← hv6]; exact hB' 6 (by omega)
          clear hv0 hv1 hv2 hv3 hv4 hv5 hv6 hA hB' hb
          have hi0 : (i : Int) < (n : Int) := by omega
          have hq := eqA7 v0 v1 v2 v3 v4 v5 v6
          go_wp2
          go_still_tail 8, (by kernel_rfl)
          change wpList _ _ _ _ _ wr.drew
          go_wp2
          go_roundw
          case rel => exact ⟨i + 1, by omega, by go_num, bt HBW.out (below_drew1 wr)⟩
          case measure => simp [intOf]; omega
        · obtain rfl : i = n := by omega
          clear hb
          go_wp2
          go_ret
          exact ⟨rfl, HBW.out⟩


end Go.Proofs.Ytpijpelmebaalaa
