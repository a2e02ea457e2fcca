/-
  The contract of the law file's equality of two arrays of seven integers. No condition.
-/
import Derived.Test.YtpijpelmebaalaaArr
import Derived.Deep.QuietTactic
import Derived.BigQuiet
namespace Go.Proofs.Ytpijpelmebaalaa
open Go.RowKit
set_option linter.unusedVariables false


theorem ownT_pair (T : TypeId) (w : World) (cs ds : Array Value) (xs ys : List Int) (hx : xs.length ≤ maxLen) (hy : ys.length ≤ maxLen) (h : cs.toList = xs.map (Value.int .i64)) (k : ds.toList = ys.map (Value.int .i64)) :
    OwnT T w.heap.size ((w.alloc (.cells cs T)).alloc (.cells ds T)) w.heap.size xs ∧ OwnT T w.heap.size ((w.alloc (.cells cs T)).alloc (.cells ds T)) (w.heap.size + 1) ys ∧ Below w.heap.size w ((w.alloc (.cells cs T)).alloc (.cells ds T)) := by
  have hs : (w.alloc (.cells cs T)).heap.size = w.heap.size + 1 := by simp
  have hb : Below w.heap.size w ((w.alloc (.cells cs T)).alloc (.cells ds T)) := ((Below.refl _ _).alloc (Nat.le_refl _) _).alloc (by rw [hs]; omega) _
  refine ⟨ownT_keep (ownT_new w cs xs (Nat.le_refl _) hx h) ((Below.refl _ _).alloc (Nat.le_refl _) _), ?_, hb⟩
  rw [← hs]
  exact ownT_new (w.alloc (.cells cs T)) ds ys (by rw [hs]; omega) hy k
theorem list_ext7 {xs ys : List Int} {n : Nat} (hx : xs.length = n) (hy : ys.length = n) (h : ∀ j, j < n → xs.getD j 0 = ys.getD j 0) : xs = ys := list_ext_getD hx hy h

set_option maxHeartbeats 2000000 in
theorem eqIntA7_any (x0 x1 x2 x3 x4 x5 x6 y0 y1 y2 y3 y4 y5 y6 : Int) (w : World) :
    Calls Try.prog 53 #[.agg #[.int .i64 x0, .int .i64 x1, .int .i64 x2, .int .i64 x3, .int .i64 x4, .int .i64 x5, .int .i64 x6], .agg #[.int .i64 y0, .int .i64 y1, .int .i64 y2, .int .i64 y3, .int .i64 y4, .int .i64 y5, .int .i64 y6]] w fun e w' => e = .returned (.bool (decide ([x0, x1, x2, x3, x4, x5, x6] = [y0, y1, y2, y3, y4, y5, y6]))) ∧ Below w.heap.size w w' := by
  obtain ⟨xs, hxs⟩ : ∃ xs : List Int, [x0, x1, x2, x3, x4, x5, x6] = xs := ⟨_, rfl⟩
  obtain ⟨ys, hys⟩ : ∃ ys : List Int, [y0, y1, y2, y3, y4, y5, y6] = ys := ⟨_, rfl⟩
  have hXl : xs.length = 7 := by rw [← hxs]; rfl
  have hYl : ys.length = 7 := by rw [← hys]; rfl
  rw [hxs, hys]
  have HXS := Lib.hid hxs
  have HYS := Lib.hid hys
  have HXL := Lib.hid hXl
  have HYL := Lib.hid hYl
  clear hxs hys hXl hYl
  go_enter Try.func53, Try.ntmps53
  go_wp2
  obtain ⟨hO0, hO1, hBW⟩ := ownT_pair 58 w #[.int .i64 x0, .int .i64 x1, .int .i64 x2, .int .i64 x3, .int .i64 x4, .int .i64 x5, .int .i64 x6] #[.int .i64 y0, .int .i64 y1, .int .i64 y2, .int .i64 y3, .int .i64 y4, .int .i64 y5, .int .i64 y6] [x0, x1, x2, x3, x4, x5, x6] [y0, y1, y2, y3, y4, y5, y6] (by simp; decide) (by simp; decide) rfl rfl
  generalize (w.alloc (.cells #[.int .i64 x0, .int .i64 x1, .int .i64 x2, .int .i64 x3, .int .i64 x4, .int .i64 x5, .int .i64 x6] 58)).alloc (.cells #[.int .i64 y0, .int .i64 y1, .int .i64 y2, .int .i64 y3, .int .i64 y4, .int .i64 y5, .int .i64 y6] 58) = W0 at hO0 hO1 hBW ⊢
  rw [HXS.out] at hO0
  rw [HYS.out] at hO1
  have hg0 := (ownT_lt hO0).2
  have hg1 := (ownT_lt hO1).2
  have HX := Lib.hid (fun j (h : j < 7) => ownT_cell hO0 j (by rw [HXL.out]; exact h))
  have HY := Lib.hid (fun j (h : j < 7) => ownT_cell hO1 j (by rw [HYL.out]; exact h))
  have HBW := Lib.hid hBW
  clear hO0 hO1 hBW

  go_loopw [5] (fun iv wr => ∃ i : Nat, i ≤ 7 ∧ iv = .int .i64 i ∧ (∀ j, j < i → xs.getD j 0 = ys.getD j 0) ∧ Below W0.heap.size W0 wr) (fun iv _ => 7 - (intOf iv).toNat)
  case atStart => exact ⟨0, by omega, rfl, fun j hj => absurd hj (Nat.not_lt_zero _), Below.refl _ _⟩
  case round =>
    obtain ⟨i, hi, rfl, he, hb⟩ := hrel
    have HE := Lib.hid he
    have HB := Lib.hid hb
    clear he
    by_cases hlt : i < 7
    · have hcx : wr.cell? ⟨w.heap.size, i, none⟩ = some (.int .i64 (xs.getD i 0)) := by rw [hb.cell (p := ⟨w.heap.size, i, none⟩) hg0]; exact HX.out i hlt
      have hcy : wr.cell? ⟨w.heap.size + 1, i, none⟩ = some (.int .i64 (ys.getD i 0)) := by rw [hb.cell (p := ⟨w.heap.size + 1, i, none⟩) hg1]; exact HY.out i hlt
      generalize hx : xs.getD i 0 = x at hcx
      generalize hy : ys.getD i 0 = y at hcy
      have HXI := Lib.hid hx
      have HYI := Lib.hid hy
      have hi0 : (i : Int) < 7 := by omega
      clear hb hx hy
      by_cases hxy : x = y
      · have hb1 : (x != y) = false := by simp [hxy]
        have HXY := Lib.hid hxy
        clear hxy
        go_wp2
        go_quiet (fail)
        go_wp2
        go_roundw
        case rel => exact ⟨i + 1, by omega, by go_num, fun j hj => by by_cases e : j = i; (subst e; rw [HXI.out, HYI.out]; exact HXY.out); exact HE.out j (by omega), bt HB.out (below_drewN _ _)⟩
        case measure => simp [intOf]; omega
      · have hb1 : (x != y) = true := by simpa using hxy
        have HXY := Lib.hid hxy
        clear hxy
        go_wp2
        go_quiet (fail)
        go_wp2
        go_ret
        refine ⟨?_, bt HBW.out (bt HB.out (below_drewN _ _))⟩
        have hne : xs ≠ ys := fun e => HXY.out (by rw [← HXI.out, ← HYI.out, e])
        rw [decide_eq_false hne]
        rfl
    · obtain rfl : i = 7 := by omega
      clear hb
      go_wp2
      go_ret
      refine ⟨?_, bt HBW.out HB.out⟩
      have heq : xs = ys := list_ext7 HXL.out HYL.out HE.out
      rw [decide_eq_true heq]
      rfl

end Go.Proofs.Ytpijpelmebaalaa
