/-
  Contracts of the law file's helpers on slices of integers: equal, marked, held. No condition but the bounds on lengths.
-/
import Derived.Test.YtfdhmijofpbkjaaOwn
import Derived.Lib.Hide
import Derived.Deep.QuietTactic
import Derived.BigQuiet
namespace Go.Proofs.Ytfdhmijofpbkjaa
open Go.RowKit
set_option linter.unusedVariables false


set_option maxHeartbeats 1000000 in
theorem eqIntS_any {A B : Nat} (a b : Value) (xs ys : List Int) (w : World) (ha : Own A w a xs) (hb : Own B w b ys) (hx : xs.length ≤ 1073741824) (hy : ys.length ≤ 1073741824) :
    Calls Try.prog 8 #[a, b] w fun e w' => e = .returned (.bool (decide (xs = ys))) ∧ Below w.heap.size w w' := by
  by_cases hl : xs.length = ys.length
  · rcases own_cases ha with ⟨rfl, rfl⟩ | ⟨g, cap, rfl, hg1, hg2, hg3, hg4, hgc, hgf⟩
    · obtain rfl : ys = [] := List.eq_nil_of_length_eq_zero hl.symm
      rcases own_cases hb with ⟨rfl, _⟩ | ⟨g', cap', rfl, _⟩
      all_goals (
        go_enter Try.func8, Try.ntmps8
        go_wp2
        refine wp_loop_rounds 1 ?_
        rw [rounds_succ]
        go_wp2
        go_ret
        exact ⟨rfl, Below.refl _ _⟩)
    · rcases own_cases hb with ⟨rfl, rfl⟩ | ⟨g', cap', rfl, hh1, hh2, hh3, hh4, hhc, hhf⟩
      · obtain rfl : xs = [] := List.eq_nil_of_length_eq_zero hl
        go_enter Try.func8, Try.ntmps8
        go_wp2
        refine wp_loop_rounds 1 ?_
        rw [rounds_succ]
        go_wp2
        go_ret
        exact ⟨rfl, Below.refl _ _⟩
      · rw [← hl]
        rw [← hl] at hhc
        have HA := Lib.hid hgc
        have HB := Lib.hid hhc
        have HL := Lib.hid hl
        generalize hn : xs.length = n at *
        have HN := Lib.hid hn
        clear hgc hhc hl hn ha hb hgf hhf hg1 hg2 hg3 hg4 hh1 hh2 hh3 hh4
        go_enter Try.func8, Try.ntmps8
        go_wp2
        go_loopw [5] (fun i wr => ∃ k q : Nat, k ≤ n ∧ i = .int .i64 k ∧ wr = w.drewN q ∧ ∀ j, j < k → xs.getD j 0 = ys.getD j 0) (fun i _ => n - (intOf i).toNat)
        case atStart => exact ⟨0, 0, by omega, rfl, rfl, fun j hj => absurd hj (Nat.not_lt_zero _)⟩
        case round =>
          obtain ⟨k, q, hk, rfl, rfl, he⟩ := hrel
          have HE := Lib.hid he
          clear he
          by_cases hlt : k < n
          · have hca : w.cell? ⟨g, k, none⟩ = some (.int .i64 (xs.getD k 0)) := HA.out k hlt
            have hcb : w.cell? ⟨g', k, none⟩ = some (.int .i64 (ys.getD k 0)) := HB.out k hlt
            generalize hxk : xs.getD k 0 = x at hca
            generalize hyk : ys.getD k 0 = y at hcb
            have HX := Lib.hid hxk
            have HY := Lib.hid hyk
            clear hxk hyk
            have hi0 : (k : Int) < (n : Int) := by omega
            by_cases hxy : x = y
            · have hb1 : (x != y) = false := by simp [hxy]
              have HXY := Lib.hid hxy
              clear hxy
              go_wp2
              go_quiet (fail)
              go_wp2
              go_roundw
              case rel => exact ⟨k + 1, q + nq, by omega, by go_num, rfl, fun j hj => by by_cases e : j = k; (subst e; rw [HX.out, HY.out]; exact HXY.out); exact HE.out j (by omega)⟩
              case measure => simp [intOf]; omega
            · have hb1 : (x != y) = true := by simpa using hxy
              have HXY := Lib.hid hxy
              clear hxy
              go_wp2
              go_quiet (fail)
              go_wp2
              go_ret
              refine ⟨?_, ?_⟩
              · have hne : xs ≠ ys := fun e => HXY.out (by rw [← HX.out, ← HY.out, e])
                rw [decide_eq_false hne]
                rfl
              · exact (below_drewN w q).trans (below_drewN (w.drewN q) nq)
          · obtain rfl : k = n := by omega
            go_wp2
            go_ret
            refine ⟨?_, below_drewN _ _⟩
            have heq : xs = ys := list_ext_getD HN.out HL.out.symm HE.out
            rw [decide_eq_true heq]
            rfl
  · have hne : xs ≠ ys := fun e => hl (by rw [e])
    have hb1 : ((xs.length : Int) != (ys.length : Int)) = true := by rw [bne_iff_ne]; omega
    rw [decide_eq_false hne]
    obtain ⟨a1, c1, rfl⟩ := own_shape ha
    obtain ⟨a2, c2, rfl⟩ := own_shape hb
    generalize xs.length = n at *
    generalize ys.length = m at *
    clear ha hb
    go_enter Try.func8, Try.ntmps8
    go_wp2
    go_ret
    exact ⟨rfl, Below.refl _ _⟩

/-- n numbers one by one, from k on. -/
def mkL (k : Int) (n : Nat) : List Int := (List.range n).map fun i : Nat => k + (i : Int)
theorem mkL_len (k : Int) (n : Nat) : (mkL k n).length = n := by simp [mkL]
theorem mkL_at (k : Int) (n j : Nat) (h : j < n) : (mkL k n).getD j 0 = k + j := by simp [mkL, List.getD, h]
theorem mkL_step (k : Int) (xs : List Int) (i : Nat) (h : i < xs.length) : (mkL k i ++ xs.drop i).set i (k + i) = mkL k (i + 1) ++ xs.drop (i + 1) := by
  rw [List.set_append_right _ _ (by rw [mkL_len]; exact Nat.le_refl _), mkL_len, Nat.sub_self]
  have e : mkL k (i + 1) = mkL k i ++ [k + i] := by simp [mkL, List.range_succ]
  rw [e, List.append_assoc, List.drop_eq_getElem_cons h]
  rfl
theorem mkL_mid (k : Int) (xs : List Int) (i : Nat) (h : i ≤ xs.length) : (mkL k i ++ xs.drop i).length = xs.length := by
  rw [List.length_append, mkL_len, List.length_drop]; omega

set_option maxHeartbeats 1000000 in
theorem markIntS_any {B : Nat} (a : Value) (xs : List Int) (k : Int) (w : World) (ha : Own B w a xs) (hx : xs.length ≤ 1073741824) (h0 : 0 ≤ k) (h1 : k ≤ 1073741824) :
    Calls Try.prog 9 #[a, .int .i64 k] w fun e w' => e = .returned (.int .i64 (k + xs.length)) ∧ Own B w' a (mkL k xs.length) ∧ Below B w w' ∧ w'.heap.size = w.heap.size ∧ Only a w w' := by
  rcases own_cases ha with ⟨rfl, rfl⟩ | ⟨g, cap, rfl, hg1, hg2, hg3, hg4, hgc, hgf⟩
  · go_enter Try.func9, Try.ntmps9
    go_wp2
    refine wp_loop_rounds 1 ?_
    rw [rounds_succ]
    go_wp2
    go_ret
    exact ⟨by simp, ha, Below.refl _ _, rfl, only_refl _ _⟩
  · generalize hn : xs.length = n at *
    have HN := Lib.hid hn
    have HO := Lib.hid ha
    have HG := Lib.hid hg1
    clear hgc hgf hn ha hg1 hg2 hg3 hg4
    go_enter Try.func9, Try.ntmps9
    go_wp2
    go_loopw [1, 5] (fun kv iv wr => ∃ i : Nat, i ≤ n ∧ iv = .int .i64 i ∧ kv = .int .i64 (k + i) ∧ Own B wr (.slice (some ⟨g, 0, none⟩) n cap) (mkL k i ++ xs.drop i) ∧ Below B w wr ∧ wr.heap.size = w.heap.size ∧ Only (.slice (some ⟨g, 0, none⟩) n cap) w wr) (fun _ iv _ => n - (intOf iv).toNat)
    case atStart => exact ⟨0, by omega, rfl, by simp, by simpa [mkL, Own, HN.out] using HO.out, Below.refl _ _, rfl, only_refl _ _⟩
    case round =>
      obtain ⟨i, hi, rfl, rfl, ho, hb, hz, hon⟩ := hrel
      have HZ := Lib.hid hz
      have hlen := mkL_mid k xs i (by rw [HN.out]; exact hi)
      rw [HN.out] at hlen
      have HL := Lib.hid hlen
      clear hz hlen
      by_cases hlt : i < n
      · have hcf : wr.frozen? ⟨g, i, none⟩ = false := World.ownsRow.frozenAt (h := by have := ho; unfold Own at this; rw [HL.out] at this; exact this) i
        have hcc : ∃ u, wr.cell? ⟨g, i, none⟩ = some u := by
          have := ho; unfold Own at this; rw [HL.out] at this
          rw [World.ownsRow.cellAt this i (by omega)]
          rw [List.getElem?_eq_getElem (by rw [List.length_map, HL.out]; exact hlt)]
          exact ⟨_, rfl⟩
        obtain ⟨u, hcu⟩ := hcc
        have HO2 := Lib.hid ho
        clear ho
        go_wp2
        go_roundw
        case rel =>
          refine ⟨i + 1, by omega, by go_num, by go_num, ?_, hb.setCell HG.out _, by simpa using HZ.out, only_set hon _ _⟩
          have h2 := HO2.out
          rw [show (Value.slice (some ⟨g, 0, none⟩) n cap) = .slice (some ⟨g, 0, none⟩) (mkL k i ++ xs.drop i).length cap by rw [HL.out]] at h2
          have h3 := own_set h2 i (k + i)
          rw [mkL_step k xs i (by rw [HN.out]; exact hlt), HL.out] at h3
          exact h3
        case measure => simp [intOf]; omega
      · obtain rfl : i = n := by omega
        have h2 : mkL k i ++ xs.drop i = mkL k i := by rw [List.drop_eq_nil_of_le (by rw [HN.out]; exact Nat.le_refl _), List.append_nil]
        rw [h2] at ho
        clear h2
        go_wp2
        go_ret
        exact ⟨rfl, ho, hb, HZ.out, hon⟩

set_option maxHeartbeats 1000000 in
theorem heldIntS_any {B : Nat} (a : Value) (n : Nat) (k : Int) (w : World) (ha : Own B w a (mkL k n)) (hx : n ≤ 1073741824) (h0 : 0 ≤ k) (h1 : k ≤ 1073741824) :
    Calls Try.prog 10 #[a, .int .i64 k] w fun e w' => e = .returned (.int .i64 (k + n)) ∧ Below w.heap.size w w' := by
  have hcs := own_cases ha
  rw [mkL_len] at hcs
  rcases hcs with ⟨rfl, he⟩ | ⟨g, cap, rfl, hg1, hg2, hg3, hg4, hgc, hgf⟩
  · obtain rfl : n = 0 := by have := mkL_len k n; rw [he] at this; exact this.symm
    go_enter Try.func10, Try.ntmps10
    go_wp2
    refine wp_loop_rounds 1 ?_
    rw [rounds_succ]
    go_wp2
    go_ret
    exact ⟨by simp, Below.refl _ _⟩
  · have HC : Hid (∀ j, j < n → w.cell? ⟨g, j, none⟩ = some (.int .i64 (k + j))) := fun j hj => by rw [hgc j hj, mkL_at k n j hj]
    clear hgc hgf ha hg1 hg2 hg3 hg4
    go_enter Try.func10, Try.ntmps10
    go_wp2
    go_loopw [1, 5] (fun kv iv wr => ∃ i q : Nat, i ≤ n ∧ iv = .int .i64 i ∧ kv = .int .i64 (k + i) ∧ wr = w.drewN q) (fun _ iv _ => n - (intOf iv).toNat)
    case atStart => exact ⟨0, 0, by omega, rfl, by simp, rfl⟩
    case round =>
      obtain ⟨i, q, hi, rfl, rfl, rfl⟩ := hrel
      by_cases hlt : i < n
      · have hcell := HC.out i hlt
        have hi0 : (i : Int) < (n : Int) := by omega
        go_wp2
        go_roundw
        case rel => exact ⟨i + 1, q, by omega, by go_num, by go_num, rfl⟩
        case measure => simp [intOf]; omega
      · obtain rfl : i = n := by omega
        go_wp2
        go_ret
        exact ⟨rfl, below_drewN _ _⟩

end Go.Proofs.Ytfdhmijofpbkjaa
