/-
  Contract of rInts: two slices are equal. No condition but the bounds on lengths.
-/
import Derived.Test.YthgjghgkjhkbbaaGreatDoorOwn
import Derived.Lib.Hide
import Derived.Deep.QuietTactic
import Derived.BigQuiet
namespace Go.Proofs.YthgjghgkjhkbbaaGreatDoor
open Go.RowKit
set_option linter.unusedVariables false
set_option maxRecDepth 20000

set_option maxHeartbeats 1000000 in
theorem rInts_any {A B : Nat} (a b : Value) (xs ys : List Int) (w : World) (ha : Own A w a xs) (hb : Own B w b ys) (hx : xs.length ≤ 1073741824) (hy : ys.length ≤ 1073741824) :
    Calls Tryz.prog 8 #[a, b] w fun e w' => e = .returned (.bool (decide (xs = ys))) ∧ Below w.heap.size w w' := by
  by_cases hl : xs.length = ys.length
  · rcases own_cases ha with ⟨rfl, rfl⟩ | ⟨g, cap, rfl, hg1, hg2, hg3, hg4, hgc, hgf⟩
    · obtain rfl : ys = [] := List.eq_nil_of_length_eq_zero hl.symm
      rcases own_cases hb with ⟨rfl, _⟩ | ⟨g', cap', rfl, _⟩
      all_goals (
        go_enter Tryz.func8, Tryz.ntmps8
        go_wp2
        refine wp_loop_rounds 1 ?_
        rw [rounds_succ]
        go_wp2
        go_ret
        exact ⟨rfl, Below.refl _ _⟩)
    · rcases own_cases hb with ⟨rfl, rfl⟩ | ⟨g', cap', rfl, hh1, hh2, hh3, hh4, hhc, hhf⟩
      · obtain rfl : xs = [] := List.eq_nil_of_length_eq_zero hl
        go_enter Tryz.func8, Tryz.ntmps8
        go_wp2
        refine wp_loop_rounds 1 ?_
        rw [rounds_succ]
        go_wp2
        go_ret
        exact ⟨rfl, Below.refl _ _⟩
      · rw [← hl]
        rw [← hl] at hhc
        have HA := Lib.hid hgc
        have HB := Lib.hid hhc
        have HL := Lib.hid hl
        generalize hn : xs.length = n at *
        have HN := Lib.hid hn
        clear hgc hhc hl hn ha hb hgf hhf hg1 hg2 hg3 hg4 hh1 hh2 hh3 hh4
        go_enter Tryz.func8, Tryz.ntmps8
        go_wp2
        go_loopw [5] (fun i wr => ∃ k q : Nat, k ≤ n ∧ i = .int .i64 k ∧ wr = w.drewN q ∧ ∀ j, j < k → xs.getD j 0 = ys.getD j 0) (fun i _ => n - (intOf i).toNat)
        case atStart => exact ⟨0, 0, by omega, rfl, rfl, fun j hj => absurd hj (Nat.not_lt_zero _)⟩
        case round =>
          obtain ⟨k, q, hk, rfl, rfl, he⟩ := hrel
          have HE := Lib.hid he
          clear he
          by_cases hlt : k < n
          · have hca : w.cell? ⟨g, k, none⟩ = some (.int .i64 (xs.getD k 0)) := HA.out k hlt
            have hcb : w.cell? ⟨g', k, none⟩ = some (.int .i64 (ys.getD k 0)) := HB.out k hlt
            generalize hxk : xs.getD k 0 = x at hca
            generalize hyk : ys.getD k 0 = y at hcb
            have HX := Lib.hid hxk
            have HY := Lib.hid hyk
            clear hxk hyk
            have hi0 : (k : Int) < (n : Int) := by omega
            by_cases hxy : x = y
            · have hb1 : (x != y) = false := by simp [hxy]
              have HXY := Lib.hid hxy
              clear hxy
              go_wp2
              go_quiet (fail)
              go_wp2
              go_roundw
              case rel => exact ⟨k + 1, q + nq, by omega, by go_num, rfl, fun j hj => by by_cases e : j = k; (subst e; rw [HX.out, HY.out]; exact HXY.out); exact HE.out j (by omega)⟩
              case measure => simp [intOf]; omega
            · have hb1 : (x != y) = true := by simpa using hxy
              have HXY := Lib.hid hxy
              clear hxy
              go_wp2
              go_quiet (fail)
              go_wp2
              go_ret
              refine ⟨?_, ?_⟩
              · have hne : xs ≠ ys := fun e => HXY.out (by rw [← HX.out, ← HY.out, e])
                rw [decide_eq_false hne]
                rfl
              · exact (below_drewN w q).trans (below_drewN (w.drewN q) nq)
          · obtain rfl : k = n := by omega
            go_wp2
            go_ret
            refine ⟨?_, below_drewN _ _⟩
            have heq : xs = ys := list_ext_getD HN.out HL.out.symm HE.out
            rw [decide_eq_true heq]
            rfl
  · have hne : xs ≠ ys := fun e => hl (by rw [e])
    have hb1 : ((xs.length : Int) != (ys.length : Int)) = true := by rw [bne_iff_ne]; omega
    rw [decide_eq_false hne]
    obtain ⟨a1, c1, rfl⟩ := own_shape ha
    obtain ⟨a2, c2, rfl⟩ := own_shape hb
    generalize xs.length = n at *
    generalize ys.length = m at *
    clear ha hb
    go_enter Tryz.func8, Tryz.ntmps8
    go_wp2
    go_ret
    exact ⟨rfl, Below.refl _ _⟩

end Go.Proofs.YthgjghgkjhkbbaaGreatDoor
