/-
  Contracts of slices.AppendSeq, Collect and Sorted at an iterator over integers that reads memory between two rounds: a new slice that holds them. (The loop over the iterator is walked by the law that lets the iterator say what a round keeps.) Condition: at most ten integers.
-/
import Derived.Test.YtfdhmijofpbkjaaShelf
import Derived.Test.YtfdhmijofpbkjaaOwn
import Derived.RangeFuncNested
import Derived.RangeFuncBound
import Derived.RangeFuncCalls
import Derived.RangeFuncLeaves
import Derived.RangeFuncBox
import Derived.Shelf.Abstract
import Derived.Shelf.RegionOpen
import Derived.WalkKit
import Derived.OwnWalkIn
import Derived.TacticsInMore
import Derived.LoopNIn
import Derived.LoopIn
import Derived.Maps.AppendAt
import Derived.Lib.SlKeysI
import Derived.Lib.Hide
namespace Go.Proofs.Ytfdhmijofpbkjaa
open Go.RowKit Go.Maps Go.Sort Go.Shelf
set_option linter.unusedVariables false
attribute [local go_sem] Oper.semAt_some

theorem srt_info : (Try.prog.info? 3).map (fun i => (i.zero, i.size, i.bytes)) = some (some (.int .i64 0), 1, 8) := by kernel_rfl

/-- The iterator's promise: it goes over zs, as long as the rounds keep what lay below n. -/
abbrev Gives (n : Nat) (g : Nat) (lb : Array Value) (zs : List Int) (w : World) : Prop :=
  SeqStopsK Fence.wide 2 Try.prog g lb (fun x : Int => #[.int .i64 x]) (Below n) (fun ys => ys = zs) (fun _ => True) zs.length w

set_option maxRecDepth 100000 in
set_option maxHeartbeats 2000000 in
theorem append_over (g : Nat) (lb : Array Value) (eg : ∀ args w, (callFunc g args).run Try.prog w = .ok (.enter g args) w) (zs : List Int) (hz : zs.length ≤ 10) (w : World) (hG : Gives w.heap.size g lb zs w) :
    Calls Try.prog 41 #[.slice none 0 0, .func (.func g) #[] lb] w fun e w' => ∃ v, e = .returned v ∧ Own w.heap.size w' v zs ∧ Below w.heap.size w w' := by
  refine (callsIn_wide (n := 3)).1 ?_
  obtain ⟨i0, hi, hz0, hz1, hz2⟩ := info_parts srt_info
  refine callsIn_of_wp_marks Try.func41 rfl trivial ?_ rfl
  simp only [Try.ntmps41, List.size_toArray, List.length_cons, List.length_nil, Nat.reduceAdd, Nat.reduceSub, Array.replicate_succ, Array.replicate_zero, List.push_toArray, List.append_toArray, List.nil_append, List.cons_append]
  gi_wp2
  have bS := Boxed.new w 22 (.slice none 0 0)
  have hB0 : Below w.heap.size w (w.alloc (.cells #[.slice none 0 0] 22)) := (Below.refl _ w).alloc (Nat.le_refl _) _
  refine wpIn_rangeFunc_ownG rfl (by omega) (gf := g) (lb := lb) rfl trivial eg hG belowK_t (belowK_b (by simp)) hB0 (fun _ => rfl)
    (fun pre W => (∃ v, Boxed W w.heap.size 22 v ∧ W.ownsRow w.heap.size 3 1 v pre.length (pre.map (Value.int .i64)) ∧ True) ∧ Below w.heap.size w W)
    (fun _ _ _ => False)
    (OwnFrom.and (Own.from (holdsRow_own w.heap.size w.heap.size 22 3 1 (fun pre : List Int => pre.length) (fun pre => pre.map (Value.int .i64)) (fun _ _ => True)) _) (ownFrom_below (Nat.le_refl _) (by simp)))
    (fun _ _ _ _ _ hs _ _ => hs)
    ⟨⟨_, bS, ⟨rfl, .inl ⟨rfl, rfl⟩⟩, trivial⟩, hB0⟩
    (fun x => { tmps := #[.slice none 0 0, .func (.func g) #[] lb, .pointer (some ⟨w.heap.size, 0, none⟩), undef, .slice none 0 0, .int .i64 x, .func (.func g) #[] lb, .int .i64 x, undef, undef, undef, undef, undef], defers := [] }) ?assign ?body ?done ?stop
  case assign =>
    intro l x W K hK
    gi_wp2
    exact hK
  case body =>
    rintro l pre x W ⟨⟨v, hv, hrow, -⟩, hB⟩ hlt
    have hcv := hv.cell
    gi_wp2_with (gi_at_builtin; refine wpListIn_append_own _ rfl _ _ 22 rfl w.heap.size 3 i0 (.int .i64 0) 1 8 Try.underlying22 hi hz0 hz1 hz2 rfl (by decide) _ _ _ rfl (hrow.alloc _) ⟨W.heap.size, 0, none⟩ 1 1 [.int .i64 x] rfl rfl (cell_one_new _ _ _) (by simp [Value.oneCell']) (by unfold maxLen; omega) (by omega) (by have := hB.size; simp; omega) ?_; intro v' w1 hown' hgrow _; obtain ⟨g', cap', rfl⟩ := ownsRow_succ hown'; obtain ⟨hv1, hv2, hr2, hk2, hb2⟩ := hv.appended (by decide) hrow hB.size (Nat.le_refl _) hown' hgrow; have hc1 := hv1.cell; have hf1 := hv1.frozen)
    exact ⟨hk2.from _, hb2, ⟨_, hv2, by simpa using hr2, trivial⟩, hB.trans hb2⟩
  case done =>
    rintro D ys W hD rfl ⟨⟨v, hv, hrow, -⟩, hB⟩ hK
    have hcv := hv.cell
    gi_wp2
    refine ⟨by simp, .inl ⟨_, _, rfl, run_takeDeferred hK, ?_⟩⟩
    exact ⟨_, results_tmp rfl _ _ _, v, rfl, ownsRow_putObj hrow _ hK rfl, hB.trans (belowK_b (w := w) (Nat.le_refl _) W D _ _ (by simp at hD; omega) hK rfl rfl)⟩
  case stop =>
    rintro D c pre W _ _ h _
    exact h.elim

set_option maxHeartbeats 1000000 in
theorem collect_over (g : Nat) (lb : Array Value) (eg : ∀ args w, (callFunc g args).run Try.prog w = .ok (.enter g args) w) (zs : List Int) (hz : zs.length ≤ 10) (w : World) (hG : Gives w.heap.size g lb zs w) :
    Calls Try.prog 31 #[.func (.func g) #[] lb] w fun e w' => ∃ v, e = .returned v ∧ Own w.heap.size w' v zs ∧ Below w.heap.size w w' := by
  go_enter Try.func31, Try.ntmps31
  go_wp2_with (go_at_call 41; refine (append_over g lb eg zs hz w hG).mono ?_; rintro e w' ⟨v, rfl, ho, hb⟩)
  go_ret
  exact ⟨v, rfl, ho, hb⟩

set_option maxHeartbeats 1000000 in
theorem sorted_over (g : Nat) (lb : Array Value) (eg : ∀ args w, (callFunc g args).run Try.prog w = .ok (.enter g args) w) (zs : List Int) (hz : zs.length ≤ 10) (w : World) (hG : Gives w.heap.size g lb zs w) :
    Calls Try.prog 23 #[.func (.func g) #[] lb] w fun e w' => ∃ v, e = .returned v ∧ Own w.heap.size w' v (zs.mergeSort (fun x y => decide (x ≤ y))) ∧ Below w.heap.size w w' := by
  have hlen : (zs.mergeSort (fun x y => decide (x ≤ y))).length = zs.length := List.length_mergeSort _
  go_enter Try.func23, Try.ntmps23
  go_wp2_with ((go_at_call 31; refine (collect_over g lb eg zs hz w hG).mono ?_; rintro e w1 ⟨v, rfl, ho, hb⟩))
  have ho' := ho
  obtain ⟨_, ⟨rfl, h0⟩ | ⟨q, cap, cur, rfl, hq, hqb, r1, r2, r3, r4⟩⟩ := ho
  · obtain rfl : zs = [] := List.eq_nil_of_length_eq_zero h0
    go_wp2_with (go_at_call 32; refine (Try.slices_Sort_int_none none 0 w1).mono ?_; rintro e w2 ⟨rfl, rfl⟩)
    go_ret
    exact ⟨_, rfl, by simpa using ho', hb⟩
  · have hH : Holds (Value.int .i64) w1 q 0 zs.toArray := holds_of_block_i hqb (by simpa using r4)
    go_wp2_with (go_at_call 32; refine (Try.slices_Sort_int q 0 cap zs w1 hH (Array.getElem?_eq_some_iff.1 hqb).1 (by omega)).mono ?_; rintro e w2 ⟨rfl, n, os, rfl⟩)
    go_ret
    refine ⟨_, rfl, ?_, hb.grown (grownBy_sorted_i _) hb.size (fun j hj => by cases hj; exact hq)⟩
    have := ownsRow_sorted_i (n := n) (os := os) (ts := zs.mergeSort (fun x y => decide (x ≤ y))) (by simp) hq hqb r1 r2 r3
    unfold Own
    rw [hlen]
    exact this

end Go.Proofs.Ytfdhmijofpbkjaa
