/-
  Contracts of slices.Values at a slice of integers, and of slices.Sorted of what it hands back. (The iterator's walk is a worked proof of the kit, turned.) Condition: at most ten integers.
-/
import Derived.Test.YtfdhmijofpbkjaaSrt
namespace Go.Proofs.Ytfdhmijofpbkjaa
open Go.RowKit Go.Maps Go.Sort Go.Shelf
set_option linter.unusedVariables false
attribute [local go_sem] Oper.semAt_some

set_option maxRecDepth 100000 in
set_option maxHeartbeats 2000000 in
theorem vals1_in (n l Bs b len cap : Nat) (zs : List Int) (hlen : zs.length = len) (hl : len ≤ 10) (hb : b < n) (J Jx : List Int → World → Prop)
    (hY : ∀ pre x W, J pre W → pre.length < len → YieldAt Fence.wide 1 Try.prog l #[.int .i64 x] W fun e W' =>
      (e = .returned (.bool true) ∧ J (pre ++ [x]) W' ∧ Below n W W') ∨ (e = .returned (.bool false) ∧ Jx (pre ++ [x]) W'))
    (W : World) (hBs : W.cell? ⟨Bs, 0, none⟩ = some (.slice (some ⟨b, 0, none⟩) len cap)) (hc : ∀ j, j < len → W.cell? ⟨b, j, none⟩ = some (.int .i64 (zs.getD j 0))) (h0 : J [] W) :
    CallsIn Fence.wide 2 Try.prog 33 #[.func (.yield l) #[] #[], .pointer (some ⟨Bs, 0, none⟩)] W fun e W' => (∃ v, e = .returned v) ∧ ((∃ xs, xs = zs ∧ J xs W') ∨ ∃ pre, True ∧ Jx pre W') := by
  refine callsIn_of_wp Try.func33 rfl trivial ?_ rfl
  simp only [Try.ntmps33, List.size_toArray, List.length_cons, List.length_nil, Nat.reduceAdd, Nat.reduceSub, Array.replicate_succ, Array.replicate_zero, List.push_toArray, List.append_toArray, List.nil_append, List.cons_append]
  gi_wp2
  gi_loopw [7] (fun i wr => ∃ k : Nat, k ≤ len ∧ i = .int .i64 k ∧ J (zs.take k) wr ∧ Below n W wr) (fun i _ => len - (intOf i).toNat)
  case atStart => exact ⟨0, Nat.zero_le _, rfl, h0, Below.refl _ _⟩
  case round =>
    obtain ⟨k, hk, rfl, hJs, hnx⟩ := hrel
    by_cases hlt : k < len
    · have hcx' : wr.cell? ⟨b, k, none⟩ = some (.int .i64 (zs.getD k 0)) := (hnx.cell (p := ⟨b, k, none⟩) hb).trans (hc k hlt)
      obtain ⟨fn, tmps, assign, body, hy, hR⟩ := hY _ (zs.getD k 0) wr hJs (by rw [List.length_take]; omega)
      have HT : zs.take (k + 1) = zs.take k ++ [zs.getD k 0] := by
        rw [List.take_succ_eq_append_getElem (by omega)]
        simp [List.getD, List.getElem?_eq_getElem (show k < zs.length by omega)]
      have HTH := Lib.hid HT
      clear HT hc
      generalize zs.getD k 0 = x at hcx' hy hR HTH
      have hkI : (k : Int) < (len : Int) := by omega
      gi_wp2
      refine hR.mono ?_
      rintro e W3 (⟨rfl, hJ3, hk3⟩ | ⟨rfl, hJ3⟩)
      · gi_wp2
        go_roundw
        case rel => exact ⟨k + 1, by omega, by simp, by rw [HTH.out]; exact hJ3, hnx.trans hk3⟩
        case measure => simp [intOf]; omega
      · gi_wp2
        refine bodyPost_ret (results_none rfl _ _ _) rfl ?_
        exact ⟨⟨_, rfl⟩, .inr ⟨_, trivial, hJ3⟩⟩
    · obtain rfl : k = len := by omega
      gi_wp2
      go_end0
      refine ⟨⟨_, rfl⟩, .inl ⟨zs, rfl, ?_⟩⟩
      rw [List.take_of_length_le (by omega)] at hJs
      exact hJs

set_option maxRecDepth 100000 in
set_option maxHeartbeats 1000000 in
theorem vals1_nil (l Bs : Nat) (J : List Int → World → Prop) (W : World) (hBs : W.cell? ⟨Bs, 0, none⟩ = some (.slice none 0 0)) (h0 : J [] W) :
    CallsIn Fence.wide 2 Try.prog 33 #[.func (.yield l) #[] #[], .pointer (some ⟨Bs, 0, none⟩)] W fun e W' => (∃ v, e = .returned v) ∧ J [] W' := by
  refine callsIn_of_wp Try.func33 rfl trivial ?_ rfl
  simp only [Try.ntmps33, List.size_toArray, List.length_cons, List.length_nil, Nat.reduceAdd, Nat.reduceSub, Array.replicate_succ, Array.replicate_zero, List.push_toArray, List.append_toArray, List.nil_append, List.cons_append]
  gi_wp2
  gi_loopw [7] (fun i wr => i = .int .i64 0 ∧ J [] wr) (fun _ _ => 0)
  case atStart => exact ⟨rfl, h0⟩
  case round =>
    obtain ⟨rfl, hJs⟩ := hrel
    gi_wp2
    go_end0
    exact ⟨⟨_, rfl⟩, hJs⟩

set_option maxHeartbeats 1000000 in
theorem values_any (a : Option Addr) (len cap : Nat) (w : World) :
    Calls Try.prog 24 #[.slice a len cap] w fun e w' => e = .returned (.func (.func 33) #[] #[.pointer (some ⟨w.heap.size, 0, none⟩)]) ∧ w' = w.alloc (.cells #[.slice a len cap] 22) := by
  go_enter Try.func24, Try.ntmps24
  go_wp2
  go_ret
  exact ⟨rfl, rfl⟩

theorem vals_over {A : Nat} (Bs : Nat) (v : Value) (zs : List Int) (w : World) (hv : Own A w v zs) (hl : zs.length ≤ 10) (hB : Bs < w.heap.size) (hBs : w.cell? ⟨Bs, 0, none⟩ = some v) :
    Gives w.heap.size 33 #[.pointer (some ⟨Bs, 0, none⟩)] zs w := fun l J Jx W hW _ _ hY h0 => by
  have hc' := (hW.cell (p := ⟨Bs, 0, none⟩) hB).trans hBs
  rcases own_cases hv with ⟨rfl, rfl⟩ | ⟨g, cap, rfl, hg1, hg2, hg3, hg4, hgc, hgf⟩
  · exact (vals1_nil l Bs J W hc' h0).mono fun e W' h => ⟨h.1, .inl ⟨_, rfl, h.2⟩⟩
  · exact vals1_in w.heap.size l Bs g zs.length cap zs rfl hl hg2 J Jx hY W hc' (fun j hj => (hW.cell (p := ⟨g, j, none⟩) hg2).trans (hgc j hj)) h0

theorem sorted_any {A : Nat} (Bs : Nat) (v : Value) (zs : List Int) (w : World) (hv : Own A w v zs) (hl : zs.length ≤ 10) (hB : Bs < w.heap.size) (hBs : w.cell? ⟨Bs, 0, none⟩ = some v) :
    Calls Try.prog 23 #[.func (.func 33) #[] #[.pointer (some ⟨Bs, 0, none⟩)]] w fun e w' => ∃ u, e = .returned u ∧ Own w.heap.size w' u (zs.mergeSort (fun x y => decide (x ≤ y))) ∧ Below w.heap.size w w' :=
  sorted_over 33 #[.pointer (some ⟨Bs, 0, none⟩)] (enters_of Try.func33 (by kernel_rfl) rfl) zs hl w (vals_over Bs v zs w hv hl hB hBs)

end Go.Proofs.Ytfdhmijofpbkjaa
