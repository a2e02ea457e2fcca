/-
  Contracts of slices.Values at a slice of integers, and of slices.Sorted of what it hands back. (The iterator's walk is a worked proof of the kit, turned.) Condition: at most ten integers.
-/
import Derived.Test.YtfdhmijofpbkjaaSrt
import Derived.RangeFuncBox
import Derived.RangeFuncLeaves
import Derived.Shelf.Abstract
namespace Go.Proofs.Ytfdhmijofpbkjaa
open Go.RowKit Go.Maps Go.Sort Go.Shelf
set_option linter.unusedVariables false

set_option maxRecDepth 100000 in
set_option maxHeartbeats 2000000 in
theorem vals1_in (F : Fence) (n : Nat) (h7 : F.fn 33) (hro : F.round = none) (hn : 1 ≤ n) (l Bs b len cap : Nat) (zs : List Int) (hlen : zs.length = len) (hl : len ≤ 10) (J : List Int → World → Prop)
    (hJc : ∀ s W', J s W' → ∀ j, j < len → W'.cell? ⟨b, j, none⟩ = some (.int .i64 (zs.getD j 0)))
    (hY : ∀ pre x W, J pre W → pre.length < len → YieldAt F (n - 1) Try.prog l #[.int .i64 x] W fun e W' => e = .returned (.bool true) ∧ J (pre ++ [x]) W' ∧ KeepsWalks W W')
    (W : World) (hBs : W.cell? ⟨Bs, 0, none⟩ = some (.slice (some ⟨b, 0, none⟩) len cap)) (h0 : J [] W) :
    CallsIn F n Try.prog 33 #[.func (.yield l) #[] #[], .pointer (some ⟨Bs, 0, none⟩)] W fun e W' => (∃ v, e = .returned v) ∧ J zs W' := by
  refine callsIn_of_wp Try.func33 rfl h7 ?_ hro
  simp only [Try.ntmps33, List.size_toArray, List.length_cons, List.length_nil, Nat.reduceAdd, Nat.reduceSub, Array.replicate_succ, Array.replicate_zero, List.push_toArray, List.append_toArray, List.nil_append, List.cons_append]
  gi_wp2
  gi_loopw [7] (fun i wr => ∃ k : Nat, k ≤ len ∧ i = .int .i64 k ∧ J (zs.take k) wr) (fun i _ => len - (intOf i).toNat)
  case atStart => exact ⟨0, Nat.zero_le _, rfl, h0⟩
  case round =>
    obtain ⟨k, hk, rfl, hJs⟩ := hrel
    by_cases hlt : k < len
    · have hcx' := hJc _ _ hJs k hlt
      obtain ⟨fn, tmps, assign, body, hy, hR⟩ := hY _ (zs.getD k 0) wr hJs (by rw [List.length_take]; omega)
      have HT : zs.take (k + 1) = zs.take k ++ [zs.getD k 0] := by
        rw [List.take_succ_eq_append_getElem (by omega)]
        simp [List.getD, List.getElem?_eq_getElem (show k < zs.length by omega)]
      have HTH := Lib.hid HT
      clear HT
      generalize zs.getD k 0 = x at hcx' hy hR HTH
      have hkI : (k : Int) < (len : Int) := by omega
      gi_wp2
      refine hR.mono ?_
      rintro e W3 ⟨rfl, hJ3, hk3⟩
      gi_wp2
      go_roundw
      case rel => exact ⟨k + 1, by omega, by simp, by rw [HTH.out]; exact hJ3⟩
      case measure => simp [intOf]; omega
    · obtain rfl : k = len := by omega
      gi_wp2
      go_end0
      refine ⟨⟨_, rfl⟩, ?_⟩
      rw [List.take_of_length_le (by omega)] at hJs
      exact hJs

set_option maxRecDepth 100000 in
set_option maxHeartbeats 1000000 in
theorem vals1_nil (F : Fence) (n : Nat) (h7 : F.fn 33) (hro : F.round = none) (l Bs : Nat) (J : List Int → World → Prop) (W : World) (hBs : W.cell? ⟨Bs, 0, none⟩ = some (.slice none 0 0)) (h0 : J [] W) :
    CallsIn F n Try.prog 33 #[.func (.yield l) #[] #[], .pointer (some ⟨Bs, 0, none⟩)] W fun e W' => (∃ v, e = .returned v) ∧ J [] W' := by
  refine callsIn_of_wp Try.func33 rfl h7 ?_ hro
  simp only [Try.ntmps33, List.size_toArray, List.length_cons, List.length_nil, Nat.reduceAdd, Nat.reduceSub, Array.replicate_succ, Array.replicate_zero, List.push_toArray, List.append_toArray, List.nil_append, List.cons_append]
  gi_wp2
  gi_loopw [7] (fun i wr => i = .int .i64 0 ∧ J [] wr) (fun _ _ => 0)
  case atStart => exact ⟨rfl, h0⟩
  case round =>
    obtain ⟨rfl, hJs⟩ := hrel
    gi_wp2
    go_end0
    exact ⟨⟨_, rfl⟩, hJs⟩

set_option maxHeartbeats 1000000 in
theorem values_any (a : Option Addr) (len cap : Nat) (w : World) :
    Calls Try.prog 24 #[.slice a len cap] w fun e w' => e = .returned (.func (.func 33) #[] #[.pointer (some ⟨w.heap.size, 0, none⟩)]) ∧ w' = w.alloc (.cells #[.slice a len cap] 22) := by
  go_enter Try.func24, Try.ntmps24
  go_wp2
  go_ret
  exact ⟨rfl, rfl⟩

theorem vals_over {A : Nat} (F : Fence) (n : Nat) (h7 : F.fn 33) (hro : F.round = none) (hn : 1 ≤ n) (Bs : Nat) (v : Value) (zs : List Int) (w : World) (hv : Own A w v zs) (hl : zs.length ≤ 10) (hB : Bs < w.heap.size) (hBs : w.cell? ⟨Bs, 0, none⟩ = some v) :
    SeqOver F n Try.prog 33 #[.pointer (some ⟨Bs, 0, none⟩)] zs w := fun l J W hW hJ hY h0 => by
  have hc' := (hW.cell (p := ⟨Bs, 0, none⟩) hB).trans hBs
  rcases own_cases hv with ⟨rfl, rfl⟩ | ⟨g, cap, rfl, hg1, hg2, hg3, hg4, hgc, hgf⟩
  · exact vals1_nil F n h7 hro l Bs J W hc' h0
  · exact vals1_in F n h7 hro hn l Bs g zs.length cap zs rfl hl J (fun s W' hs j hj => ((hJ s W' hs).cell (p := ⟨g, j, none⟩) hg2).trans (hgc j hj)) hY W hc' h0

set_option maxRecDepth 100000 in
set_option maxHeartbeats 1000000 in
theorem sorted_any {A : Nat} (Bs : Nat) (v : Value) (zs : List Int) (w : World) (hv : Own A w v zs) (hl : zs.length ≤ 10) (hB : Bs < w.heap.size) (hBs : w.cell? ⟨Bs, 0, none⟩ = some v) :
    Calls Try.prog 23 #[.func (.func 33) #[] #[.pointer (some ⟨Bs, 0, none⟩)]] w fun e w' => ∃ u, e = .returned u ∧ Own w.heap.size w' u (zs.mergeSort (fun x y => decide (x ≤ y))) ∧ Below w.heap.size w w' := by
  refine (callsIn_wide (n := 6)).1 ?_
  have hseq : SeqOver Fence.wide 3 Try.prog 33 #[.pointer (some ⟨Bs, 0, none⟩)] zs w := vals_over Fence.wide 3 trivial rfl (by omega) Bs v zs w hv hl hB hBs
  have cS := seqSorted srt Fence.wide 6 trivial trivial trivial trivial rfl (by omega) (srtSorts _) (enters_of Try.func32 (by kernel_rfl) rfl) 33 #[.pointer (some ⟨Bs, 0, none⟩)] trivial (enters_of Try.func33 (by kernel_rfl) rfl) zs (by unfold maxLen; omega) (by omega) w hseq
  refine CallsIn.mono cS ?_
  rintro e w' ⟨u, rfl, hr, _, hb⟩
  refine ⟨u, rfl, ?_, hb⟩
  have e1 : (zs.mergeSort (fun x y => decide (x ≤ y))).length = zs.length := List.length_mergeSort _
  show w'.ownsRow w.heap.size 3 1 u (zs.mergeSort (fun x y => decide (x ≤ y))).length _
  rw [e1]
  exact hr

end Go.Proofs.Ytfdhmijofpbkjaa
