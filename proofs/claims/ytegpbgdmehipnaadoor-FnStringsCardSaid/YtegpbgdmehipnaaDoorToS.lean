/-
  The copy of a slice of strings that came in, as the law file makes it. Condition: at most 2^20 elements.
-/
import Derived.Test.YtegpbgdmehipnaaDoorStr
import Derived.Deep.QuietTactic
import Derived.BigQuiet
namespace Go.Proofs.YtegpbgdmehipnaaDoor
open Go.RowKit
set_option linter.unusedVariables false


theorem takeS_step (zs : List ByteArray) (len i : Nat) (x : ByteArray) (hl : len ≤ zs.length) (h : i < len) (hx : zs.getD i ByteArray.empty = x) :
    (zs.take i ++ List.replicate (len - i) (⟨#[]⟩ : ByteArray)).set i x = zs.take (i + 1) ++ List.replicate (len - (i + 1)) ⟨#[]⟩ := by
  have h1 : (zs.take i).length = i := by rw [List.length_take]; omega
  rw [List.set_append_right _ _ (by rw [h1]; exact Nat.le_refl _), h1, Nat.sub_self]
  rw [show len - i = (len - (i + 1)) + 1 by omega, List.replicate_succ, List.set_cons_zero]
  rw [List.take_succ_eq_append_getElem (by omega), List.append_assoc]
  have : zs[i]'(by omega) = x := by rw [← hx]; simp [List.getD, List.getElem?_eq_getElem (show i < zs.length by omega)]
  rw [this]; rfl

theorem inStrs_cells {w : World} {a : Option Addr} {len cap : Nat} {zs : List ByteArray} (h : InStrs w a len cap zs) (hl : 0 < len) :
    ∃ b o, a = some ⟨b, o, none⟩ ∧ b < w.heap.size ∧ len ≤ zs.length ∧ ∀ j, j < len → w.cell? ⟨b, o + j, none⟩ = some (.string (zs.getD j ByteArray.empty)) := by
  rcases h with ⟨rfl, rfl, rfl, rfl⟩ | ⟨x, rfl, hlc, hm, hz, hc, hw⟩
  · omega
  · obtain ⟨b, off, spot⟩ := x
    have h0 := hc 0 (by omega)
    have hspot : spot = none := by simpa [Addr.add] using World.cell?_spot h0
    subst hspot
    refine ⟨b, off, rfl, World.block_lt_of_cell? w _ (by simpa [Addr.add] using h0), by omega, fun j hj => ?_⟩
    have := hc j (by omega)
    by_cases hj0 : j = 0
    · subst hj0; simpa [Addr.add] using this
    · simpa [Addr.add, hj0] using this

set_option maxHeartbeats 1000000 in
theorem eqStringS_same {A B : Nat} (a b : Value) (xs : List ByteArray) (w : World) (ha : OwnS A w a xs) (hb : OwnS B w b xs) (hx : xs.length ≤ 1073741824) :
    Calls Tryd.prog 16 #[a, b] w fun e w' => e = .returned (.bool true) ∧ Below w.heap.size w w' := by
  rcases ownS_cases ha with ⟨rfl, rfl⟩ | ⟨g, cap, rfl, hg1, hg2, hg3, hg4, hgc, hgf⟩
  · rcases ownS_cases hb with ⟨rfl, _⟩ | ⟨g', cap', rfl, _⟩
    all_goals (
      go_enter Tryd.func16, Tryd.ntmps16
      go_wp2
      refine wp_loop_rounds 1 ?_
      rw [rounds_succ]
      go_wp2
      go_ret
      exact ⟨rfl, Below.refl _ _⟩)
  · rcases ownS_cases hb with ⟨rfl, rfl⟩ | ⟨g', cap', rfl, hh1, hh2, hh3, hh4, hhc, hhf⟩
    · go_enter Tryd.func16, Tryd.ntmps16
      go_wp2
      refine wp_loop_rounds 1 ?_
      rw [rounds_succ]
      go_wp2
      go_ret
      exact ⟨rfl, Below.refl _ _⟩
    · have HA := Lib.hid hgc
      have HB := Lib.hid hhc
      obtain ⟨n, hn⟩ : ∃ n, xs.length = n := ⟨_, rfl⟩
      have HN := Lib.hid hn
      rw [hn] at hx ⊢
      clear hgc hhc hn ha hb hgf hhf hg1 hg2 hg3 hg4 hh1 hh2 hh3 hh4
      go_enter Tryd.func16, Tryd.ntmps16
      go_wp2
      go_loopw [5] (fun i wr => ∃ k q : Nat, k ≤ n ∧ i = .int .i64 k ∧ wr = w.drewN q) (fun i _ => n - (intOf i).toNat)
      case atStart => exact ⟨0, 0, by omega, rfl, rfl⟩
      case round =>
        obtain ⟨k, q, hk, rfl, rfl⟩ := hrel
        by_cases hlt : k < n
        · obtain ⟨x, hxk⟩ : ∃ x, xs[k]? = some x := ⟨_, List.getElem?_eq_getElem (by rw [HN.out]; exact hlt)⟩
          have hca : w.cell? ⟨g, k, none⟩ = some (.string x) := HA.out k x hxk
          have hcb : w.cell? ⟨g', k, none⟩ = some (.string x) := HB.out k x hxk
          clear hxk
          have hi0 : (k : Int) < (n : Int) := by omega
          go_wp2
          go_quiet (fail)
          go_wp2
          go_roundw
          case rel => exact ⟨k + 1, q + nq, by omega, by go_num, rfl⟩
          case measure => simp [intOf]; omega
        · obtain rfl : k = n := by omega
          go_wp2
          go_ret
          exact ⟨rfl, below_drewN _ _⟩

end Go.Proofs.YtegpbgdmehipnaaDoor
