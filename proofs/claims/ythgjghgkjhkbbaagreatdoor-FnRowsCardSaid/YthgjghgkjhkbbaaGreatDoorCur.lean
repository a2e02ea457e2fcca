/-
  A cursor over bytes, as the draws of the reference use it: how it lies, and the contract of its next byte. Condition: at most 2^16 bytes.
-/
import Derived.Test.YthgjghgkjhkbbaaGreatDoorBase
import Derived.Test.YthgjghgkjhkbbaaGreatDoorOwn
import Derived.Test.YthgjghgkjhkbbaaGreatDoorBits
import Derived.Lib.Hide
import Derived.Deep.QuietTactic
import Derived.BigQuiet
namespace Go.Proofs.YthgjghgkjhkbbaaGreatDoor
open Go.RowKit
set_option linter.unusedVariables false
set_option maxRecDepth 20000


/-- The cursor in the block g: bytes, a place, a seed. -/
def CurF (w : World) (g : Nat) (a : Option Addr) (len cap at_ : Nat) (seed : Int) : Prop :=
  w.cell? ⟨g, 0, none⟩ = some (.slice a len cap) ∧ w.cell? ⟨g, 1, none⟩ = some (.int .i64 at_) ∧ w.cell? ⟨g, 2, none⟩ = some (.int .u64 seed) ∧ (∀ j, w.frozen? ⟨g, j, none⟩ = false) ∧ g < w.heap.size ∧ 0 ≤ seed ∧ seed < 18446744073709551616
/-- The bytes lie there. -/
def Bytes (N : Nat) (w : World) (a : Option Addr) (len : Nat) : Prop := ∀ j, j < len → ∃ b o z, a = some ⟨b, o, none⟩ ∧ b < N ∧ w.cell? ⟨b, o + j, none⟩ = some (.int .u8 z) ∧ 0 ≤ z ∧ z ≤ 255
theorem bytes_keep {N : Nat} {w w' : World} {a : Option Addr} {len : Nat} (h : Bytes N w a len) (hb : Below N w w') : Bytes N w' a len := fun j hj => by
  obtain ⟨b, o, z, h1, h2, h3, h4, h5⟩ := h j hj
  exact ⟨b, o, z, h1, h2, (hb.cell (p := ⟨b, o + j, none⟩) h2).trans h3, h4, h5⟩
theorem ofInt64u (a : Nat) (ha : a < 18446744073709551616) : (BitVec.ofInt 64 (a : Int)).toNat = a := by
  rw [BitVec.ofInt_natCast, BitVec.toNat_ofNat]; exact Nat.mod_eq_of_lt (by omega)
theorem u64_and255 (x : Int) (h0 : 0 ≤ x) (h1 : x < 18446744073709551616) : 0 ≤ bits .and .u64 x 255 ∧ bits .and .u64 x 255 ≤ 255 := by
  obtain ⟨a, rfl⟩ := Int.eq_ofNat_of_zero_le h0
  have hx : a &&& 255 < 2 ^ 8 := Nat.and_lt_two_pow _ (by decide)
  have e : bits .and .u64 (a : Int) 255 = IntKind.u64.wrap (((a &&& 255 : Nat)) : Int) := by
    show IntKind.u64.wrap ((BitVec.ofInt 64 (a : Int) &&& BitVec.ofInt 64 ((255 : Nat) : Int)).toNat : Int) = _
    rw [BitVec.toNat_and, ofInt64u a (by omega), ofInt64u 255 (by decide)]
  rw [e, show IntKind.u64.wrap (((a &&& 255 : Nat)) : Int) = (((a &&& 255 : Nat)) : Int) % 18446744073709551616 from rfl]
  omega
theorem below_dr (w : World) (q : Nat) (N : Nat) (h : N ≤ w.heap.size) : Below N w (w.drewN q) := ⟨rfl, rfl, rfl, Nat.le_refl _, fun _ _ => rfl⟩

theorem u64_rng (x : Int) : 0 ≤ IntKind.u64.wrap x ∧ IntKind.u64.wrap x < 18446744073709551616 := by
  rw [show IntKind.u64.wrap x = x % 18446744073709551616 from rfl]; omega
theorem cur_step {w : World} {g : Nat} {a : Option Addr} {len cap at_ : Nat} {s s' : Int} {q q2 N : Nat} (hN : N ≤ g) (hc : CurF w g a len cap at_ s) (hs : 0 ≤ s' ∧ s' < 18446744073709551616) :
    CurF ((((w.drewN q).setCell ⟨g, 1, none⟩ (.int .i64 ((at_ : Int) + 1))).setCell ⟨g, 2, none⟩ (.int .u64 s')).drewN q2) g a len cap (at_ + 1) s' ∧ Below N w ((((w.drewN q).setCell ⟨g, 1, none⟩ (.int .i64 ((at_ : Int) + 1))).setCell ⟨g, 2, none⟩ (.int .u64 s')).drewN q2) ∧ w.heap.size = ((((w.drewN q).setCell ⟨g, 1, none⟩ (.int .i64 ((at_ : Int) + 1))).setCell ⟨g, 2, none⟩ (.int .u64 s')).drewN q2).heap.size ∧ ∀ k, k ≠ g → ((((w.drewN q).setCell ⟨g, 1, none⟩ (.int .i64 ((at_ : Int) + 1))).setCell ⟨g, 2, none⟩ (.int .u64 s')).drewN q2).heap[k]? = w.heap[k]? := by
  obtain ⟨c0, c1, c2, hf, hg, _, _⟩ := hc
  have e0 : (w.drewN q).cell? ⟨g, 0, none⟩ = some (.slice a len cap) := c0
  have e1 : (w.drewN q).cell? ⟨g, 1, none⟩ = some (.int .i64 at_) := c1
  have e2 : (w.drewN q).cell? ⟨g, 2, none⟩ = some (.int .u64 s) := c2
  have d0 := (World.cell?_setCell_other (w := w.drewN q) (a := ⟨g, 1, none⟩) (b := ⟨g, 0, none⟩) (v := .int .i64 ((at_ : Int) + 1)) (by simp)).trans e0
  have d1 := World.cell?_setCell_same (w := w.drewN q) (a := ⟨g, 1, none⟩) (v := .int .i64 ((at_ : Int) + 1)) e1
  have d2 := (World.cell?_setCell_other (w := w.drewN q) (a := ⟨g, 1, none⟩) (b := ⟨g, 2, none⟩) (v := .int .i64 ((at_ : Int) + 1)) (by simp)).trans e2
  have b0 := (World.cell?_setCell_other (w := (w.drewN q).setCell ⟨g, 1, none⟩ (.int .i64 ((at_ : Int) + 1))) (a := ⟨g, 2, none⟩) (b := ⟨g, 0, none⟩) (v := .int .u64 s') (by simp)).trans d0
  have b1 := (World.cell?_setCell_other (w := (w.drewN q).setCell ⟨g, 1, none⟩ (.int .i64 ((at_ : Int) + 1))) (a := ⟨g, 2, none⟩) (b := ⟨g, 1, none⟩) (v := .int .u64 s') (by simp)).trans d1
  have b2 := World.cell?_setCell_same (w := (w.drewN q).setCell ⟨g, 1, none⟩ (.int .i64 ((at_ : Int) + 1))) (a := ⟨g, 2, none⟩) (v := .int .u64 s') d2
  refine ⟨⟨b0, b1, b2, fun j => ?_, by simpa using hg, hs.1, hs.2⟩, ?_, by simp, fun k hk => ?_⟩
  · show (((w.drewN q).setCell ⟨g, 1, none⟩ _).setCell ⟨g, 2, none⟩ _).frozen? ⟨g, j, none⟩ = false
    rw [World.frozen?_setCell, World.frozen?_setCell]
    exact hf j
  · have h1 : Below N w (w.drewN q) := ⟨rfl, rfl, rfl, Nat.le_refl _, fun _ _ => rfl⟩
    have h2 := (h1.setCell hN (p := ⟨g, 1, none⟩) (.int .i64 ((at_ : Int) + 1))).setCell hN (p := ⟨g, 2, none⟩) (.int .u64 s')
    exact h2.trans ⟨rfl, rfl, rfl, Nat.le_refl _, fun _ _ => rfl⟩
  · show (((w.drewN q).setCell ⟨g, 1, none⟩ _).setCell ⟨g, 2, none⟩ _).heap[k]? = _
    rw [Below.heap_setCell _ _ _ _ (fun e => hk e), Below.heap_setCell _ _ _ _ (fun e => hk e)]
    rfl

set_option maxHeartbeats 2000000 in
theorem next_any (g : Nat) (a : Option Addr) (len cap at_ : Nat) (seed : Int) (w : World) (N : Nat) (hN : N ≤ g) (hc : CurF w g a len cap at_ seed) (hb : Bytes N w a len) (hl : len ≤ 65536) (hat : at_ ≤ 1000000) :
    Calls Tryz.prog 76 #[.pointer (some ⟨g, 0, none⟩)] w fun e w' => ∃ b seed', e = .returned (.int .i64 b) ∧ 0 ≤ b ∧ b ≤ 255 ∧ CurF w' g a len cap (at_ + 1) seed' ∧ Below N w w' ∧ w.heap.size = w'.heap.size ∧ ∀ k, k ≠ g → w'.heap[k]? = w.heap[k]? := by
  obtain ⟨c0, c1, c2, hf, hg, s0, s1⟩ := hc
  have HC : Hid (CurF w g a len cap at_ seed) := Lib.hid ⟨c0, c1, c2, hf, hg, s0, s1⟩
  have hf0 := hf 0
  have hf1 := hf 1
  have hf2 := hf 2
  by_cases hlt : at_ < len
  · obtain ⟨b, o, z, rfl, hb2, hz, z0, z1⟩ := hb at_ hlt
    have hlt' : (at_ : Int) < (len : Int) := by omega
    go_enter Tryz.func76, Tryz.ntmps76
    go_wp2
    go_quiet (fail)
    go_wp2
    go_quiet (fail)
    go_wp2
    go_quiet (fail)
    go_wp2
    go_ret
    exact ⟨z, _, rfl, z0, z1, cur_step hN HC.out (u64_rng _)⟩
  · have hlt' : ¬ (at_ : Int) < (len : Int) := by omega
    have hle' : ¬ (at_ : Int) + 1 ≤ (len : Int) := by omega
    go_enter Tryz.func76, Tryz.ntmps76
    go_wp2
    go_quiet (fail)
    go_wp2
    go_quiet (fail)
    go_wp2
    go_ret
    have hs' := u64_rng (IntKind.u64.wrap (IntKind.u64.wrap (seed * 6364136223846793005)) + 462197)
    have hv := u64_and255 (IntKind.u64.wrap (IntKind.u64.wrap (IntKind.u64.wrap (seed * 6364136223846793005)) + 462197) / 1099511627776) (by omega) (by omega)
    have hw : wrap64 (bits .and .u64 (IntKind.u64.wrap (IntKind.u64.wrap (IntKind.u64.wrap (seed * 6364136223846793005)) + 462197) / 1099511627776) 255) = bits .and .u64 (IntKind.u64.wrap (IntKind.u64.wrap (IntKind.u64.wrap (seed * 6364136223846793005)) + 462197) / 1099511627776) 255 := by
      unfold wrap64
      omega
    exact ⟨_, _, rfl, by rw [hw]; exact hv.1, by rw [hw]; exact hv.2, cur_step hN HC.out hs'⟩

end Go.Proofs.YthgjghgkjhkbbaaGreatDoor
