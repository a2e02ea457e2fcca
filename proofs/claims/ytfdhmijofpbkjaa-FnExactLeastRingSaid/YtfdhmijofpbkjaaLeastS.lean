/-
  Contracts of the reference's sets of digits and of its table of least costs. Condition: digits.
-/
import Derived.Test.YtfdhmijofpbkjaaLeastP
import Derived.Test.YtfdhmijofpbkjaaOrd2
import Derived.Test.YtfdhmijofpbkjaaTabC
import Derived.Test.YtfdhmijofpbkjaaSl
import Derived.Deep.RegionHeld3
import Derived.BigRegion
import Derived.Deep.RegionWith
namespace Go.Proofs.Ytfdhmijofpbkjaa
open Go.RowKit
set_option linter.unusedVariables false


theorem and_bit (s k : Nat) (hs : s < 1024) (hk : k < 10) : bits .and .i64 ((s : Int) / 2 ^ k) 1 = (((if s.testBit k then 1 else 0) : Nat) : Int) := by
  have e : ((s : Int) / 2 ^ k) = ((s / 2 ^ k : Nat) : Int) := by simp
  have h1 : s / 2 ^ k < 9223372036854775808 := Nat.lt_of_le_of_lt (Nat.div_le_self _ _) (by omega)
  have h2 := i64_and (s / 2 ^ k) 1 h1 (by decide)
  rw [e]
  refine h2.trans ?_
  rw [Nat.and_one_is_mod, Nat.testBit_eq_decide_div_mod_eq]
  by_cases h : s / 2 ^ k % 2 = 1
  · simp [h]
  · have : s / 2 ^ k % 2 = 0 := by omega
    simp [this]
theorem pow_small (k : Nat) (hk : k < 10) : 2 ^ k ≤ 512 := Nat.pow_le_pow_right (n := 2) (by decide) (show k ≤ 9 by omega)
theorem pow_wrap (k : Nat) (hk : k < 10) : IntKind.i64.wrap (2 ^ k) = (2 : Int) ^ k := by
  have := pow_small k hk
  rw [show ((2 : Int) ^ k) = ((2 ^ k : Nat) : Int) by simp]
  exact wrap_nat _ (by omega)
theorem or_bit (s k : Nat) (hs : s < 1024) (hk : k < 10) : bits .or .i64 (s : Int) (2 ^ k) = ((s ||| 2 ^ k : Nat) : Int) := by
  rw [show ((2 : Int) ^ k) = ((2 ^ k : Nat) : Int) by simp]
  exact i64_or s _ (by omega) (by have := pow_small k hk; omega)
theorem xor_bit (s k : Nat) (hs : s < 1024) (hk : k < 10) : bits .xor .i64 (s : Int) (2 ^ k) = ((s ^^^ 2 ^ k : Nat) : Int) := by
  rw [show ((2 : Int) ^ k) = ((2 ^ k : Nat) : Int) by simp]
  exact i64_xor s _ (by omega) (by have := pow_small k hk; omega)
def setN (xs : List Int) : Nat → Nat
  | 0 => 0
  | i + 1 => setN xs i ||| 2 ^ (xs.getD i 0).toNat
theorem setN_lt (xs : List Int) (hd : ∀ i, i < xs.length → 0 ≤ xs.getD i 0 ∧ xs.getD i 0 ≤ 9) : ∀ i, i ≤ xs.length → setN xs i < 1024
  | 0, _ => by rw [setN]; omega
  | i + 1, h => by
    have h1 := setN_lt xs hd i (by omega)
    have h2 := hd i (by omega)
    have h3 := pow_small (xs.getD i 0).toNat (by omega)
    exact Nat.or_lt_two_pow (n := 10) h1 (by omega)
set_option maxHeartbeats 2000000 in
theorem l4Set_any {A : Nat} (v : Value) (xs : List Int) (w : World) (hv : Own A w v xs) (hx : xs.length ≤ 10) (hd : ∀ i, i < xs.length → 0 ≤ xs.getD i 0 ∧ xs.getD i 0 ≤ 9) :
    Calls Try.prog 14 #[v] w fun e w' => e = .returned (.int .i64 (setN xs xs.length : Nat)) ∧ Below w.heap.size w w' := by
  have HD := Lib.hid hd
  have HS := Lib.hid (setN_lt xs hd)
  obtain ⟨n, hn⟩ : ∃ n, xs.length = n := ⟨_, rfl⟩
  have HN := Lib.hid hn
  rcases own_cases hv with ⟨rfl, e2⟩ | ⟨g, cap, rfl, hg1, hg2, hg3, hg4, hgc, hgf⟩
  · have hn0 : n = 0 := by rw [← hn, e2]; rfl
    rw [hn, hn0]
    clear hv hd hn hx e2 hn0
    go_enter Try.func14, Try.ntmps14
    go_wp2
    refine wp_loop_rounds 1 ?_
    rw [rounds_succ]
    go_wp2
    go_ret
    exact ⟨rfl, Below.refl _ _⟩
  · rw [hn] at hgc hx hg3 ⊢
    have HC := Lib.hid hgc
    clear hv hd hgc hgf hg1 hg4 hn
    go_enter Try.func14, Try.ntmps14
    go_wp2
    go_loopw [3, 4] (fun sv iv wr => ∃ j : Nat, j ≤ n ∧ iv = .int .i64 j ∧ sv = .int .i64 (setN xs j : Nat) ∧ Below w.heap.size w wr) (fun _ iv _ => n - (intOf iv).toNat)
    case atStart => exact ⟨0, by omega, rfl, rfl, Below.refl _ _⟩
    case round =>
      obtain ⟨j, hj, rfl, rfl, hb⟩ := hrel
      have HB := Lib.hid hb
      by_cases hlt : j < n
      · have hcx : wr.cell? ⟨g, j, none⟩ = some (.int .i64 (xs.getD j 0)) := by rw [hb.cell (p := ⟨g, j, none⟩) hg2]; exact HC.out j (by omega)
        have hdx := HD.out j (by rw [HN.out]; omega)
        have hs1 := HS.out j (by rw [HN.out]; omega)
        have HE : Hid (setN xs (j + 1) = setN xs j ||| 2 ^ (xs.getD j 0).toNat) := rfl
        generalize xs.getD j 0 = x at hcx hdx HE
        generalize setN xs j = s at HE hs1 ⊢
        obtain ⟨d, rfl⟩ := Int.eq_ofNat_of_zero_le hdx.1
        rw [Int.toNat_natCast] at HE
        have hd10 : d < 10 := by omega
        have hpw := pow_wrap d hd10
        have hor := or_bit s d hs1 hd10
        have hj0 : (j : Int) < (n : Int) := by omega
        clear hb
        generalize s ||| 2 ^ d = t at HE hor
        go_wp2
        go_roundw
        case rel => exact ⟨j + 1, by omega, by go_num, by rw [HE.out], HB.out⟩
        case measure => simp [intOf]; omega
      · obtain rfl : j = n := by omega
        clear hb
        go_wp2
        go_ret
        exact ⟨rfl, HB.out⟩

/-- The slice v owns n arrays of ten integers, xs row by row, in a block from B on. -/
def OwnX (B : Nat) (w : World) (v : Value) (n : Nat) (xs : List Int) : Prop := w.ownsRow B 38 10 v n (xs.map (Value.int .i64))
theorem ownX_cell {B n g cap : Nat} {w : World} {xs : List Int} (h : OwnX B w (.slice (some ⟨g, 0, none⟩) n cap) n xs) (j : Nat) (hj : j < n * 10) (hl : j < xs.length) : w.cell? ⟨g, j, none⟩ = some (.int .i64 (xs.getD j 0)) := by
  rw [World.ownsRow.cellAt h j hj, List.getElem?_map, List.getElem?_eq_getElem hl]
  simp [List.getD, List.getElem?_eq_getElem hl]
theorem ownX_keep {B n : Nat} {w w' : World} {v : Value} {xs : List Int} (h : OwnX B w v n xs) (hb : Below w.heap.size w w') : OwnX B w' v n xs := by
  have hlt := World.ownsRow.lt h
  obtain ⟨hl, hv | ⟨g, cap, cur, hv, hbg, hg, r⟩⟩ := h
  · exact ⟨hl, .inl hv⟩
  · refine ⟨hl, .inr ⟨g, cap, cur, hv, hbg, ?_, r⟩⟩
    rw [hb.block g (hlt g (by rw [hv]; rfl)).2]; exact hg
theorem ownX_set {B n : Nat} {w : World} {g cap : Nat} {xs : List Int} (h : OwnX B w (.slice (some ⟨g, 0, none⟩) n cap) n xs) (j : Nat) (u : Int) :
    OwnX B (w.setCell ⟨g, j, none⟩ (.int .i64 u)) (.slice (some ⟨g, 0, none⟩) n cap) n (xs.set j u) := by
  have := (World.ownsRow.stored h j (.int .i64 u)).1
  unfold OwnX
  rw [List.map_set]
  exact this
theorem info_arr10 : (Try.prog.info? 38).map (fun i => (i.zero, i.size, i.bytes)) = some (some (.agg #[.int .i64 0, .int .i64 0, .int .i64 0, .int .i64 0, .int .i64 0, .int .i64 0, .int .i64 0, .int .i64 0, .int .i64 0, .int .i64 0]), 10, 80) := by kernel_rfl
theorem made10 (n : Nat) : (madeCells #[Value.int .i64 0, .int .i64 0, .int .i64 0, .int .i64 0, .int .i64 0, .int .i64 0, .int .i64 0, .int .i64 0, .int .i64 0, .int .i64 0] n).toList = List.replicate n (.int .i64 0) := by
  apply List.ext_getElem?
  intro j
  by_cases hj : j < n
  · have h7 : j % 10 < 10 := Nat.mod_lt _ (by decide)
    have h : ∀ q : Nat, q < 10 → (#[Value.int .i64 0, .int .i64 0, .int .i64 0, .int .i64 0, .int .i64 0, .int .i64 0, .int .i64 0, .int .i64 0, .int .i64 0, .int .i64 0])[q]! = .int .i64 0 := by
      intro q hq
      have : q = 0 ∨ q = 1 ∨ q = 2 ∨ q = 3 ∨ q = 4 ∨ q = 5 ∨ q = 6 ∨ q = 7 ∨ q = 8 ∨ q = 9 := by omega
      rcases this with rfl | rfl | rfl | rfl | rfl | rfl | rfl | rfl | rfl | rfl <;> rfl
    simp [madeCells, hj]
    have h9 := h _ h7
    simpa using h9
  · simp [madeCells, hj]

end Go.Proofs.Ytfdhmijofpbkjaa
