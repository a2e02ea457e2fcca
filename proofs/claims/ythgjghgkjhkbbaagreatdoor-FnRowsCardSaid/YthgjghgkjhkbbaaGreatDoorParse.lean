/-
  Contracts of the cell that letters tell (the reference and the program). Condition: at most 2^20 bytes.
-/
import Derived.Test.YthgjghgkjhkbbaaGreatDoorBarC
import Derived.Test.YthgjghgkjhkbbaaGreatDoorShelf
import Derived.PlainAid
import Derived.Deep.QuietTactic
import Derived.BigQuiet
namespace Go.Proofs.YthgjghgkjhkbbaaGreatDoor
open Go.RowKit
set_option linter.unusedVariables false
set_option maxRecDepth 20000


def hasB (l : List UInt8) (c : UInt8) : Bool := decide (0 ≤ Lib.indexByte l c)
/-- The bars whose letters stand in a text, of the lowest k. -/
def maskN (l : List UInt8) : Nat → Nat
  | 0 => 0
  | k + 1 => if hasB l (UInt8.ofNat (97 + k)) then maskN l k ||| 2 ^ k else maskN l k
theorem maskN_lt (l : List UInt8) : ∀ k, maskN l k < 2 ^ k
  | 0 => by simp [maskN]
  | k + 1 => by
    have h := maskN_lt l k
    have h2 : 2 ^ (k + 1) = 2 ^ k * 2 := Nat.pow_succ 2 k
    have h3 : 0 < 2 ^ k := Nat.two_pow_pos k
    simp only [maskN]
    split
    · exact Nat.or_lt_two_pow (by omega) (by omega)
    · omega
theorem maskN_lt7 (l : List UInt8) (k : Nat) (h : k ≤ 7) : maskN l k < 128 :=
  Nat.lt_of_lt_of_le (maskN_lt l k) (Nat.pow_le_pow_right (by omega) h)
theorem mask_bars : ∀ n : Nat, n < 128 → maskN (bars n 7) 7 = n := by decide +kernel
def prs (l : List UInt8) : Int × Bool := if bars (maskN l 7) 7 = l then ((maskN l 7 : Int), true) else (0, false)
theorem letter_at : ∀ k : Nat, k < 7 → (ByteArray.mk #[97, 98, 99, 100, 101, 102, 103]).extract k (k + 1) = ⟨#[UInt8.ofNat (97 + k)]⟩ := by
  intro k hk
  rcases seven k hk with rfl | rfl | rfl | rfl | rfl | rfl | rfl <;> rfl
theorem or_bit : ∀ m : Nat, m < 128 → ∀ k : Nat, k < 7 → bits .or .i64 (m : Int) (wrap64 (2 ^ k)) = ((m ||| 2 ^ k : Nat) : Int) := by decide +kernel

set_option maxHeartbeats 1000000 in
theorem implParse_any (s : ByteArray) (w : World) (hs : s.size ≤ 1048576) :
    Calls Tryz.prog 61 #[.string s] w fun e w' => e = .returned (.tuple #[.int .i64 (prs s.data.toList).1, .bool (prs s.data.toList).2]) ∧ w = w' := by
  go_enter Tryz.func61, Tryz.ntmps61
  go_wp2
  go_loop [4, 6] (fun m i => ∃ k : Nat, k ≤ 7 ∧ i = .int .i64 k ∧ m = .int .i64 (maskN s.data.toList k : Nat)) (fun _ i => 7 - (intOf i).toNat)
  case atStart => exact ⟨0, by omega, rfl, rfl⟩
  case round =>
    obtain ⟨k, hk, rfl, rfl⟩ := hrel
    by_cases hlt : k < 7
    · have hx := letter_at k hlt
      have hm := maskN_lt7 s.data.toList k hk
      have ho := or_bit _ hm k hlt
      have hstep : maskN s.data.toList (k + 1) = if hasB s.data.toList (UInt8.ofNat (97 + k)) then maskN s.data.toList k ||| 2 ^ k else maskN s.data.toList k := rfl
      have HSt := Lib.hid hstep
      clear hstep
      have HCo := Lib.hid (Tryz.strings_Contains_one s (UInt8.ofNat (97 + k)))
      generalize UInt8.ofNat (97 + k) = b at hx HSt HCo
      generalize maskN s.data.toList k = m at hm ho HSt
      by_cases hb : hasB s.data.toList b = true
      · have HB := Lib.hid hb
        clear hb
        go_wp2_with ((go_at_call 83; refine (HCo.out _).mono ?_; rintro e w1 ⟨rfl, rfl⟩; rw [show decide (0 ≤ Lib.indexByte s.data.toList b) = true from HB.out]))
        go_round
        case rel => exact ⟨k + 1, by omega, by go_num, by rw [HSt.out, if_pos HB.out]⟩
        case measure => simp [intOf]; omega
      · have hb' : hasB s.data.toList b = false := by simpa using hb
        have HB := Lib.hid hb'
        have HB2 := Lib.hid hb
        clear hb hb'
        go_wp2_with ((go_at_call 83; refine (HCo.out _).mono ?_; rintro e w1 ⟨rfl, rfl⟩; rw [show decide (0 ≤ Lib.indexByte s.data.toList b) = false from HB.out]))
        go_round
        case rel => exact ⟨k + 1, by omega, by go_num, by rw [HSt.out, if_neg HB2.out]⟩
        case measure => simp [intOf]; omega
    · obtain rfl : k = 7 := by omega
      have hm := maskN_lt7 s.data.toList 7 (by omega)
      have HP : Hid (prs s.data.toList = if bars (maskN s.data.toList 7) 7 = s.data.toList then ((maskN s.data.toList 7 : Int), true) else (0, false)) := rfl
      generalize maskN s.data.toList 7 = m at hm HP
      have HBo := Lib.hid (fun w => barsOf_any m w hm)
      generalize bars m 7 = l at HP HBo
      by_cases he : l = s.data.toList
      · have hb1 : (!decide (l = s.data.toList)) = false := by simp [he]
        have hb2 : (!(l == s.toList)) = false := by rw [ByteArray.toList_eq]; simp [he]
        have hb3 : (l == s.toList) = true := by rw [ByteArray.toList_eq]; simp [he]
        have HE := Lib.hid he
        clear he
        go_wp2_with ((go_at_call 78; refine (HBo.out _).mono ?_; rintro e w1 ⟨rfl, rfl⟩))
        go_ret2
        exact ⟨ret_ib (by rw [HP.out, if_pos HE.out]) (by rw [HP.out, if_pos HE.out]), rfl⟩
      · have hb3 : (l == s.toList) = false := by rw [ByteArray.toList_eq]; simp [he]
        have HE := Lib.hid he
        clear he
        go_wp2_with ((go_at_call 78; refine (HBo.out _).mono ?_; rintro e w1 ⟨rfl, rfl⟩))
        go_ret2
        exact ⟨ret_ib (by rw [HP.out, if_neg HE.out]) (by rw [HP.out, if_neg HE.out]), rfl⟩

/-- Bytes of a text, 0 behind its end. -/
def byt (l : List UInt8) (i : Nat) : Nat := (l.getD i 0).toNat
theorem bars_rise : ∀ n : Nat, n < 128 → ∀ i : Nat, i < (bars n 7).length → 97 ≤ byt (bars n 7) i ∧ byt (bars n 7) i ≤ 103 ∧ (0 < i → byt (bars n 7) (i - 1) < byt (bars n 7) i) := by decide +kernel
theorem bars_more : ∀ c : Nat, c < 128 → ∀ j : Nat, j < 7 → ((bars c 7).length = 0 ∨ byt (bars c 7) ((bars c 7).length - 1) < 97 + j) → bars (c ||| 2 ^ j) 7 = bars c 7 ++ [UInt8.ofNat (97 + j)] := by decide +kernel

theorem prs_fin (l : List UInt8) (c : Nat) (hc : c < 128) (hb : bars c 7 = l) : prs l = ((c : Int), true) := by
  subst hb
  unfold prs
  rw [mask_bars c hc, if_pos rfl]
theorem prs_rej (l : List UInt8) (k : Nat) (hk : k < l.length) (h : ¬ (97 ≤ byt l k ∧ byt l k ≤ 103 ∧ (0 < k → byt l (k - 1) < byt l k))) : prs l = (0, false) := by
  unfold prs
  rw [if_neg]
  intro e
  have hm := maskN_lt7 l 7 (Nat.le_refl _)
  have := bars_rise _ hm k (by rw [e]; exact hk)
  rw [e] at this
  exact h this
theorem prs_acc (l : List UInt8) (k c j : Nat) (hk : k < l.length) (hc : c < 128) (hj : j < 7) (hb : bars c 7 = l.take k) (hx : byt l k = 97 + j) (hp : 0 < k → byt l (k - 1) < byt l k) :
    bars (c ||| 2 ^ j) 7 = l.take (k + 1) ∧ c ||| 2 ^ j < 128 := by
  have hlen : (bars c 7).length = k := by rw [hb, List.length_take]; omega
  have h2 : 2 ^ j ≤ 2 ^ 6 := Nat.pow_le_pow_right (by omega) (by omega)
  refine ⟨?_, Nat.or_lt_two_pow (n := 7) (by omega) (by omega)⟩
  rw [bars_more c hc j hj ?_, hb, List.take_succ_eq_append_getElem hk]
  · congr 1
    have : l[k].toNat = 97 + j := by simpa [byt, List.getD, List.getElem?_eq_getElem hk] using hx
    rw [← this]
    simp
  · rcases Nat.eq_zero_or_pos k with rfl | hpos
    · left; exact hlen
    · right
      rw [hlen, hb, ← hx]
      have e : byt (l.take k) (k - 1) = byt l (k - 1) := by
        unfold byt
        congr 1
        simp only [List.getD, List.getElem?_take]
        rw [if_pos (by omega)]
      rw [e]
      exact hp hpos
theorem byt_bt (s : ByteArray) (k : Nat) (hk : k < s.size) : ((byt s.data.toList k : Nat) : Int) = PlainAid.bt s k := by
  rw [← PlainAid.get_bt s k hk]
  unfold byt
  rw [List.getD_eq_getElem?_getD, List.getElem?_eq_getElem (by simpa using hk)]
  rfl

theorem below_drewP (w : World) (q : Nat) : Below w.heap.size w (w.drewN q) := ⟨rfl, rfl, rfl, Nat.le_refl _, fun _ _ => rfl⟩

set_option maxHeartbeats 2000000 in
theorem l2Parse_any (s : ByteArray) (w : World) (hs : s.size ≤ 1048576) :
    Calls Tryz.prog 85 #[.string s] w fun e w' => e = .returned (.tuple #[.int .i64 (prs s.data.toList).1, .bool (prs s.data.toList).2]) ∧ Below w.heap.size w w' := by
  have HSZ : Hid (s.data.toList.length = s.size) := by show s.data.toList.length = s.data.size; rw [Array.length_toList]
  go_enter Tryz.func85, Tryz.ntmps85
  go_wp2
  go_loopw [4, 5] (fun cv iv wr => ∃ k c q : Nat, k ≤ s.size ∧ iv = .int .i64 k ∧ cv = .int .i64 c ∧ c < 128 ∧ bars c 7 = s.data.toList.take k ∧ wr = w.drewN q) (fun _ iv _ => s.size - (intOf iv).toNat)
  case atStart => exact ⟨0, 0, 0, by omega, rfl, rfl, by omega, rfl, rfl⟩
  case round =>
    obtain ⟨k, c, q, hk, rfl, rfl, hc, hb, rfl⟩ := hrel
    have HB := Lib.hid hb
    clear hb
    by_cases hlt : k < s.size
    · have hbt := PlainAid.get_bt s
      have r0 := PlainAid.bt_nonneg s k
      have r1 := PlainAid.bt_le s k
      have hxk : ((s[k]'hlt).toNat : Int) = PlainAid.bt s k := hbt k hlt
      have hx0 := byt_bt s k hlt
      generalize hx : PlainAid.bt s k = x at r0 r1 hxk hx0
      have HX0 := Lib.hid hx0
      have hkI : (k : Int) < (s.size : Int) := by omega
      clear hx hx0
      rcases k with _ | m
      · clear hbt
        have hk0 : (0 : Int) < (s.size : Int) := by omega
        by_cases h1 : 97 ≤ x
        · have d1 : decide (x < 97) = false := decide_eq_false (by omega)
          by_cases h2 : x ≤ 103
          · have d2 : decide (103 < x) = false := decide_eq_false (by omega)
            obtain ⟨j, hj⟩ : ∃ j : Nat, (x - 97).toNat = j := ⟨_, rfl⟩
            have hj7 : j < 7 := by omega
            have ho := or_bit c hc j hj7
            have HA := Lib.hid (prs_acc s.data.toList 0 c j (by rw [HSZ.out]; exact hlt) hc hj7 HB.out (by have := HX0.out; omega) (fun h => absurd h (Nat.lt_irrefl 0)))
            go_wp2
            go_quiet (fail)
            go_wp2
            go_roundw
            case rel => exact ⟨1, _, q + nq, by omega, rfl, rfl, HA.out.2, HA.out.1, rfl⟩
            case measure => simp [intOf]; omega
          · have d2 : decide (103 < x) = true := decide_eq_true (by omega)
            have HREJ := Lib.hid (prs_rej s.data.toList 0 (by rw [HSZ.out]; exact hlt) (by have := HX0.out; omega))
            go_wp2
            go_quiet (fail)
            go_wp2
            go_ret2
            exact ⟨ret_ib (by rw [HREJ.out]) (by rw [HREJ.out]), (below_drewP w q).trans (below_drewP (w.drewN q) nq)⟩
        · have d1 : decide (x < 97) = true := decide_eq_true (by omega)
          have HREJ := Lib.hid (prs_rej s.data.toList 0 (by rw [HSZ.out]; exact hlt) (by have := HX0.out; omega))
          go_wp2
          go_quiet (fail)
          go_wp2
          go_ret2
          exact ⟨ret_ib (by rw [HREJ.out]) (by rw [HREJ.out]), (below_drewP w q).trans (below_drewP (w.drewN q) nq)⟩
      · have hlm : m < s.size := by omega
        have hym : ((s[m]'hlm).toNat : Int) = PlainAid.bt s m := hbt m hlm
        have hy0 := byt_bt s m hlm
        have s0 := PlainAid.bt_nonneg s m
        have s1 := PlainAid.bt_le s m
        generalize hy : PlainAid.bt s m = y at s0 s1 hym hy0
        have HY0 := Lib.hid hy0
        have hmI : (m : Int) < (s.size : Int) := by omega
        have hg : decide ((0 : Int) < (m : Int) + 1) = true := decide_eq_true (by omega)
        clear hbt hy hy0
        by_cases h0 : x ≤ y
        · have d0 : decide (x ≤ y) = true := decide_eq_true h0
          have HREJ := Lib.hid (prs_rej s.data.toList (m + 1) (by rw [HSZ.out]; exact hlt) (by have := HX0.out; have := HY0.out; rw [Nat.add_sub_cancel]; omega))
          go_wp2
          go_quiet (fail)
          go_wp2
          go_ret2
          exact ⟨ret_ib (by rw [HREJ.out]) (by rw [HREJ.out]), (below_drewP w q).trans (below_drewP (w.drewN q) nq)⟩
        · have d0 : decide (x ≤ y) = false := decide_eq_false h0
          by_cases h1 : 97 ≤ x
          · have d1 : decide (x < 97) = false := decide_eq_false (by omega)
            by_cases h2 : x ≤ 103
            · have d2 : decide (103 < x) = false := decide_eq_false (by omega)
              obtain ⟨j, hj⟩ : ∃ j : Nat, (x - 97).toNat = j := ⟨_, rfl⟩
              have hj7 : j < 7 := by omega
              have ho := or_bit c hc j hj7
              have HA := Lib.hid (prs_acc s.data.toList (m + 1) c j (by rw [HSZ.out]; exact hlt) hc hj7 HB.out (by have := HX0.out; omega) (fun _ => by have := HX0.out; have := HY0.out; rw [Nat.add_sub_cancel]; omega))
              go_wp2
              go_quiet (fail)
              go_wp2
              go_roundw
              case rel => exact ⟨m + 1 + 1, _, q + nq, by omega, by go_num, rfl, HA.out.2, HA.out.1, rfl⟩
              case measure => simp [intOf]; omega
            · have d2 : decide (103 < x) = true := decide_eq_true (by omega)
              have HREJ := Lib.hid (prs_rej s.data.toList (m + 1) (by rw [HSZ.out]; exact hlt) (by have := HX0.out; omega))
              go_wp2
              go_quiet (fail)
              go_wp2
              go_ret2
              exact ⟨ret_ib (by rw [HREJ.out]) (by rw [HREJ.out]), (below_drewP w q).trans (below_drewP (w.drewN q) nq)⟩
          · have d1 : decide (x < 97) = true := decide_eq_true (by omega)
            have HREJ := Lib.hid (prs_rej s.data.toList (m + 1) (by rw [HSZ.out]; exact hlt) (by have := HX0.out; omega))
            go_wp2
            go_quiet (fail)
            go_wp2
            go_ret2
            exact ⟨ret_ib (by rw [HREJ.out]) (by rw [HREJ.out]), (below_drewP w q).trans (below_drewP (w.drewN q) nq)⟩
    · obtain rfl : k = s.size := by omega
      have hall : s.data.toList.take s.size = s.data.toList := List.take_of_length_le (by rw [HSZ.out]; exact Nat.le_refl _)
      have HF := Lib.hid (prs_fin s.data.toList c hc (HB.out.trans hall))
      clear hall
      go_wp2
      go_ret2
      exact ⟨ret_ib (by rw [HF.out]) (by rw [HF.out]), below_drewP w q⟩

end Go.Proofs.YthgjghgkjhkbbaaGreatDoor
