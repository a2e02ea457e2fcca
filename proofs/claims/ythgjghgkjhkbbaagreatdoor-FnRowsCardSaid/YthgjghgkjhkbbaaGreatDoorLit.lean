/-
  Contracts of how many bars of a row light; the law FnExactLitOf returns true, whatever the list. No condition.
-/
import Derived.Test.YthgjghgkjhkbbaaGreatDoorRow
import Derived.Test.YthgjghgkjhkbbaaGreatDoorCount
namespace Go.Proofs.YthgjghgkjhkbbaaGreatDoor
open Go.RowKit
set_option linter.unusedVariables false
set_option maxRecDepth 20000


/-- How many bars of the first cells light. -/
def litF : List Int → Nat
  | [] => 0
  | c :: t => cnt c.toNat 7 + litF t
def litI (xs : List Int) : Int × Bool := if isRow xs then (((litF xs : Nat) : Int), true) else (0, false)
theorem litF_take (xs : List Int) (i : Nat) (h : i < xs.length) (x : Int) (hx : xs.getD i 0 = x) : litF (xs.take (i + 1)) = litF (xs.take i) + cnt x.toNat 7 := by
  induction xs generalizing i with
  | nil => simp at h
  | cons c t ih =>
    cases i with
    | zero => simp at hx; subst hx; simp [litF]
    | succ i =>
      have := ih i (by simpa using h) (by simpa using hx)
      simp only [List.take_succ_cons, litF, this]
      omega
theorem litF_le (xs : List Int) : litF xs ≤ 7 * xs.length := by
  induction xs with
  | nil => simp [litF]
  | cons c t ih => have := cnt_le c.toNat 7; simp only [litF, List.length_cons]; omega

set_option maxHeartbeats 1000000 in
theorem specLitOf_any {A : Nat} (v : Value) (xs : List Int) (w : World) (hv : Own A w v xs) (hx : xs.length ≤ 1073741824) :
    Calls Tryz.prog 25 #[v] w fun e w' => e = .returned (.tuple #[.int .i64 (litI xs).1, .bool (litI xs).2]) ∧ Below w.heap.size w w' := by
  have H1 := Lib.hid (l2Row_any v xs w hv hx)
  by_cases hr : isRow xs = true
  · have hl6 := isRow_len xs hr
    have HCe := Lib.hid (isRow_cell xs hr)
    have e : litI xs = ((((litF xs : Nat) : Int)), true) := if_pos hr
    rw [e]
    rw [hr] at H1
    rcases own_cases hv with ⟨rfl, rfl⟩ | ⟨g, cap, rfl, hg1, hg2, hg3, hg4, hgc, hgf⟩
    · clear hv e hr hl6
      go_enter Tryz.func25, Tryz.ntmps25
      go_wp2_with ((go_at_call 39; refine H1.out.mono ?_; rintro e w1 ⟨rfl, hb1⟩))
      refine wp_loop_rounds 1 ?_
      rw [rounds_succ]
      go_wp2
      go_ret2
      exact ⟨rfl, hb1⟩
    · generalize hn : xs.length = n at *
      have HN := Lib.hid hn
      have HC := Lib.hid hgc
      clear hgc hgf hn hv hg1 hg3 hg4 e hr
      go_enter Tryz.func25, Tryz.ntmps25
      go_wp2_with fail
      refine H1.out.mono ?_
      rintro e w1 ⟨rfl, hb1⟩
      have hcc : ∀ j, j < n → w1.cell? ⟨g, j, none⟩ = some (.int .i64 (xs.getD j 0)) := fun j hj => by rw [hb1.cell (p := ⟨g, j, none⟩) hg2]; exact HC.out j hj
      have HC1 := Lib.hid hcc
      have HB1 := Lib.hid hb1
      clear hcc hb1
      go_wp2
      go_loop [4, 5] (fun sv iv => ∃ i : Nat, i ≤ n ∧ iv = .int .i64 i ∧ sv = .int .i64 (litF (xs.take i) : Nat)) (fun _ iv => n - (intOf iv).toNat)
      case atStart => exact ⟨0, by omega, rfl, by simp [litF]⟩
      case round =>
        obtain ⟨i, hi, rfl, rfl⟩ := hrel
        have hle := litF_le (xs.take i)
        rw [List.length_take] at hle
        by_cases hlt : i < n
        · have hcell := HC1.out i hlt
          have hcr := HCe.out i hlt
          generalize hxi : xs.getD i 0 = x at hcell hcr
          obtain ⟨c, rfl⟩ := Int.eq_ofNat_of_zero_le hcr.1
          have hc : c < 128 := by omega
          have HS := Lib.hid (litF_take xs i (by rw [HN.out]; exact hlt) _ hxi)
          have hc7 := cnt_le c 7
          have hs' : litF (xs.take i) ≤ 42 := by omega
          have HF := Lib.hid (l2Count_any c)
          rw [Int.toNat_natCast] at HS
          generalize litF (xs.take i) = s at HS hs'
          generalize cnt c 7 = m at HS hc7 HF
          clear hxi hle hcr
          go_wp2_with ((go_at_call 55; refine (HF.out _ hc).mono ?_; rintro e w2 ⟨rfl, rfl⟩))
          go_round
          case rel => exact ⟨i + 1, by omega, by go_num, by rw [HS.out]; go_num⟩
          case measure => simp [intOf]; omega
        · obtain rfl : i = n := by omega
          have he : xs.take i = xs := List.take_of_length_le (by rw [HN.out]; exact Nat.le_refl _)
          rw [he]
          go_wp2
          go_ret2
          exact ⟨rfl, HB1.out⟩
  · have hr' : isRow xs = false := by simpa using hr
    have e : litI xs = (0, false) := if_neg hr
    rw [e]
    rw [hr'] at H1
    clear hv e hr hr'
    go_enter Tryz.func25, Tryz.ntmps25
    go_wp2_with ((go_at_call 39; refine H1.out.mono ?_; rintro e w1 ⟨rfl, hb1⟩))
    go_ret2
    exact ⟨rfl, hb1⟩

set_option maxHeartbeats 1000000 in
theorem implLitOf_any {A : Nat} (v : Value) (xs : List Int) (w : World) (hv : Own A w v xs) (hx : xs.length ≤ 1073741824) :
    Calls Tryz.prog 24 #[v] w fun e w' => e = .returned (.tuple #[.int .i64 (litI xs).1, .bool (litI xs).2]) ∧ Below w.heap.size w w' := by
  have H1 := Lib.hid (implIsRow_any v xs w hv hx)
  by_cases hr : isRow xs = true
  · have hl6 := isRow_len xs hr
    have HCe := Lib.hid (isRow_cell xs hr)
    have e : litI xs = ((((litF xs : Nat) : Int)), true) := if_pos hr
    rw [e]
    rw [hr] at H1
    rcases own_cases hv with ⟨rfl, rfl⟩ | ⟨g, cap, rfl, hg1, hg2, hg3, hg4, hgc, hgf⟩
    · clear hv e hr hl6
      go_enter Tryz.func24, Tryz.ntmps24
      go_wp2_with ((go_at_call 12; refine H1.out.mono ?_; rintro e w1 ⟨rfl, hb1⟩))
      refine wp_loop_rounds 1 ?_
      rw [rounds_succ]
      go_wp2
      go_ret2
      exact ⟨rfl, hb1⟩
    · generalize hn : xs.length = n at *
      have HN := Lib.hid hn
      have HC := Lib.hid hgc
      clear hgc hgf hn hv hg1 hg3 hg4 e hr
      go_enter Tryz.func24, Tryz.ntmps24
      go_wp2_with fail
      refine H1.out.mono ?_
      rintro e w1 ⟨rfl, hb1⟩
      have hcc : ∀ j, j < n → w1.cell? ⟨g, j, none⟩ = some (.int .i64 (xs.getD j 0)) := fun j hj => by rw [hb1.cell (p := ⟨g, j, none⟩) hg2]; exact HC.out j hj
      have HC1 := Lib.hid hcc
      have HB1 := Lib.hid hb1
      clear hcc hb1
      go_wp2
      go_loop [4, 12] (fun sv iv => ∃ i : Nat, i ≤ n ∧ iv = .int .i64 i ∧ sv = .int .i64 (litF (xs.take i) : Nat)) (fun _ iv => n - (intOf iv).toNat)
      case atStart => exact ⟨0, by omega, rfl, by simp [litF]⟩
      case round =>
        obtain ⟨i, hi, rfl, rfl⟩ := hrel
        have hle := litF_le (xs.take i)
        rw [List.length_take] at hle
        by_cases hlt : i < n
        · have hcell := HC1.out i hlt
          have hcr := HCe.out i hlt
          generalize hxi : xs.getD i 0 = x at hcell hcr
          obtain ⟨c, rfl⟩ := Int.eq_ofNat_of_zero_le hcr.1
          have hc : c < 128 := by omega
          have HS := Lib.hid (litF_take xs i (by rw [HN.out]; exact hlt) _ hxi)
          have hc7 := cnt_le c 7
          have hs' : litF (xs.take i) ≤ 42 := by omega
          have HF := Lib.hid (count_any c)
          rw [Int.toNat_natCast] at HS
          generalize litF (xs.take i) = s at HS hs'
          generalize cnt c 7 = m at HS hc7 HF
          clear hxi hle hcr
          go_wp2_with ((go_at_call 54; refine (HF.out _ hc).mono ?_; rintro e w2 ⟨rfl, rfl⟩))
          go_round
          case rel => exact ⟨i + 1, by omega, by go_num, by rw [HS.out]; go_num⟩
          case measure => simp [intOf]; omega
        · obtain rfl : i = n := by omega
          have he : xs.take i = xs := List.take_of_length_le (by rw [HN.out]; exact Nat.le_refl _)
          rw [he]
          go_wp2
          go_ret2
          exact ⟨rfl, HB1.out⟩
  · have hr' : isRow xs = false := by simpa using hr
    have e : litI xs = (0, false) := if_neg hr
    rw [e]
    rw [hr'] at H1
    clear hv e hr hr'
    go_enter Tryz.func24, Tryz.ntmps24
    go_wp2_with ((go_at_call 12; refine H1.out.mono ?_; rintro e w1 ⟨rfl, hb1⟩))
    go_ret2
    exact ⟨rfl, hb1⟩


end Go.Proofs.YthgjghgkjhkbbaaGreatDoor
