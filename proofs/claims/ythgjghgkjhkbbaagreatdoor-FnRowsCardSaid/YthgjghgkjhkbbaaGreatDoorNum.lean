/-
  Contracts of the number that a row shows, and of the bars of a row (the reference and the program). Condition: the list is one that the call owns.
-/
import Derived.Test.YthgjghgkjhkbbaaGreatDoorRow
import Derived.Test.YthgjghgkjhkbbaaGreatDoorDigC
import Derived.Test.YthgjghgkjhkbbaaGreatDoorCount
namespace Go.Proofs.YthgjghgkjhkbbaaGreatDoor
open Go.RowKit
set_option linter.unusedVariables false
set_option maxRecDepth 20000


/-- The number that digits show, going on from another one. -/
def numF : Int → List Int → Int × Bool
  | a, [] => (a, true)
  | a, c :: t => if digOf c < 0 then (0, false) else numF (10 * a + digOf c) t
theorem pow_le6 : ∀ i : Nat, i ≤ 6 → (10 : Int) ^ i ≤ 1000000 := by decide
def numV (xs : List Int) : Int × Bool := (if (numF 0 xs).2 then (numF 0 xs).1 else 0, (numF 0 xs).2 && decide (0 < xs.length))
def numR (xs : List Int) : Int × Bool := if isRow xs && decide (0 < xs.length) then numF 0 xs else (0, false)
theorem numF_step (a : Int) (xs : List Int) (i : Nat) (h : i < xs.length) (x : Int) (hx : xs.getD i 0 = x) : numF a (xs.drop i) = if digOf x < 0 then (0, false) else numF (10 * a + digOf x) (xs.drop (i + 1)) := by
  rw [List.drop_eq_getElem_cons h]
  have : xs[i] = x := by rw [← hx]; simp [List.getD, List.getElem?_eq_getElem h]
  rw [this]; rfl

set_option maxHeartbeats 1000000 in
theorem l2NumberOf_any {A : Nat} (v : Value) (xs : List Int) (w : World) (hv : Own A w v xs) (hx : xs.length ≤ 6) :
    Calls Tryz.prog 46 #[v] w fun e w' => e = .returned (.tuple #[.int .i64 (numV xs).1, .bool (numV xs).2]) ∧ Below w.heap.size w w' := by
  rcases own_cases hv with ⟨rfl, rfl⟩ | ⟨g, cap, rfl, hg1, hg2, hg3, hg4, hgc, hgf⟩
  · go_enter Tryz.func46, Tryz.ntmps46
    go_wp2
    refine wp_loop_rounds 1 ?_
    rw [rounds_succ]
    go_wp2
    go_ret2
    exact ⟨rfl, Below.refl _ _⟩
  · generalize hn : xs.length = n at *
    have HN := Lib.hid hn
    have HC := Lib.hid hgc
    clear hgc hgf hn hv hg1 hg3 hg4
    go_enter Tryz.func46, Tryz.ntmps46
    go_wp2
    go_loopw [4, 5] (fun nv iv wr => ∃ (i : Nat) (a : Int), i ≤ n ∧ iv = .int .i64 i ∧ nv = .int .i64 a ∧ 0 ≤ a ∧ a < 10 ^ i ∧ numF a (xs.drop i) = numF 0 xs ∧ Below w.heap.size w wr) (fun _ iv _ => n - (intOf iv).toNat)
    case atStart => exact ⟨0, 0, by omega, rfl, rfl, by omega, by decide, rfl, Below.refl _ _⟩
    case round =>
      obtain ⟨i, a, hi, rfl, rfl, ha0, ha1, hnum, hb⟩ := hrel
      have HB := Lib.hid hb
      have HNum := Lib.hid hnum
      clear hnum
      have hab : a ≤ 999999 := by
        have : (10 : Int) ^ i ≤ 1000000 := pow_le6 i (by omega)
        omega
      have HAB := Lib.hid ha1
      clear ha1
      by_cases hlt : i < n
      · have hcell : wr.cell? ⟨g, i, none⟩ = some (.int .i64 (xs.getD i 0)) := by rw [hb.cell (p := ⟨g, i, none⟩) hg2]; exact HC.out i hlt
        generalize hxi : xs.getD i 0 = x at hcell
        have HX := Lib.hid hxi
        have HS := Lib.hid (numF_step a xs i (by rw [HN.out]; exact hlt) x hxi)
        have hr := digOf_rng x
        have HD := Lib.hid (l2DigitOf_any x)
        generalize hd : digOf x = d at HS hr HD
        clear hxi hb
        by_cases hneg : d < 0
        · go_wp2_with ((go_at_call 75; refine (HD.out _).mono ?_; rintro e w1 ⟨rfl, hb1⟩))
          go_ret2
          have he := HNum.out.symm.trans HS.out
          rw [if_pos hneg] at he
          exact ⟨ret_ib (by unfold numV; rw [he]; rfl) (by unfold numV; rw [he]; rfl), bt HB.out (by assumption)⟩
        · go_wp2_with ((go_at_call 75; refine (HD.out _).mono ?_; rintro e w1 ⟨rfl, hb1⟩))
          go_roundw
          case rel =>
            have he := HNum.out.symm.trans HS.out
            rw [if_neg (by omega)] at he
            refine ⟨i + 1, 10 * a + d, by omega, by go_num, rfl, by omega, ?_, he.symm, bt HB.out (by assumption)⟩
            have h1 := HAB.out
            have e : (10 : Int) ^ (i + 1) = 10 ^ i * 10 := Int.pow_succ 10 i
            omega
          case measure => simp [intOf]; omega
      · obtain rfl : i = n := by omega
        have he : numF 0 xs = (a, true) := by rw [← HNum.out, List.drop_eq_nil_of_le (by rw [HN.out]; exact Nat.le_refl _)]; rfl
        have HE := Lib.hid he
        clear he
        go_wp2
        go_ret2
        exact ⟨ret_ib (by unfold numV; rw [HE.out]; rfl) (by unfold numV; rw [HE.out, HN.out]; simp), HB.out⟩


def numI (xs : List Int) : Int × Bool := if isRow xs then numV xs else (0, false)

set_option maxHeartbeats 1000000 in
theorem specNumberOf_any {A : Nat} (v : Value) (xs : List Int) (w : World) (hv : Own A w v xs) (hx : xs.length ≤ 1073741824) :
    Calls Tryz.prog 16 #[v] w fun e w' => e = .returned (.tuple #[.int .i64 (numI xs).1, .bool (numI xs).2]) ∧ Below w.heap.size w w' := by
  have H1 := Lib.hid (l2Row_any v xs w hv hx)
  by_cases hr : isRow xs = true
  · have H2 := Lib.hid (fun w1 (h : Own A w1 v xs) => l2NumberOf_any v xs w1 h (isRow_len xs hr))
    have e : numI xs = numV xs := if_pos hr
    have HK := Lib.hid (fun w1 (h : Below w.heap.size w w1) => own_keep hv h)
    rw [e]
    rw [hr] at H1
    clear hv e hr
    go_enter Tryz.func16, Tryz.ntmps16
    go_wp2_with (first | (go_at_call 39; refine H1.out.mono ?_; rintro e w1 ⟨rfl, hb1⟩) | (go_at_call 46; refine (H2.out _ (HK.out _ hb1)).mono ?_; rintro e w2 ⟨rfl, hb2⟩))
    go_ret2
    exact ⟨rfl, bt hb1 hb2⟩
  · have hr' : isRow xs = false := by simpa using hr
    have e : numI xs = (0, false) := if_neg hr
    rw [e]
    rw [hr'] at H1
    clear hv e hr hr'
    go_enter Tryz.func16, Tryz.ntmps16
    go_wp2_with ((go_at_call 39; refine H1.out.mono ?_; rintro e w1 ⟨rfl, hb1⟩))
    go_ret2
    exact ⟨rfl, hb1⟩

set_option maxHeartbeats 1000000 in
theorem implNumberOf_any {A : Nat} (v : Value) (xs : List Int) (w : World) (hv : Own A w v xs) (hx : xs.length ≤ 1073741824) :
    Calls Tryz.prog 15 #[v] w fun e w' => e = .returned (.tuple #[.int .i64 (numI xs).1, .bool (numI xs).2]) ∧ Below w.heap.size w w' := by
  have H1 := Lib.hid (implIsRow_any v xs w hv hx)
  by_cases hr : isRow xs = true
  · have hl6 := isRow_len xs hr
    have e : numI xs = numV xs := if_pos hr
    rw [e]
    rw [hr] at H1
    rcases own_cases hv with ⟨rfl, rfl⟩ | ⟨g, cap, rfl, hg1, hg2, hg3, hg4, hgc, hgf⟩
    · clear hv e hr hl6
      go_enter Tryz.func15, Tryz.ntmps15
      go_wp2_with ((go_at_call 12; refine H1.out.mono ?_; rintro e w1 ⟨rfl, hb1⟩))
      go_ret2
      exact ⟨rfl, hb1⟩
    · generalize hn : xs.length = n at *
      have HN := Lib.hid hn
      have HC := Lib.hid hgc
      clear hgc hgf hn hv hg1 hg3 hg4 e hr
      by_cases hn0 : n = 0
      · have HE : Hid (n = 0) := hn0
        have hb1 : ((n : Int) == 0) = true := by rw [hn0]; rfl
        clear hn0
        go_enter Tryz.func15, Tryz.ntmps15
        go_wp2_with ((go_at_call 12; refine H1.out.mono ?_; rintro e w1 ⟨rfl, hb1⟩))
        go_ret2
        have h0 : xs = [] := List.eq_nil_of_length_eq_zero (HN.out.trans HE.out)
        exact ⟨ret_ib (by rw [h0]; rfl) (by rw [h0]; rfl), hb1⟩
      · have hb0 : ((n : Int) == 0) = false := by simp; omega
        go_enter Tryz.func15, Tryz.ntmps15
        go_wp2_with fail
        refine H1.out.mono ?_
        rintro e w1 ⟨rfl, hb1⟩
        have hcc : ∀ j, j < n → w1.cell? ⟨g, j, none⟩ = some (.int .i64 (xs.getD j 0)) := fun j hj => by rw [hb1.cell (p := ⟨g, j, none⟩) hg2]; exact HC.out j hj
        have HC1 := Lib.hid hcc
        have hg21 := Nat.lt_of_lt_of_le hg2 hb1.size
        have HB1 := Lib.hid hb1
        clear hcc hb1
        go_wp2
        go_loopw [4, 18] (fun nv iv wr => ∃ (i : Nat) (a : Int), i ≤ n ∧ iv = .int .i64 i ∧ nv = .int .i64 a ∧ 0 ≤ a ∧ a < 10 ^ i ∧ numF a (xs.drop i) = numF 0 xs ∧ Below w1.heap.size w1 wr) (fun _ iv _ => n - (intOf iv).toNat)
        case atStart => exact ⟨0, 0, by omega, rfl, rfl, by omega, by decide, rfl, Below.refl _ _⟩
        case round =>
          obtain ⟨i, a, hi, rfl, rfl, ha0, ha1, hnum, hb⟩ := hrel
          have HB := Lib.hid hb
          have HNum := Lib.hid hnum
          clear hnum
          have hab : a ≤ 999999 := by
            have : (10 : Int) ^ i ≤ 1000000 := pow_le6 i (by omega)
            omega
          have HAB := Lib.hid ha1
          clear ha1
          by_cases hlt : i < n
          · have hcell : wr.cell? ⟨g, i, none⟩ = some (.int .i64 (xs.getD i 0)) := by rw [hb.cell (p := ⟨g, i, none⟩) hg21]; exact HC1.out i hlt
            generalize hxi : xs.getD i 0 = x at hcell
            have HX := Lib.hid hxi
            have HS := Lib.hid (numF_step a xs i (by rw [HN.out]; exact hlt) x hxi)
            have hr := digOf_rng x
            have HD := Lib.hid (digitOf_any x)
            generalize hd : digOf x = d at HS hr HD
            clear hxi hb
            by_cases hneg : d < 0
            · go_wp2_with ((go_at_call 45; refine (HD.out _).mono ?_; rintro e w2 ⟨rfl, hb2⟩))
              go_ret2
              have he := HNum.out.symm.trans HS.out
              rw [if_pos hneg] at he
              exact ⟨ret_ib (by unfold numV; rw [he]; rfl) (by unfold numV; rw [he]; rfl), bt HB1.out (bt HB.out (by assumption))⟩
            · go_wp2_with ((go_at_call 45; refine (HD.out _).mono ?_; rintro e w2 ⟨rfl, hb2⟩))
              go_roundw
              case rel =>
                have he := HNum.out.symm.trans HS.out
                rw [if_neg (by omega)] at he
                refine ⟨i + 1, 10 * a + d, by omega, by go_num, rfl, by omega, ?_, he.symm, bt HB.out (by assumption)⟩
                have h1 := HAB.out
                have e : (10 : Int) ^ (i + 1) = 10 ^ i * 10 := Int.pow_succ 10 i
                omega
              case measure => simp [intOf]; omega
          · obtain rfl : i = n := by omega
            have he : numF 0 xs = (a, true) := by rw [← HNum.out, List.drop_eq_nil_of_le (by rw [HN.out]; exact Nat.le_refl _)]; rfl
            have HE := Lib.hid he
            clear he
            go_wp2
            go_ret2
            exact ⟨ret_ib (by unfold numV; rw [HE.out]; rfl) (by unfold numV; rw [HE.out, HN.out]; simp; omega), bt HB1.out HB.out⟩
  · have hr' : isRow xs = false := by simpa using hr
    have e : numI xs = (0, false) := if_neg hr
    rw [e]
    rw [hr'] at H1
    clear hv e hr hr'
    go_enter Tryz.func15, Tryz.ntmps15
    go_wp2_with ((go_at_call 12; refine H1.out.mono ?_; rintro e w1 ⟨rfl, hb1⟩))
    go_ret2
    exact ⟨rfl, hb1⟩

end Go.Proofs.YthgjghgkjhkbbaaGreatDoor
