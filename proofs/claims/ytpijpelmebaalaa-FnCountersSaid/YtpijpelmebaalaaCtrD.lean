/-
  Contracts: the changes from a row to another one (the reference and the program).
-/
import Derived.Test.YtpijpelmebaalaaCtrC
import Derived.Test.YtpijpelmebaalaaOwn
import Derived.Test.YtpijpelmebaalaaCount
import Derived.Deep.QuietTactic
import Derived.BigQuiet
namespace Go.Proofs.Ytpijpelmebaalaa
open Go.RowKit
set_option linter.unusedVariables false


set_option maxHeartbeats 1000000 in
theorem changes_any {A B : Nat} (va vb : Value) (xs ys : List Int) (n : Nat) (w : World) (ha : Own A w va xs) (hb : Own B w vb ys) (hx : xs.length = n) (hy : ys.length = n) (h1 : 1 ≤ n) (h6 : n ≤ 6) (hcx : ∀ i, i < n → 0 ≤ xs.getD i 0 ∧ xs.getD i 0 ≤ 127) (hcy : ∀ i, i < n → 0 ≤ ys.getD i 0 ∧ ys.getD i 0 ≤ 127) :
    Calls Try.prog 86 #[va, vb] w fun e w' => e = .returned (.int .i64 (chg xs ys : Nat)) ∧ Below w.heap.size w w' := by
  rcases own_cases ha with ⟨rfl, rfl⟩ | ⟨g, cap, rfl, hg1, hg2, hg3, hg4, hgc, hgf⟩
  · simp at hx; omega
  · rcases own_cases hb with ⟨rfl, rfl⟩ | ⟨g', cap', rfl, hh1, hh2, hh3, hh4, hhc, hhf⟩
    · simp at hy; omega
    · rw [hx] at hgc ⊢
      rw [hy] at hhc ⊢
      have HA := Lib.hid hgc
      have HB := Lib.hid hhc
      have HX := Lib.hid hx
      have HY := Lib.hid hy
      have CX := Lib.hid hcx
      have CY := Lib.hid hcy
      clear hgc hhc ha hb hgf hhf hg1 hg2 hg3 hg4 hh1 hh2 hh3 hh4 hx hy hcx hcy
      go_enter Try.func86, Try.ntmps86
      go_wp2
      go_loop [5, 10] (fun sv iv => ∃ i : Nat, i ≤ n ∧ iv = .int .i64 i ∧ sv = .int .i64 (chg (xs.take i) (ys.take i) : Nat)) (fun _ iv => n - (intOf iv).toNat)
      case atStart => exact ⟨0, by omega, rfl, rfl⟩
      case round =>
        obtain ⟨i, hi, rfl, rfl⟩ := hrel
        have hle := chg_le (xs.take i) (ys.take i)
        rw [List.length_take] at hle
        by_cases hlt : i < n
        · have hca := HA.out i hlt
          have hcb := HB.out i hlt
          have hrx := CX.out i hlt
          have hry := CY.out i hlt
          have HS := Lib.hid (chg_take xs ys i (by rw [HX.out]; exact hlt) (by rw [HY.out]; exact hlt))
          generalize xs.getD i 0 = x at hca hrx HS
          generalize ys.getD i 0 = y at hcb hry HS
          obtain ⟨c, rfl⟩ := Int.eq_ofNat_of_zero_le hrx.1
          obtain ⟨d, rfl⟩ := Int.eq_ofNat_of_zero_le hry.1
          have hc : c < 128 := by omega
          have hd : d < 128 := by omega
          rw [Int.toNat_natCast, Int.toNat_natCast] at HS
          have hxr : bits .xor .i64 (c : Int) (d : Int) = ((c ^^^ d : Nat) : Int) := i64_xor c d (by omega) (by omega)
          have hn : c ^^^ d < 128 := Nat.xor_lt_two_pow (n := 7) (by omega) (by omega)
          have hc7 := cnt_le (c ^^^ d) 7
          have hs' : chg (xs.take i) (ys.take i) ≤ 42 := by omega
          have HF := Lib.hid (fun w => count_any (c ^^^ d) w hn)
          generalize chg (xs.take i) (ys.take i) = s at HS hs'
          generalize cnt (c ^^^ d) 7 = m at HS hc7 HF
          generalize c ^^^ d = z at hxr HF hn
          have hi0 : (i : Int) < (n : Int) := by omega
          clear hrx hry hle
          go_wp2_with ((go_at_call 69; refine (HF.out _).mono ?_; rintro e w2 ⟨rfl, rfl⟩))
          go_round
          case rel => exact ⟨i + 1, by omega, by go_num, by rw [HS.out]; go_num⟩
          case measure => simp [intOf]; omega
        · obtain rfl : i = n := by omega
          have e1 : xs.take i = xs := List.take_of_length_le (by rw [HX.out]; exact Nat.le_refl _)
          have e2 : ys.take i = ys := List.take_of_length_le (by rw [HY.out]; exact Nat.le_refl _)
          rw [e1, e2]
          go_wp2
          go_ret
          exact ⟨rfl, Below.refl _ _⟩

theorem quiet_of_eq {P : Program} {f : FuncId} {args : Array Value} {w : World} {n : Nat} {v : Value}
    (h : Calls P f args (w.drewN n) fun e w' => e = .returned v ∧ w.drewN n = w') : Calls P f args (w.drewN n) fun e w'' => e = .returned v ∧ ∃ m, w'' = w.drewN m :=
  h.mono fun _ _ ⟨he, hm⟩ => ⟨he, n, hm.symm⟩
set_option maxHeartbeats 1000000 in
theorem l2Far_any (c d : Nat) (w : World) (hc : c < 128) (hd : d < 128) :
    Calls Try.prog 87 #[.int .i64 (c : Int), .int .i64 (d : Int)] w fun e w' => e = .returned (.int .i64 (cnt (c ^^^ d) 7 : Nat)) ∧ w = w' := by
  have hxr : bits .xor .i64 (c : Int) (d : Int) = ((c ^^^ d : Nat) : Int) := i64_xor c d (by omega) (by omega)
  have hn : c ^^^ d < 128 := Nat.xor_lt_two_pow (n := 7) (by omega) (by omega)
  have HF := Lib.hid (fun w => l2Count_any (c ^^^ d) w hn)
  go_enter Try.func87, Try.ntmps87
  go_wp2_with ((go_at_call 64; refine (HF.out _).mono ?_; rintro e w2 ⟨rfl, rfl⟩))
  go_ret
  exact ⟨rfl, rfl⟩

set_option maxHeartbeats 1000000 in
theorem l4Changes_any {A B : Nat} (va vb : Value) (xs ys : List Int) (n : Nat) (w : World) (ha : Own A w va xs) (hb : Own B w vb ys) (hx : xs.length = n) (hy : ys.length = n) (h1 : 1 ≤ n) (h6 : n ≤ 6) (hcx : ∀ i, i < n → 0 ≤ xs.getD i 0 ∧ xs.getD i 0 ≤ 127) (hcy : ∀ i, i < n → 0 ≤ ys.getD i 0 ∧ ys.getD i 0 ≤ 127) :
    Calls Try.prog 85 #[va, vb] w fun e w' => e = .returned (.int .i64 (chg xs ys : Nat)) ∧ Below w.heap.size w w' := by
  rcases own_cases ha with ⟨rfl, rfl⟩ | ⟨g, cap, rfl, hg1, hg2, hg3, hg4, hgc, hgf⟩
  · simp at hx; omega
  · rcases own_cases hb with ⟨rfl, rfl⟩ | ⟨g', cap', rfl, hh1, hh2, hh3, hh4, hhc, hhf⟩
    · simp at hy; omega
    · rw [hx] at hgc ⊢
      rw [hy] at hhc ⊢
      have HA := Lib.hid hgc
      have HB := Lib.hid hhc
      have HX := Lib.hid hx
      have HY := Lib.hid hy
      have CX := Lib.hid hcx
      have CY := Lib.hid hcy
      clear hgc hhc ha hb hgf hhf hg1 hg3 hg4 hh1 hh3 hh4 hx hy hcx hcy
      go_enter Try.func85, Try.ntmps85
      go_wp2
      go_loopw [5, 6] (fun sv iv wr => ∃ i : Nat, i ≤ n ∧ iv = .int .i64 i ∧ sv = .int .i64 (chg (xs.take i) (ys.take i) : Nat) ∧ Below w.heap.size w wr) (fun _ iv _ => n - (intOf iv).toNat)
      case atStart => exact ⟨0, by omega, rfl, rfl, Below.refl _ _⟩
      case round =>
        obtain ⟨i, hi, rfl, rfl, hb⟩ := hrel
        have HBB := Lib.hid hb
        have hle := chg_le (xs.take i) (ys.take i)
        rw [List.length_take] at hle
        by_cases hlt : i < n
        · have hca : wr.cell? ⟨g, i, none⟩ = some (.int .i64 (xs.getD i 0)) := by rw [hb.cell (p := ⟨g, i, none⟩) hg2]; exact HA.out i hlt
          have hcb : wr.cell? ⟨g', i, none⟩ = some (.int .i64 (ys.getD i 0)) := by rw [hb.cell (p := ⟨g', i, none⟩) hh2]; exact HB.out i hlt
          clear hb
          have hrx := CX.out i hlt
          have hry := CY.out i hlt
          have HS := Lib.hid (chg_take xs ys i (by rw [HX.out]; exact hlt) (by rw [HY.out]; exact hlt))
          generalize xs.getD i 0 = x at hca hrx HS
          generalize ys.getD i 0 = y at hcb hry HS
          obtain ⟨c, rfl⟩ := Int.eq_ofNat_of_zero_le hrx.1
          obtain ⟨d, rfl⟩ := Int.eq_ofNat_of_zero_le hry.1
          have hc : c < 128 := by omega
          have hd : d < 128 := by omega
          rw [Int.toNat_natCast, Int.toNat_natCast] at HS
          have hxr : bits .xor .i64 (c : Int) (d : Int) = ((c ^^^ d : Nat) : Int) := i64_xor c d (by omega) (by omega)
          have hn : c ^^^ d < 128 := Nat.xor_lt_two_pow (n := 7) (by omega) (by omega)
          have hc7 := cnt_le (c ^^^ d) 7
          have hs' : chg (xs.take i) (ys.take i) ≤ 42 := by omega
          have HF := Lib.hid (fun w => l2Far_any c d w hc hd)
          generalize chg (xs.take i) (ys.take i) = s at HS hs'
          generalize cnt (c ^^^ d) 7 = m at HS hc7 HF
          have hi0 : (i : Int) < (n : Int) := by omega
          clear hrx hry hle
          go_wp2
          go_quiet ((go_at_call 87; exact quiet_of_eq (HF.out _)))
          go_wp2
          go_roundw
          case rel => exact ⟨i + 1, by omega, by go_num, by rw [HS.out]; go_num, bt HBB.out (below_drewN _ _)⟩
          case measure => simp [intOf]; omega
        · obtain rfl : i = n := by omega
          have e1 : xs.take i = xs := List.take_of_length_le (by rw [HX.out]; exact Nat.le_refl _)
          have e2 : ys.take i = ys := List.take_of_length_le (by rw [HY.out]; exact Nat.le_refl _)
          rw [e1, e2]
          go_wp2
          go_ret
          exact ⟨rfl, HBB.out⟩

end Go.Proofs.Ytpijpelmebaalaa
