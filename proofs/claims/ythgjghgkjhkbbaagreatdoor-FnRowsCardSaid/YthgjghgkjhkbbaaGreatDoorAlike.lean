/-
  The law FnExactCountAlike returns true. Condition: the table of the powers of ten lies as the program lays it.
-/
import Derived.Test.YthgjghgkjhkbbaaGreatDoorRowOf
import Derived.Test.YthgjghgkjhkbbaaGreatDoorTurnP
import Derived.Test.YthgjghgkjhkbbaaGreatDoorBack
import Derived.Test.YthgjghgkjhkbbaaGreatDoorSameC
namespace Go.Proofs.YthgjghgkjhkbbaaGreatDoor
open Go.RowKit
set_option linter.unusedVariables false
set_option maxRecDepth 20000


/-- Is a number the same when it is turned? How many of the first k are? -/
def alB (k : Nat) : Bool := decide (cRow k (nd k) = tRow turnFrom (cRow k (nd k)))
def alN : Nat → Nat
  | 0 => 0
  | k + 1 => alN k + if alB k then 1 else 0
theorem alN_le : ∀ k, alN k ≤ k
  | 0 => Nat.le_refl _
  | k + 1 => by have := alN_le k; simp only [alN]; split <;> omega
def caI (n : Int) : Int × Bool := if inB n 0 9999 then (((alN (n.toNat + 1) : Nat) : Int), true) else (0, false)
theorem inB_nat2 {n : Int} (h : inB n 0 9999 = true) : ∃ m : Nat, n = m ∧ m < 10000 := by
  unfold inB at h
  simp only [Bool.and_eq_true, decide_eq_true_eq] at h
  exact ⟨n.toNat, by omega, by omega⟩

set_option maxHeartbeats 2000000 in
theorem specAlike_any (n : Int) (w : World) :
    Calls Tryz.prog 22 #[.int .i64 n] w fun e w' => e = .returned (.tuple #[.int .i64 (caI n).1, .bool (caI n).2]) ∧ Below w.heap.size w w' := by
  have H1 := Lib.hid (l1In_any n 0 9999)
  by_cases hg : inB n 0 9999 = true
  · have e : caI n = (((alN (n.toNat + 1) : Nat) : Int), true) := if_pos hg
    rw [e]
    rw [hg] at H1
    obtain ⟨m, rfl, hm⟩ := inB_nat2 hg
    rw [Int.toNat_natCast]
    clear e hg
    go_enter Tryz.func22, Tryz.ntmps22
    go_wp2_with ((go_at_call 34; refine (H1.out _).mono ?_; rintro e w1 ⟨rfl, rfl⟩))
    go_loopw [4, 5] (fun mv kv wr => ∃ k : Nat, k ≤ m + 1 ∧ kv = .int .i64 k ∧ mv = .int .i64 (alN k : Nat) ∧ Below w.heap.size w wr) (fun _ kv _ => m + 1 - (intOf kv).toNat)
    case atStart => exact ⟨0, by omega, rfl, rfl, Below.refl _ _⟩
    case round =>
      obtain ⟨k, hk, rfl, rfl, hb⟩ := hrel
      have HB := Lib.hid hb
      have hle := alN_le k
      by_cases hlt : k ≤ m
      · have H2 := Lib.hid (fun w => l2RowOf_any k w (by omega))
        have hr := isRow_c k
        have hr2 := isRow_len _ (isRow_turn _ hr)
        have hr1 := isRow_len _ hr
        have H3 := Lib.hid (fun (A : Nat) v w (h : Own A w v (cRow k (nd k))) => l2TurnRow_any v _ w h hr)
        have HAN : Hid (alN (k + 1) = alN k + if alB k then 1 else 0) := Lib.hid rfl
        have H4 : Hid (∀ (A B : Nat) v u w, Own A w v (tRow turnFrom (cRow k (nd k))) → Own B w u (cRow k (nd k)) → Calls Tryz.prog 52 #[v, u] w fun e w' => e = .returned (.bool (alB k)) ∧ Below w.heap.size w w') := Lib.hid (fun A B v u w h1 h2 => by
          have := l1Same_any v u _ _ w h1 h2 (by omega) (by omega)
          rw [show decide (tRow turnFrom (cRow k (nd k)) = cRow k (nd k)) = alB k from by unfold alB; exact decide_eq_decide.2 ⟨Eq.symm, Eq.symm⟩] at this
          exact this)
        generalize alB k = b at HAN H4
        generalize alN k = q at HAN hle ⊢
        generalize tRow turnFrom (cRow k (nd k)) = ys at H3 H4
        generalize cRow k (nd k) = xs at H2 H3 H4
        clear hb hr hr1 hr2
        go_wp2_with ((go_at_call 35; refine (H2.out _).mono ?_; rintro e w2 ⟨u2, rfl, ho2, hb2⟩))
        go_wp2_with ((go_at_call 40; refine (H3.out _ _ _ ho2).mono ?_; rintro e w3 ⟨u3, rfl, ho3, hb3⟩))
        have HB3 := Lib.hid (bt HB.out (bt hb2 hb3))
        have HO2 := Lib.hid (own_keep ho2 hb3)
        have HO3 := Lib.hid ho3
        cases b
        · go_wp2_with ((go_at_call 52; refine (H4.out _ _ _ _ _ HO3.out HO2.out).mono ?_; rintro e w4 ⟨rfl, hb4⟩))
          have HB4 := Lib.hid (bt HB3.out hb4)
          clear hb2 hb3 hb4 ho2 ho3
          go_roundw
          case rel => exact ⟨k + 1, by omega, by go_num, by rw [HAN.out]; simp, HB4.out⟩
          case measure => simp [intOf]; omega
        · go_wp2_with ((go_at_call 52; refine (H4.out _ _ _ _ _ HO3.out HO2.out).mono ?_; rintro e w4 ⟨rfl, hb4⟩))
          have HB4 := Lib.hid (bt HB3.out hb4)
          clear hb2 hb3 hb4 ho2 ho3
          go_roundw
          case rel => exact ⟨k + 1, by omega, by go_num, by rw [HAN.out]; go_num, HB4.out⟩
          case measure => simp [intOf]; omega
      · obtain rfl : k = m + 1 := by omega
        clear hb
        go_wp2
        go_ret2
        exact ⟨rfl, HB.out⟩
  · have e : caI n = (0, false) := if_neg hg
    rw [e]
    have hg' : inB n 0 9999 = false := by simpa using hg
    rw [hg'] at H1
    clear e hg hg'
    go_enter Tryz.func22, Tryz.ntmps22
    go_wp2_with ((go_at_call 34; refine (H1.out _).mono ?_; rintro e w1 ⟨rfl, rfl⟩))
    go_ret2
    exact ⟨rfl, Below.refl _ _⟩

set_option maxHeartbeats 2000000 in
theorem implAlike_any (n : Int) (w : World) (hF : Facts w) :
    Calls Tryz.prog 21 #[.int .i64 n] w fun e w' => e = .returned (.tuple #[.int .i64 (caI n).1, .bool (caI n).2]) ∧ Below w.heap.size w w' := by
  have H1 := Lib.hid (within_any n 0 9999)
  by_cases hg : inB n 0 9999 = true
  · have e : caI n = (((alN (n.toNat + 1) : Nat) : Int), true) := if_pos hg
    rw [e]
    rw [hg] at H1
    obtain ⟨m, rfl, hm⟩ := inB_nat2 hg
    rw [Int.toNat_natCast]
    have HF := Lib.hid hF
    clear e hg hF
    go_enter Tryz.func21, Tryz.ntmps21
    go_wp2_with ((go_at_call 50; refine (H1.out _).mono ?_; rintro e w1 ⟨rfl, rfl⟩))
    go_loopw [4, 12] (fun mv kv wr => ∃ k : Nat, k ≤ m + 1 ∧ kv = .int .i64 k ∧ mv = .int .i64 (alN k : Nat) ∧ Below w.heap.size w wr) (fun _ kv _ => m + 1 - (intOf kv).toNat)
    case atStart => exact ⟨0, by omega, rfl, rfl, Below.refl _ _⟩
    case round =>
      obtain ⟨k, hk, rfl, rfl, hb⟩ := hrel
      have HB := Lib.hid hb
      have hle := alN_le k
      by_cases hlt : k < m + 1
      · have H2 := Lib.hid (rowOf_any k wr (by omega) (facts_keep HF.out hb))
        have hr := isRow_c k
        have hr2 := isRow_len _ (isRow_turn _ hr)
        have hr1 := isRow_len _ hr
        have H3 := Lib.hid (fun (A : Nat) v w (h : Own A w v (cRow k (nd k))) => backTurned_any v _ w h hr)
        have HAN : Hid (alN (k + 1) = alN k + if alB k then 1 else 0) := Lib.hid rfl
        have H4 : Hid (∀ (A B : Nat) v u w, Own A w v (cRow k (nd k)) → Own B w u (tRow turnFrom (cRow k (nd k))) → Calls Tryz.prog 51 #[v, u] w fun e w' => e = .returned (.bool (alB k)) ∧ Below w.heap.size w w') := Lib.hid (fun A B v u w h1 h2 => equalI_any v u _ _ w h1 h2 (by omega) (by omega))
        have hk0 : (k : Int) < (m : Int) + 1 := by omega
        generalize alB k = b at HAN H4
        generalize alN k = q at HAN hle ⊢
        generalize tRow turnFrom (cRow k (nd k)) = ys at H3 H4
        generalize cRow k (nd k) = xs at H2 H3 H4
        clear hb hr hr1 hr2
        go_wp2_with ((go_at_call 33; refine H2.out.mono ?_; rintro e w2 ⟨u2, rfl, ho2, hb2⟩))
        go_wp2_with ((go_at_call 37; refine (H3.out _ _ _ ho2).mono ?_; rintro e w3 ⟨u3, rfl, ho3, hb3⟩))
        have HB3 := Lib.hid (bt HB.out (bt hb2 hb3))
        have HO2 := Lib.hid (own_keep ho2 hb3)
        have HO3 := Lib.hid ho3
        cases b
        · go_wp2_with ((go_at_call 51; refine (H4.out _ _ _ _ _ HO2.out HO3.out).mono ?_; rintro e w4 ⟨rfl, hb4⟩))
          have HB4 := Lib.hid (bt HB3.out hb4)
          clear hb2 hb3 hb4 ho2 ho3
          go_roundw
          case rel => exact ⟨k + 1, by omega, by go_num, by rw [HAN.out]; simp, HB4.out⟩
          case measure => simp [intOf]; omega
        · go_wp2_with ((go_at_call 51; refine (H4.out _ _ _ _ _ HO2.out HO3.out).mono ?_; rintro e w4 ⟨rfl, hb4⟩))
          have HB4 := Lib.hid (bt HB3.out hb4)
          clear hb2 hb3 hb4 ho2 ho3
          go_roundw
          case rel => exact ⟨k + 1, by omega, by go_num, by rw [HAN.out]; go_num, HB4.out⟩
          case measure => simp [intOf]; omega
      · obtain rfl : k = m + 1 := by omega
        clear hb
        go_wp2
        go_ret2
        exact ⟨rfl, HB.out⟩
  · have e : caI n = (0, false) := if_neg hg
    rw [e]
    have hg' : inB n 0 9999 = false := by simpa using hg
    rw [hg'] at H1
    clear e hg hg' hF
    go_enter Tryz.func21, Tryz.ntmps21
    go_wp2_with ((go_at_call 50; refine (H1.out _).mono ?_; rintro e w1 ⟨rfl, rfl⟩))
    go_ret2
    exact ⟨rfl, Below.refl _ _⟩

end Go.Proofs.YthgjghgkjhkbbaaGreatDoor
