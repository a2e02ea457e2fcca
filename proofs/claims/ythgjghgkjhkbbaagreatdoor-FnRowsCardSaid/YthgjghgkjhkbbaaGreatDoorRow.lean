/-
  Contracts: is a list a row (the reference and the program).
-/
import Derived.Test.YthgjghgkjhkbbaaGreatDoorTo
import Derived.Test.YthgjghgkjhkbbaaGreatDoorPlain
namespace Go.Proofs.YthgjghgkjhkbbaaGreatDoor
open Go.RowKit
set_option linter.unusedVariables false
set_option maxRecDepth 20000


def isC (c : Int) : Bool := decide (0 ≤ c ∧ c ≤ 127)
def isRow (xs : List Int) : Bool := decide (xs.length ≤ 6) && xs.all isC

set_option maxHeartbeats 1000000 in
theorem cellFn_any (c : Int) (B : Nat) (w : World) (hcl : w.cell? ⟨B, 0, none⟩ = some (.func (.func 42) #[] #[])) :
    Calls Tryz.prog 72 #[.int .i64 c, .pointer (some ⟨B, 0, none⟩)] w fun e w' => e = .returned (.bool (!isC c)) ∧ w = w' := by
  unfold isC
  by_cases h0 : 0 ≤ c <;> by_cases h1 : c ≤ 127
  all_goals (go_enter Tryz.func72, Tryz.ntmps72)
  all_goals go_wp2
  all_goals go_ret
  all_goals exact ⟨by (simp [*] <;> (intros; omega)), rfl⟩

/-- The place of the first number that is no cell, or -1. -/
def firstBad : List Int → Int
  | [] => -1
  | c :: t => if isC c then (if firstBad t < 0 then -1 else firstBad t + 1) else 0
theorem firstBad_rng (xs : List Int) : -1 ≤ firstBad xs ∧ firstBad xs ≤ xs.length := by
  induction xs with
  | nil => simp [firstBad]
  | cons c t ih => simp only [firstBad, List.length_cons]; split <;> (try split) <;> omega
theorem firstBad_neg' (xs : List Int) : 0 ≤ firstBad xs ↔ xs.all isC = false := by
  induction xs with
  | nil => simp [firstBad]
  | cons c t ih =>
    have hr := firstBad_rng t
    have e : firstBad (c :: t) = if isC c then (if firstBad t < 0 then -1 else firstBad t + 1) else 0 := rfl
    rw [e, List.all_cons]
    by_cases hc : isC c = true
    · rw [if_pos hc, hc, Bool.true_and, ← ih]
      split <;> omega
    · rw [if_neg hc]
      simp at hc
      simp [hc]
theorem firstBad_neg (xs : List Int) : decide (0 ≤ firstBad xs) = !xs.all isC := by
  have h := firstBad_neg' xs
  cases hx : xs.all isC with
  | true => rw [hx] at h; simp at h; simp; omega
  | false => rw [hx] at h; simp at h; simp [h]
theorem firstBad_hit (xs : List Int) (k : Nat) (hk : k < xs.length) (h : ∀ j, j < k → isC (xs.getD j 0) = true) (hb : isC (xs.getD k 0) = false) : firstBad xs = k := by
  induction xs generalizing k with
  | nil => simp at hk
  | cons c t ih =>
    cases k with
    | zero => simp at hb; simp [firstBad, hb]
    | succ k =>
      have h0 := h 0 (by omega)
      simp at h0
      have := ih k (by simpa using hk) (fun j hj => by have := h (j + 1) (by omega); simpa using this) (by simpa using hb)
      simp only [firstBad, h0, if_true]
      rw [this, if_neg (by omega)]
      omega
theorem firstBad_miss (xs : List Int) (h : ∀ j, j < xs.length → isC (xs.getD j 0) = true) : firstBad xs = -1 := by
  induction xs with
  | nil => rfl
  | cons c t ih =>
    have h0 := h 0 (by simp)
    simp at h0
    have := ih (fun j hj => by have := h (j + 1) (by simpa using hj); simpa using this)
    simp only [firstBad, h0, if_true]
    rw [this]; rfl

set_option maxHeartbeats 1000000 in
theorem indexFunc_any {A : Nat} (v : Value) (xs : List Int) (B : Nat) (w : World) (hv : Own A w v xs) (hx : xs.length ≤ 1073741824) (hcl : w.cell? ⟨B, 0, none⟩ = some (.func (.func 42) #[] #[])) :
    Calls Tryz.prog 88 #[v, .func (.func 72) #[] #[.pointer (some ⟨B, 0, none⟩)]] w fun e w' => e = .returned (.int .i64 (firstBad xs)) ∧ w = w' := by
  have HCL := Lib.hid hcl
  rcases own_cases hv with ⟨rfl, rfl⟩ | ⟨g, cap, rfl, hg1, hg2, hg3, hg4, hgc, hgf⟩
  · go_enter Tryz.func88, Tryz.ntmps88
    go_wp2
    refine wp_loop_rounds 1 ?_
    rw [rounds_succ]
    go_wp2
    go_ret
    exact ⟨rfl, rfl⟩
  · generalize hn : xs.length = n at *
    have HN := Lib.hid hn
    have HC := Lib.hid hgc
    clear hgc hgf hn hv hg1 hg2 hg3 hg4 hcl
    go_enter Tryz.func88, Tryz.ntmps88
    go_wp2
    go_loop [8] (fun iv => ∃ i : Nat, i ≤ n ∧ iv = .int .i64 i ∧ ∀ j, j < i → isC (xs.getD j 0) = true) (fun iv => n - (intOf iv).toNat)
    case atStart => exact ⟨0, by omega, rfl, fun j hj => absurd hj (Nat.not_lt_zero _)⟩
    case round =>
      obtain ⟨i, hi, rfl, hall⟩ := hrel
      have HA := Lib.hid hall
      clear hall
      by_cases hlt : i < n
      · have hcell := HC.out i hlt
        generalize hxi : xs.getD i 0 = x at hcell
        have HX := Lib.hid hxi
        clear hxi
        by_cases hb : isC x = true
        · have HB := Lib.hid hb
          have hb' : (!isC x) = false := by rw [hb]; rfl
          clear hb
          go_wp2_with ((go_at_call 72; refine (cellFn_any _ _ _ HCL.out).mono ?_; rintro e w1 ⟨rfl, rfl⟩; rw [hb']))
          go_round
          case rel => exact ⟨i + 1, by omega, by go_num, fun j hj => by by_cases e : j = i; (subst e; rw [HX.out]; exact HB.out); exact HA.out j (by omega)⟩
          case measure => simp [intOf]; omega
        · have hb1 : isC x = false := by simpa using hb
          have HB := Lib.hid hb1
          have hb' : (!isC x) = true := by rw [hb1]; rfl
          clear hb hb1
          go_wp2_with ((go_at_call 72; refine (cellFn_any _ _ _ HCL.out).mono ?_; rintro e w1 ⟨rfl, rfl⟩; rw [hb']))
          go_ret
          exact ⟨by rw [firstBad_hit xs i (by rw [HN.out]; exact hlt) HA.out (by rw [HX.out]; exact HB.out)]; rfl, rfl⟩
      · obtain rfl : i = n := by omega
        go_wp2
        go_ret
        exact ⟨by rw [firstBad_miss xs (fun j hj => HA.out j (by rw [← HN.out]; exact hj))]; rfl, rfl⟩

set_option maxHeartbeats 1000000 in
theorem containsFunc_any {A : Nat} (v : Value) (xs : List Int) (B : Nat) (w : World) (hv : Own A w v xs) (hx : xs.length ≤ 1073741824) (hcl : w.cell? ⟨B, 0, none⟩ = some (.func (.func 42) #[] #[])) :
    Calls Tryz.prog 71 #[v, .func (.func 72) #[] #[.pointer (some ⟨B, 0, none⟩)]] w fun e w' => e = .returned (.bool (!xs.all isC)) ∧ w = w' := by
  rw [← firstBad_neg]
  have hr := firstBad_rng xs
  have H := Lib.hid (indexFunc_any v xs B w hv hx hcl)
  generalize firstBad xs = d at H hr
  obtain ⟨a1, c1, rfl⟩ := own_shape hv
  clear hv
  go_enter Tryz.func71, Tryz.ntmps71
  go_wp2_with ((go_at_call 88; refine H.out.mono ?_; rintro e w1 ⟨rfl, rfl⟩))
  go_ret
  exact ⟨rfl, rfl⟩

set_option maxHeartbeats 1000000 in
theorem areAll_any {A : Nat} (v : Value) (xs : List Int) (w : World) (hv : Own A w v xs) (hx : xs.length ≤ 1073741824) :
    Calls Tryz.prog 41 #[v, .func (.func 42) #[] #[]] w fun e w' => e = .returned (.bool (xs.all isC)) ∧ Below w.heap.size w w' := by
  have hmf : ∀ (fn : Fn) (first cap : Array Value) (w : World), (Instr.makeFunc fn first cap).run Tryz.prog w = .ok (.func fn first cap) w := fun _ _ _ _ => rfl
  go_enter Tryz.func41, Tryz.ntmps41
  go_wp2_with fail
  refine (containsFunc_any v xs _ _ (own_keep hv ((Below.refl _ _).alloc (Nat.le_refl _) _)) hx (by rw [World.cell?_alloc_at _ _ _ _ rfl]; rfl)).mono ?_
  rintro e w1 ⟨rfl, rfl⟩
  go_wp2
  go_ret
  exact ⟨by simp, (Below.refl _ _).alloc (Nat.le_refl _) _⟩

set_option maxHeartbeats 1000000 in
theorem implIsRow_any {A : Nat} (v : Value) (xs : List Int) (w : World) (hv : Own A w v xs) (hx : xs.length ≤ 1073741824) :
    Calls Tryz.prog 12 #[v] w fun e w' => e = .returned (.bool (isRow xs)) ∧ Below w.heap.size w w' := by
  unfold isRow
  have HH := Lib.hid (areAll_any v xs w hv hx)
  obtain ⟨a1, c1, rfl⟩ := own_shape hv
  clear hv
  by_cases hl : xs.length ≤ 6
  · rw [decide_eq_true hl]
    generalize xs.length = n at *
    go_enter Tryz.func12, Tryz.ntmps12
    go_wp2_with ((go_at_call 41; refine HH.out.mono ?_; rintro e w1 ⟨rfl, hb1⟩))
    go_ret
    exact ⟨by simp, hb1⟩
  · rw [decide_eq_false hl]
    generalize xs.length = n at *
    go_enter Tryz.func12, Tryz.ntmps12
    go_wp2
    go_ret
    exact ⟨by simp, Below.refl _ _⟩

theorem isRow_long (xs : List Int) (h : ¬ xs.length ≤ 6) : isRow xs = false := by unfold isRow; rw [decide_eq_false h]; rfl
theorem isRow_bad (xs : List Int) (i : Nat) (hi : i < xs.length) (h : isC (xs.getD i 0) = false) : isRow xs = false := by
  unfold isRow
  have : xs.all isC = false := by
    rw [List.all_eq_false]
    refine ⟨xs[i], List.getElem_mem hi, ?_⟩
    simp [List.getD, List.getElem?_eq_getElem hi] at h
    simp [h]
  rw [this, Bool.and_false]
theorem isRow_good (xs : List Int) (hl : xs.length ≤ 6) (h : ∀ j, j < xs.length → isC (xs.getD j 0) = true) : isRow xs = true := by
  unfold isRow
  have : xs.all isC = true := by
    rw [List.all_eq_true]
    intro x hx
    obtain ⟨i, hi, rfl⟩ := List.getElem_of_mem hx
    have := h i hi
    simpa [List.getD, List.getElem?_eq_getElem hi] using this
  rw [this, decide_eq_true hl]; rfl
theorem isRow_len (xs : List Int) (h : isRow xs = true) : xs.length ≤ 6 := by
  unfold isRow at h; simp at h; exact h.1
theorem isRow_cell (xs : List Int) (h : isRow xs = true) (j : Nat) (hj : j < xs.length) : 0 ≤ xs.getD j 0 ∧ xs.getD j 0 ≤ 127 := by
  unfold isRow at h
  simp only [Bool.and_eq_true, List.all_eq_true] at h
  have := h.2 xs[j] (List.getElem_mem hj)
  unfold isC at this
  simpa [List.getD, List.getElem?_eq_getElem hj] using this

set_option maxHeartbeats 1000000 in
theorem l2Row_any {A : Nat} (v : Value) (xs : List Int) (w : World) (hv : Own A w v xs) (hx : xs.length ≤ 1073741824) :
    Calls Tryz.prog 39 #[v] w fun e w' => e = .returned (.bool (isRow xs)) ∧ Below w.heap.size w w' := by
  rcases own_cases hv with ⟨rfl, rfl⟩ | ⟨g, cap, rfl, hg1, hg2, hg3, hg4, hgc, hgf⟩
  · go_enter Tryz.func39, Tryz.ntmps39
    go_wp2
    refine wp_loop_rounds 1 ?_
    rw [rounds_succ]
    go_wp2
    go_ret
    exact ⟨rfl, Below.refl _ _⟩
  · generalize hn : xs.length = n at *
    have HN := Lib.hid hn
    have HC := Lib.hid hgc
    clear hgc hgf hn hv hg1 hg2 hg3 hg4
    go_enter Tryz.func39, Tryz.ntmps39
    go_wp2
    go_loop [3] (fun iv => ∃ i : Nat, i ≤ n ∧ i ≤ 7 ∧ iv = .int .i64 i ∧ ∀ j, j < i → isC (xs.getD j 0) = true) (fun iv => 7 - (intOf iv).toNat)
    case atStart => exact ⟨0, by omega, by omega, rfl, fun j hj => absurd hj (Nat.not_lt_zero _)⟩
    case round =>
      obtain ⟨i, hi, hi7, rfl, hall⟩ := hrel
      have HA := Lib.hid hall
      clear hall
      by_cases hlt : i < n
      · by_cases hle : i ≤ 6
        · have hcell := HC.out i hlt
          generalize hxi : xs.getD i 0 = x at hcell
          have HX := Lib.hid hxi
          clear hxi
          by_cases h0 : 0 ≤ x
          · by_cases h1 : x ≤ 127
            · go_wp2
              go_round
              case rel => exact ⟨i + 1, by omega, by omega, by go_num, fun j hj => by by_cases e : j = i; (subst e; rw [HX.out]; unfold isC; exact decide_eq_true ⟨h0, h1⟩); exact HA.out j (by omega)⟩
              case measure => simp [intOf]; omega
            · go_wp2
              go_ret
              exact ⟨by rw [isRow_bad xs i (by rw [HN.out]; exact hlt) (by rw [HX.out]; unfold isC; exact decide_eq_false (by omega))]; rfl, Below.refl _ _⟩
          · go_wp2
            go_ret
            exact ⟨by rw [isRow_bad xs i (by rw [HN.out]; exact hlt) (by rw [HX.out]; unfold isC; exact decide_eq_false (by omega))]; rfl, Below.refl _ _⟩
        · have hn6 : ¬ n ≤ 6 := by omega
          go_wp2
          go_ret
          exact ⟨ret_bool (by rw [isRow_long xs (by rw [HN.out]; exact hn6)]; exact decide_eq_false (by omega)), Below.refl _ _⟩
      · obtain rfl : i = n := by omega
        by_cases hle : i ≤ 6
        · go_wp2
          go_ret
          exact ⟨ret_bool (by rw [isRow_good xs (by rw [HN.out]; exact hle) (fun j hj => HA.out j (by rw [← HN.out]; exact hj))]; exact decide_eq_true (by omega)), Below.refl _ _⟩
        · go_wp2
          go_ret
          exact ⟨ret_bool (by rw [isRow_long xs (by rw [HN.out]; exact hle)]; exact decide_eq_false (by omega)), Below.refl _ _⟩


end Go.Proofs.YthgjghgkjhkbbaaGreatDoor
