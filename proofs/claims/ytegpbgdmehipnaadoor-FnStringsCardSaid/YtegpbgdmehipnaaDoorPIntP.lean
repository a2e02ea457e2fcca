/-
  The number of a text: plain functions, no program in sight.
-/
import Derived.Test.YtegpbgdmehipnaaDoorPlain
import Derived.Lib.ItoaNum
import Derived.Lib.AtoiAll
import Derived.Lib.AtoiAllCases
namespace Go.Proofs.YtegpbgdmehipnaaDoor
open Go.RowKit
set_option linter.unusedVariables false


theorem dp_s (n : Nat) (h : n < 10) : Lib.decDigits n = [UInt8.ofNat (48 + n)] := by rw [Lib.decDigits, dif_pos h]
theorem dp_b (n : Nat) (h : ¬ n < 10) : Lib.decDigits n = Lib.decDigits (n / 10) ++ [UInt8.ofNat (48 + n % 10)] := by rw [Lib.decDigits, dif_neg h]
theorem dp_u8 : ∀ d : Nat, d < 10 → (UInt8.ofNat (48 + d)).toNat = 48 + d := by decide
def isDg (c : UInt8) : Bool := decide (48 ≤ c.toNat ∧ c.toNat ≤ 57)
def dv (a : Nat) (l : List UInt8) : Nat := l.foldl (fun a c => 10 * a + (c.toNat - 48)) a
theorem dp_dg (n : Nat) : (Lib.decDigits n).all isDg = true := by
  induction n using Nat.strongRecOn with
  | _ n ih =>
    by_cases h : n < 10
    · rw [dp_s n h]
      have := dp_u8 n h
      simp only [List.all_cons, List.all_nil, Bool.and_true]
      exact decide_eq_true (by omega)
    · rw [dp_b n h, List.all_append, ih (n / 10) (by omega), Bool.true_and]
      have := dp_u8 (n % 10) (Nat.mod_lt _ (by decide))
      simp only [List.all_cons, List.all_nil, Bool.and_true]
      exact decide_eq_true (by omega)
theorem dp_dv (n : Nat) : dv 0 (Lib.decDigits n) = n := by
  induction n using Nat.strongRecOn with
  | _ n ih =>
    by_cases h : n < 10
    · rw [dp_s n h]
      have := dp_u8 n h
      simp only [dv, List.foldl_cons, List.foldl_nil]
      omega
    · rw [dp_b n h]
      have h1 := ih (n / 10) (by omega)
      have h2 := dp_u8 (n % 10) (Nat.mod_lt _ (by decide))
      unfold dv at h1 ⊢
      rw [List.foldl_append, h1]
      simp only [List.foldl_cons, List.foldl_nil]
      omega
theorem dp_len (k : Nat) : ∀ n : Nat, n < 10 ^ (k + 1) → (Lib.decDigits n).length ≤ k + 1 := by
  induction k with
  | zero => intro n h; rw [dp_s n (by simpa using h)]; simp
  | succ k ih =>
    intro n h
    by_cases h10 : n < 10
    · rw [dp_s n h10]; simp
    · rw [dp_b n h10, List.length_append]
      have := ih (n / 10) (by rw [Nat.pow_succ] at h; omega)
      simp; omega
theorem dp_ne (n : Nat) : Lib.decDigits n ≠ [] := by
  by_cases h : n < 10
  · rw [dp_s n h]; simp
  · rw [dp_b n h]; simp
theorem puint_ok : ∀ (l : List UInt8) (a : Nat), l.all isDg = true → (a + 1) * 10 ^ l.length ≤ 100000000000000 → Lib.parseUint10 a l = .ok (dv a l)
  | [], a, _, _ => rfl
  | c :: r, a, h, hb => by
    rw [List.all_cons, Bool.and_eq_true] at h
    have hc := of_decide_eq_true h.1
    have hp : 1 ≤ 10 ^ r.length := Nat.one_le_pow _ _ (by decide)
    rw [List.length_cons, Nat.pow_succ] at hb
    have h1 : (a * 10 + (c.toNat - 48) + 1) * 10 ^ r.length ≤ (a + 1) * 10 * 10 ^ r.length := Nat.mul_le_mul_right _ (by omega)
    have h2 : (a + 1) * 10 * 10 ^ r.length = (a + 1) * (10 ^ r.length * 10) := by rw [Nat.mul_assoc, Nat.mul_comm 10]
    have h3 : (a + 1) * 10 * 1 ≤ (a + 1) * 10 * 10 ^ r.length := Nat.mul_le_mul_left _ hp
    have ih := puint_ok r (a * 10 + (c.toNat - 48)) h.2 (by omega)
    unfold Lib.parseUint10
    rw [if_pos hc, if_neg (by omega), if_neg (by omega), ih]
    congr 1
    unfold dv
    rw [List.foldl_cons, Nat.mul_comm 10 a]
theorem dv_lt (l : List UInt8) (a : Nat) (h : l.all isDg = true) : dv a l + 1 ≤ (a + 1) * 10 ^ l.length := by
  induction l generalizing a with
  | nil => simp [dv]
  | cons c r ih =>
    rw [List.all_cons, Bool.and_eq_true] at h
    have hc := of_decide_eq_true h.1
    have h1 := ih (10 * a + (c.toNat - 48)) h.2
    have h2 : (10 * a + (c.toNat - 48) + 1) * 10 ^ r.length ≤ (a + 1) * 10 * 10 ^ r.length := Nat.mul_le_mul_right _ (by omega)
    have h3 : (a + 1) * 10 * 10 ^ r.length = (a + 1) * 10 ^ (c :: r).length := by rw [List.length_cons, Nat.pow_succ, Nat.mul_assoc, Nat.mul_comm 10]
    unfold dv at h1 ⊢
    rw [List.foldl_cons]
    omega
theorem pmag_dec (n : Nat) (h : n ≤ 999999) : Lib.parseMag (Lib.decDigits n) = .ok n := by
  unfold Lib.parseMag
  rw [if_neg (dp_ne n), puint_ok _ 0 (dp_dg n), dp_dv]
  have h1 := dp_len 5 n (by simp; omega)
  have h2 : 10 ^ (Lib.decDigits n).length ≤ 10 ^ 6 := Nat.pow_le_pow_right (by decide) h1
  have h3 : (10 : Nat) ^ 6 = 1000000 := rfl
  omega
theorem head_dg (n : Nat) (c : UInt8) (r : List UInt8) (h : Lib.decDigits n = c :: r) : 48 ≤ c.toNat ∧ c.toNat ≤ 57 := by
  have := dp_dg n
  rw [h, List.all_cons, Bool.and_eq_true] at this
  exact of_decide_eq_true this.1
theorem atoi_itoa (n : Int) (h0 : -999999 ≤ n) (h1 : n ≤ 999999) : Lib.atoiAll (Lib.itoa n) = .ok n := by
  unfold Lib.itoa
  by_cases hn : n < 0
  · rw [if_pos hn]
    unfold Lib.atoiAll
    have h45 : (45 : UInt8).toNat = 45 := rfl
    simp only [h45]
    rw [if_pos (by decide), pmag_dec n.natAbs (by omega)]
    have hu : ¬ 9223372036854775808 < n.natAbs := by omega
    have hv : -((n.natAbs : Nat) : Int) = n := by omega
    simp [hu]
    exact hv
  · rw [if_neg hn]
    have hp := pmag_dec n.toNat (by omega)
    cases hd : Lib.decDigits n.toNat with
    | nil => exact absurd hd (dp_ne _)
    | cons c r =>
      have hc := head_dg _ c r hd
      rw [hd] at hp
      unfold Lib.atoiAll
      simp only
      rw [if_neg (by omega), hp]
      have e1 : ¬ c.toNat = 45 := by omega
      have hu : ¬ 9223372036854775808 ≤ n.toNat := by omega
      have hv : ((n.toNat : Nat) : Int) = n := by omega
      simp [e1, hu]
      omega
/-- As the program reads a number. -/
def piI (l : List UInt8) : Int × Bool := match Lib.atoiAll l with
  | .ok v => if -999999 ≤ v ∧ v ≤ 999999 ∧ Lib.itoa v = l then (v, true) else (0, false)
  | _ => (0, false)
theorem piI_yes (l : List UInt8) (n : Int) (h0 : -999999 ≤ n) (h1 : n ≤ 999999) (h : Lib.itoa n = l) : piI l = (n, true) := by
  unfold piI
  rw [show Lib.atoiAll l = .ok n by rw [← h]; exact atoi_itoa n h0 h1]
  exact if_pos ⟨h0, h1, h⟩
theorem piI_no (l : List UInt8) (h : ∀ n, -999999 ≤ n → n ≤ 999999 → Lib.itoa n ≠ l) : piI l = (0, false) := by
  unfold piI
  split
  · next v _ =>
    rw [if_neg]
    rintro ⟨h0, h1, h2⟩
    exact h v h0 h1 h2
  · rfl
theorem piI_ok (l : List UInt8) (v : Int) (h : Lib.atoiAll l = .ok v) : piI l = if -999999 ≤ v ∧ v ≤ 999999 ∧ Lib.itoa v = l then (v, true) else (0, false) := by
  unfold piI; rw [h]
theorem piI_bad (l : List UInt8) (h : ∀ v, Lib.atoiAll l ≠ .ok v) : piI l = (0, false) := by
  unfold piI
  split
  · next v hv => exact absurd hv (h v)
  · rfl
/-- What stands behind the sign. -/
def magT (l : List UInt8) : List UInt8 := if 1 < l.length ∧ l.head? = some 45 then l.tail else l
def sgV (l : List UInt8) : Int := if 1 < l.length ∧ l.head? = some 45 then -((dv 0 (magT l) : Nat) : Int) else ((dv 0 (magT l) : Nat) : Int)
theorem magT_itoa (n : Int) : magT (Lib.itoa n) = Lib.decDigits n.natAbs ∧ (n < 0 ↔ 1 < (Lib.itoa n).length ∧ (Lib.itoa n).head? = some 45) := by
  unfold Lib.itoa
  by_cases hn : n < 0
  · rw [if_pos hn]
    have hl : 1 < (45 :: Lib.decDigits n.natAbs).length := by
      have := List.length_pos_iff.2 (dp_ne n.natAbs)
      simp; omega
    refine ⟨?_, fun _ => ⟨hl, rfl⟩, fun _ => hn⟩
    unfold magT
    rw [if_pos ⟨hl, rfl⟩]
    rfl
  · rw [if_neg hn]
    have hh : (Lib.decDigits n.toNat).head? ≠ some 45 := by
      cases hd : Lib.decDigits n.toNat with
      | nil => simp
      | cons c r =>
        have := head_dg _ c r hd
        simp only [List.head?_cons, ne_eq, Option.some.injEq]
        rintro rfl
        exact absurd this.1 (by decide)
    refine ⟨?_, fun h => absurd h hn, fun h => absurd h.2 hh⟩
    unfold magT
    rw [if_neg (fun h => hh h.2)]
    congr 1
    omega
theorem magT_len (n : Int) (h0 : -999999 ≤ n) (h1 : n ≤ 999999) : 1 ≤ (magT (Lib.itoa n)).length ∧ (magT (Lib.itoa n)).length ≤ 6 ∧ (magT (Lib.itoa n)).all isDg = true ∧ sgV (Lib.itoa n) = n := by
  obtain ⟨e, hs⟩ := magT_itoa n
  have hl := dp_len 5 n.natAbs (by simp; omega)
  have hp := List.length_pos_iff.2 (dp_ne n.natAbs)
  unfold sgV
  rw [e]
  refine ⟨hp, hl, dp_dg _, ?_⟩
  rw [dp_dv]
  by_cases hn : n < 0
  · rw [if_pos (hs.1 hn)]; omega
  · rw [if_neg (fun h => hn (hs.2 h))]; omega
/-- As the reference reads it. -/
theorem piI_read (l : List UInt8) (h1 : 1 ≤ (magT l).length) (h6 : (magT l).length ≤ 6) (hd : (magT l).all isDg = true) : piI l = if Lib.itoa (sgV l) = l then (sgV l, true) else (0, false) := by
  have hb := dv_lt (magT l) 0 hd
  have hp : 10 ^ (magT l).length ≤ 10 ^ 6 := Nat.pow_le_pow_right (by decide) h6
  have h3 : (10 : Nat) ^ 6 = 1000000 := rfl
  have hr : -999999 ≤ sgV l ∧ sgV l ≤ 999999 := by unfold sgV; split <;> omega
  split
  · next h => exact piI_yes l _ hr.1 hr.2 h
  · next h =>
    refine piI_no l fun n h0 h1 h2 => h ?_
    rw [← h2, (magT_len n h0 h1).2.2.2]
theorem piI_short (l : List UInt8) (h : ¬ (1 ≤ (magT l).length ∧ (magT l).length ≤ 6)) : piI l = (0, false) :=
  piI_no l fun n h0 h1 h2 => h (by rw [← h2]; exact ⟨(magT_len n h0 h1).1, (magT_len n h0 h1).2.1⟩)
theorem piI_nodig (l : List UInt8) (h : (magT l).all isDg = false) : piI l = (0, false) :=
  piI_no l fun n h0 h1 h2 => by rw [← h2, (magT_len n h0 h1).2.2.1] at h; cases h

end Go.Proofs.YtegpbgdmehipnaaDoor
