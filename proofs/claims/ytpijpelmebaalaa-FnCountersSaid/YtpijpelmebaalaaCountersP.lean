/-
  Plain: what the law of counters says of what the functions compute. No condition.
-/
import Derived.Test.YtpijpelmebaalaaCtrP
import Derived.Test.YtpijpelmebaalaaCtrF
import Derived.Test.YtpijpelmebaalaaMostP
import Derived.Test.YtpijpelmebaalaaRowS
import Derived.Test.YtpijpelmebaalaaNum
import Derived.Test.YtpijpelmebaalaaLStep
import Derived.Test.YtpijpelmebaalaaLRow
import Derived.Test.YtpijpelmebaalaaLLight
import Derived.Test.YtpijpelmebaalaaNumB
namespace Go.Proofs.Ytpijpelmebaalaa
open Go.RowKit
set_option linter.unusedVariables false


theorem list_sum_set (W : List Int) (p : Nat) (z : Int) (h : p < W.length) : (W.set p (W.getD p 0 + z)).sum = W.sum + z := by
  induction W generalizing p with
  | nil => exact absurd h (Nat.not_lt_zero _)
  | cons x l ih =>
    cases p with
    | zero => simp; omega
    | succ p =>
      have := ih p (by simpa using h)
      simp only [List.set_cons_succ, List.sum_cons, List.getD_cons_succ]
      rw [this]; omega
theorem foFacts (g : Nat → Nat) (c : Int) : ∀ (f i : Nat), i + f = 1001 → (∀ j, j < i → ¬ c ≤ (g j : Int)) → ∀ o, fo g c f i = (o, true) → ∃ m : Nat, o = (m : Int) ∧ m ≤ 1000 ∧ c ≤ (g m : Int) ∧ ∀ j, j < m → ¬ c ≤ (g j : Int)
  | 0, i, _, _, o, h => by simp [fo] at h
  | f + 1, i, hf, hlo, o, h => by
    have hi : i < 1001 := by omega
    have e : f + 1 = 1001 - i := by omega
    by_cases hc : c ≤ (g i : Int)
    · rw [e, fo_hit g c i hi hc] at h
      cases h
      exact ⟨i, rfl, by omega, hc, hlo⟩
    · rw [e, fo_go g c i hi hc, show 1001 - (i + 1) = f by omega] at h
      exact foFacts g c f (i + 1) (by omega) (fun j hj => by
        by_cases hj' : j < i
        · exact hlo j hj'
        · rw [show j = i by omega]; exact hc) o h
theorem overFacts (a k c : Int) (h : (foI a k c).2 = true) : 0 ≤ (foI a k c).1 ∧ (foI a k c).1 ≤ 1000 ∧ (∃ own : Int, runI a (foI a k c).1 k = (own, true) ∧ c ≤ own) ∧ (0 < (foI a k c).1 → ∃ less : Int, runI a ((foI a k c).1 - 1) k = (less, true) ∧ ¬ c ≤ less) := by
  unfold foI at h ⊢
  split at h
  · rename_i hg
    rw [Bool.and_eq_true] at hg
    rw [if_pos (by rw [Bool.and_eq_true]; exact hg)]
    generalize hfo : fo (runN k.toNat a.toNat) c 1001 0 = pr at h ⊢
    obtain ⟨o, b⟩ := pr
    obtain rfl : b = true := h
    obtain ⟨m, rfl, e2, e3, e4⟩ := foFacts (runN k.toNat a.toNat) c 1001 0 rfl (fun j hj => absurd hj (Nat.not_lt_zero _)) _ hfo
    have hr : ∀ q : Nat, q ≤ 1000 → runI a (q : Int) k = (((runN k.toNat a.toNat q : Nat) : Int), true) := fun q hq => by
      unfold runI
      rw [if_pos (by rw [hg.1, Bool.true_and]; exact decide_eq_true (by omega)), Int.toNat_natCast]
    show 0 ≤ (m : Int) ∧ (m : Int) ≤ 1000 ∧ (∃ own : Int, runI a (m : Int) k = (own, true) ∧ c ≤ own) ∧ (0 < (m : Int) → ∃ less : Int, runI a ((m : Int) - 1) k = (less, true) ∧ ¬ c ≤ less)
    refine ⟨by omega, by omega, ⟨_, hr m e2, e3⟩, fun h0 => ⟨_, ?_, e4 (m - 1) (by omega)⟩⟩
    rw [show ((m : Int) - 1) = ((m - 1 : Nat) : Int) by omega]
    exact hr (m - 1) (by omega)
  · cases h

theorem pw_add (i : Nat) : ∀ j, pw (i + j) = pw i * pw j
  | 0 => by simp [pw]
  | j + 1 => by rw [← Nat.add_assoc, pw_succ, pw_succ, pw_add i j, Nat.mul_left_comm]
theorem dig_mod (m K i : Nat) (h : i < K) : m % pw K / pw i % 10 = m / pw i % 10 := by
  obtain ⟨t, rfl⟩ : ∃ t, K = i + (t + 1) := ⟨K - i - 1, by omega⟩
  rw [pw_add, Nat.mod_mul_right_div_self, pw_succ, Nat.mod_mul_right_mod]
theorem cRow_mod (m K : Nat) : ∀ k, k ≤ K → cRow (m % pw K) k = cRow m k
  | 0, _ => rfl
  | k + 1, h => by rw [cRow, cRow, cRow_mod m K k (by omega), dig_mod m K k (by omega)]
def chD (i n : Nat) : Nat := cnt ((dg (n / pw i % 10)).toNat ^^^ (dg ((n + 1) / pw i % 10)).toNat) 7
def sumCh : Nat → Nat → Nat
  | 0, _ => 0
  | k + 1, n => chD k n + sumCh k n
theorem chg_sum (n : Nat) : ∀ k, chg (cRow n k) (cRow (n + 1) k) = sumCh k n
  | 0 => rfl
  | k + 1 => by rw [cRow, cRow, chg, chg_sum n k]; rfl
theorem stepN_sum (k n : Nat) : stepN k n = sumCh k n := by unfold stepN; rw [cRow_mod _ k k (Nat.le_refl _), chg_sum]
theorem div_pw1 (n i : Nat) : n / pw (i + 1) = n / 10 / pw i := by rw [pw_succ, Nat.div_div_eq_div_mul]
theorem cnt_zero7 : cnt 0 7 = 0 := by decide
theorem chD_up (i n : Nat) : chD (i + 1) n = if n % 10 = 9 then chD i (n / 10) else 0 := by
  unfold chD
  rw [div_pw1, div_pw1]
  split
  · rename_i h
    rw [show (n + 1) / 10 = n / 10 + 1 by omega]
  · rename_i h
    rw [show (n + 1) / 10 = n / 10 by omega, Nat.xor_self, cnt_zero7]
theorem sumCh_up (n : Nat) : ∀ k, sumCh (k + 1) n = chD 0 n + (if n % 10 = 9 then sumCh k (n / 10) else 0)
  | 0 => by simp [sumCh]
  | k + 1 => by
    rw [sumCh, sumCh_up n k, chD_up]
    split
    · rw [sumCh]; omega
    · omega
theorem low_le : ∀ d : Nat, d < 10 → (d = 9 → cnt ((dg d).toNat ^^^ (dg ((d + 1) % 10)).toNat) 7 = 2) ∧ cnt ((dg d).toNat ^^^ (dg ((d + 1) % 10)).toNat) 7 ≤ 5 := by decide
theorem chD_zero (n : Nat) : (n % 10 = 9 → chD 0 n = 2) ∧ chD 0 n ≤ 5 := by
  have h := low_le (n % 10) (Nat.mod_lt _ (by decide))
  unfold chD
  rw [show pw 0 = 1 from rfl, Nat.div_one, Nat.div_one, show (n + 1) % 10 = (n % 10 + 1) % 10 by omega]
  exact h
theorem sumCh_le : ∀ k n, sumCh (k + 1) n ≤ 2 * k + 5
  | 0, n => by have := chD_zero n; rw [sumCh_up]; simp [sumCh]; omega
  | k + 1, n => by
    have h := chD_zero n
    have ih := sumCh_le k (n / 10)
    rw [sumCh_up]
    split
    · rename_i h9
      have := h.1 h9
      omega
    · omega
theorem stepN_most (k n : Nat) (h : 1 ≤ k) : stepN k n ≤ 2 * k + 3 := by
  obtain ⟨j, rfl⟩ : ∃ j, k = j + 1 := ⟨k - 1, by omega⟩
  rw [stepN_sum]
  have := sumCh_le j n
  omega
theorem mc_vals : ∀ k, k < 7 → 1 ≤ k → (mcI k).2 = ((2 * k + 3 : Nat) : Int) ∧ 0 ≤ (mcI k).1 ∧ (mcI k).1 < (pw k : Int) ∧ ((stepN k (mcI k).1.toNat : Nat) : Int) = (mcI k).2 := by decide +kernel
theorem mostFacts (k : Int) (h : (mcV k).2.2 = true) : stI (mcV k).1 k = ((mcV k).2.1, true) ∧ ∀ n, ¬ (mcV k).2.1 < (stI n k).1 := by
  unfold mcV at h ⊢
  split at h
  · rename_i hk
    rw [if_pos hk]
    obtain ⟨j, rfl⟩ := Int.eq_ofNat_of_zero_le (show 0 ≤ k by omega)
    obtain ⟨h1, h2, h3, h4⟩ := mc_vals j (by omega) (by omega)
    refine ⟨?_, fun n => ?_⟩
    · show stI (mcI (Int.toNat (j : Int))).1 (j : Int) = _
      rw [Int.toNat_natCast]
      have hc : isCtr (mcI j).1 (j : Int) = true := decide_eq_true (by rw [Int.toNat_natCast]; omega)
      unfold stI
      rw [if_pos hc, Int.toNat_natCast, h4]
    · show ¬ (mcI (Int.toNat (j : Int))).2 < _
      rw [Int.toNat_natCast, h1]
      unfold stI
      split
      · have := stepN_most j n.toNat (by omega)
        rw [Int.toNat_natCast]
        show ¬ _ < ((stepN j n.toNat : Nat) : Int)
        omega
      · show ¬ _ < (0 : Int)
        omega
  · cases h
theorem numFacts (n k : Int) (h : isCtr n k = true) : numI (crR n k) = (n, true) ∧ ((crR n k).length : Int) = k := by
  obtain ⟨m, j, rfl, rfl, h1, h6, hm⟩ := ctr_nat h
  have e : crR (m : Int) (j : Int) = cRow m j := by unfold crR; rw [if_pos h, Int.toNat_natCast, Int.toNat_natCast]
  rw [e, cRow_len]
  refine ⟨?_, rfl⟩
  have hn := numF_row m j 0
  rw [Nat.mod_eq_of_lt hm] at hn
  unfold numI
  rw [if_pos (cRow_isRow m j h6)]
  unfold numV
  rw [hn, cRow_len]
  simp
  omega
theorem wBar_sum (c x : Nat) (W : List Int) : ∀ b, x * 7 + b ≤ W.length → (wBar c x W b).sum = W.sum + (cnt c b : Int)
  | 0, _ => by simp [wBar, cnt]
  | b + 1, h => by
    have ih := wBar_sum c x W b (by omega)
    have e : cnt c (b + 1) = cnt c b + bitN c b := rfl
    rw [wBar, list_sum_set _ _ _ (by rw [wBar_len]; omega), ih, e]
    omega
theorem wCell_sum (xs ys W : List Int) : ∀ x, x ≤ xs.length → x ≤ ys.length → x * 7 ≤ W.length → (wCell xs ys W x).sum = W.sum + (chg (xs.take x) (ys.take x) : Int)
  | 0, _, _, _ => by simp [wCell, chg]
  | x + 1, h1, h2, h3 => by
    have ih := wCell_sum xs ys W x (by omega) (by omega) (by omega)
    rw [wCell, wBar_sum _ _ _ 7 (by rw [wCell_len]; omega), ih, chg_take _ _ x (by omega) (by omega)]
    omega
theorem wRun_sum (k f : Nat) : ∀ i, (wRun k f i).sum = (runN k f i : Int)
  | 0 => by
    have : ∀ n : Nat, (List.replicate n (0 : Int)).sum = 0 := fun n => by
      induction n with
      | zero => rfl
      | succ n ih => rw [List.replicate_succ, List.sum_cons, ih]; rfl
    rw [wRun, this]; rfl
  | i + 1 => by
    have e : ((f + i) % pw k + 1) % pw k = (f + i + 1) % pw k := Nat.mod_add_mod _ _ _
    rw [wRun, wCell_sum _ _ _ k (by rw [cRow_len]; omega) (by rw [cRow_len]; omega) (by rw [wRun_len]; omega), wRun_sum k f i, List.take_of_length_le (by rw [cRow_len]; omega), List.take_of_length_le (by rw [cRow_len]; omega), runN]
    unfold stepN
    rw [e]
    omega
theorem take_sum (W : List Int) : ∀ p, p < W.length → (W.take (p + 1)).sum = (W.take p).sum + W.getD p 0 := by
  induction W with
  | nil => intro p h; exact absurd h (Nat.not_lt_zero _)
  | cons a l ih =>
    intro p h
    cases p with
    | zero => simp
    | succ p =>
      have := ih p (by simpa using h)
      simp only [List.take_succ_cons, List.sum_cons, List.getD_cons_succ, this]
      omega
theorem takeSum_to {W : List Int} {m : Nat} (h : upTo W m) : ∀ p, p ≤ W.length → 0 ≤ (W.take p).sum ∧ (W.take p).sum ≤ ((m * p : Nat) : Int)
  | 0, _ => by simp
  | p + 1, hp => by
    have ih := takeSum_to h p (by omega)
    have hh := h p
    rw [take_sum W p (by omega), Nat.mul_succ]
    omega
theorem wear_flag (f s k : Int) : (wearI f s k).2.2 = (runI f s k).2 := by unfold wearI runI; split <;> rfl
theorem wear_run (f s k : Int) (h : (runI f s k).2 = true) : ∃ n : Nat, (wearI f s k).1 = n ∧ n ≤ 6 ∧ (wearI f s k).2.1.length = n * 7 ∧ (wearI f s k).2.1.sum = (runI f s k).1 ∧ upTo (wearI f s k).2.1 42000 := by
  unfold wearI runI at *
  split at h
  · rename_i hg
    rw [if_pos hg, if_pos hg]
    rw [Bool.and_eq_true] at hg
    obtain ⟨m, j, rfl, rfl, h1, h6, hm⟩ := ctr_nat hg.1
    obtain ⟨n, rfl, hn⟩ := st_nat hg.2
    refine ⟨j, by simp, h6, ?_, ?_, fun p => ?_⟩
    · show (wRun _ _ _).length = _; simp [wRun_len]
    · exact wRun_sum _ _ _
    · have := wRun_to j m h6 n p
      simp only [Int.toNat_natCast]
      omega
  · cases h
theorem wear_none (f s k : Int) (h : (runI f s k).2 = false) : (wearI f s k).1 = 0 ∧ (wearI f s k).2.1 = [] := by
  unfold wearI runI at *
  split at h
  · cases h
  · rename_i hg; rw [if_neg hg]; exact ⟨rfl, rfl⟩
theorem light_flag (f s k : Int) : (liI f s k).2 = ((runI f s k).2 && decide (0 < s)) := by
  have e1 : (liI f s k).2 = (isCtr f k && inB s 1 1000) := by unfold liI; split <;> simp_all
  have e2 : (runI f s k).2 = (isCtr f k && isSt s) := by unfold runI; split <;> simp_all
  rw [e1, e2, Bool.and_assoc]
  congr 1
  unfold inB isSt
  rw [Bool.eq_iff_iff]
  simp only [Bool.and_eq_true, decide_eq_true_eq]
  omega
theorem step_flag (n k : Int) : (stI n k).2 = isCtr n k := by unfold stI; split <;> simp_all
theorem run_one (f k : Int) (h : (runI f 1 k).2 = true) : stI f k = runI f 1 k := by
  unfold runI at *
  split at h
  · rename_i hg
    rw [if_pos hg]
    rw [Bool.and_eq_true] at hg
    unfold stI
    rw [if_pos hg.1]
    obtain ⟨m, j, rfl, rfl, h1, h6, hm⟩ := ctr_nat hg.1
    simp only [Int.toNat_natCast]
    have e : (1 : Int).toNat = 1 := rfl
    rw [e]
    show _ = ((((0 + stepN j ((m + 0) % pw j)) : Nat) : Int), true)
    rw [Nat.zero_add, Nat.add_zero, Nat.mod_eq_of_lt hm]
  · cases h
theorem ctrFacts (f s k : Int) : ∃ (run : Int) (ok : Bool) (nr : Nat) (W : List Int) (light : Int) (two : Bool), runI f s k = (run, ok) ∧ wearI f s k = (nr, W, ok) ∧ liI f s k = (light, two) ∧ nr ≤ 6 ∧ two = (ok && decide (0 < s)) ∧
    (ok = true → 1 ≤ nr ∧ W.length = nr * 7 ∧ W.sum = run ∧ ∀ p, p ≤ W.length → 0 ≤ (W.take p).sum ∧ (W.take p).sum ≤ 1764000 ∧ 0 ≤ W.getD p 0 ∧ W.getD p 0 ≤ 42000) ∧ (s = 1 → ok = true → stI f k = (run, true)) := by
  refine ⟨(runI f s k).1, (runI f s k).2, (wearI f s k).1, (wearI f s k).2.1, (liI f s k).1, (liI f s k).2, rfl, ?_, rfl, ?_, light_flag f s k, fun h => ?_, fun hs h => ?_⟩
  · rw [← wear_flag]
  · by_cases h : (runI f s k).2 = true
    · obtain ⟨n, h1, h2, _⟩ := wear_run f s k h
      omega
    · rw [(wear_none f s k (by simpa using h)).1]; omega
  · obtain ⟨n, h1, h2, h3, h4, h5⟩ := wear_run f s k h
    have hn : 1 ≤ n := by
      have e : (runI f s k).2 = (isCtr f k && isSt s) := by unfold runI; split <;> simp_all
      rw [e] at h
      have hw : (wearI f s k).1 = k.toNat := by unfold wearI; rw [if_pos h]
      rw [Bool.and_eq_true] at h
      obtain ⟨m, j, rfl, rfl, q1, q6, hm⟩ := ctr_nat h.1
      rw [hw, Int.toNat_natCast] at h1
      omega
    rw [h1]
    refine ⟨hn, h3, h4, fun p hp => ?_⟩
    have h6 := takeSum_to h5 p hp
    have h7 := h5 p
    have h8 : 42000 * p ≤ 42000 * 42 := Nat.mul_le_mul (Nat.le_refl _) (by omega)
    omega
  · subst hs
    rw [run_one f k h]
    exact Prod.ext rfl h
theorem stepFacts (n c : Int) : ∃ (step : Int) (three : Bool) (xs : List Int), stI n c = (step, three) ∧ isCtr n c = three ∧ crR n c = xs ∧ xs.length ≤ 6 ∧ (three = true → numI xs = (n, true) ∧ (xs.length : Int) = c) := by
  refine ⟨(stI n c).1, isCtr n c, crR n c, Prod.ext rfl (step_flag n c), rfl, rfl, ?_, fun h => numFacts n c h⟩
  by_cases h : isCtr n c = true
  · have := (numFacts n c h).2
    obtain ⟨m, j, rfl, rfl, q1, q6, hm⟩ := ctr_nat h
    omega
  · have : crR n c = [] := by unfold crR; rw [if_neg h]
    rw [this]; simp
theorem mostAll (x : Int) : ∃ (first most : Int) (five : Bool), mcV x = (first, most, five) ∧ (five = true → stI first x = (most, true) ∧ ∀ n, ¬ most < (stI n x).1) :=
  ⟨(mcV x).1, (mcV x).2.1, (mcV x).2.2, rfl, fun h => mostFacts x h⟩
theorem overAll (a k c : Int) : ∃ (over : Int) (six : Bool), foI a k c = (over, six) ∧ (six = true → 0 ≤ over ∧ over ≤ 1000 ∧ (∃ own : Int, runI a over k = (own, true) ∧ c ≤ own) ∧ (0 < over → ∃ less : Int, runI a (over - 1) k = (less, true) ∧ ¬ c ≤ less)) :=
  ⟨(foI a k c).1, (foI a k c).2, rfl, fun h => overFacts a k c h⟩

end Go.Proofs.Ytpijpelmebaalaa
