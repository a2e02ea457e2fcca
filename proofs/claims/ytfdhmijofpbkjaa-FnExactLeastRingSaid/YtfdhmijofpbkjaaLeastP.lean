/-
  Plain: the least costs of going over digits, and the orders that have them. No condition.
-/
import Derived.Test.YtfdhmijofpbkjaaTab
import Derived.Test.YtfdhmijofpbkjaaOrdP
import Derived.Lib.Hide
namespace Go.Proofs.Ytfdhmijofpbkjaa
open Go.RowKit
set_option linter.unusedVariables false


def endc (back : Int) (x : Nat) : Nat := if back < 0 then 0 else farT x back.toNat
def bst (b : Int) (c : Nat) : Int := if b < 0 ∨ (c : Int) < b then (c : Int) else b
def bestOf (cs : List Nat) : Int := cs.foldl bst (-1)
/-- The least cost of going on from x over all digits of the list, and back. -/
def costF (back : Int) : Nat → List Nat → Nat → Nat
  | 0, _, x => endc back x
  | f + 1, rem, x => if rem = [] then endc back x else (bestOf (rem.map fun d => farT x d + costF back f (rem.erase d) d)).toNat
def cost (back : Int) (rem : List Nat) (x : Nat) : Nat := costF back rem.length rem x
theorem bst_fold (cs : List Nat) : ∀ b : Int, -1 ≤ b → (∀ c ∈ cs, cs.foldl bst b ≤ (c : Int)) ∧ (0 ≤ b → cs.foldl bst b ≤ b) ∧ (cs.foldl bst b = b ∨ ∃ c ∈ cs, cs.foldl bst b = (c : Int)) ∧ (b = -1 → cs ≠ [] → ∃ c ∈ cs, cs.foldl bst b = (c : Int)) := by
  induction cs with
  | nil => exact fun b hb => ⟨fun c hc => absurd hc (by simp), fun _ => Int.le_refl _, .inl rfl, fun _ h => absurd rfl h⟩
  | cons c cs ih =>
    intro b hb
    have h1 : -1 ≤ bst b c := by unfold bst; split <;> omega
    obtain ⟨i1, i2, i3, i4⟩ := ih (bst b c) h1
    have h2 : 0 ≤ bst b c ∧ bst b c ≤ (c : Int) ∧ (0 ≤ b → bst b c ≤ b) ∧ (bst b c = b ∨ bst b c = (c : Int)) ∧ (b = -1 → bst b c = (c : Int)) := by unfold bst; split <;> omega
    have h3 := i2 h2.1
    show (∀ y ∈ c :: cs, cs.foldl bst (bst b c) ≤ (y : Int)) ∧ (0 ≤ b → cs.foldl bst (bst b c) ≤ b) ∧ (cs.foldl bst (bst b c) = b ∨ ∃ y ∈ c :: cs, cs.foldl bst (bst b c) = (y : Int)) ∧ (b = -1 → c :: cs ≠ [] → ∃ y ∈ c :: cs, cs.foldl bst (bst b c) = (y : Int))
    refine ⟨fun y hy => ?_, fun h0 => by omega, ?_, fun hb1 _ => ?_⟩
    · rcases List.mem_cons.1 hy with rfl | hy
      · omega
      · exact i1 y hy
    · rcases i3 with i3 | ⟨y, hy, i3⟩
      · rcases h2.2.2.2.1 with e | e
        · left; rw [i3, e]
        · right; exact ⟨c, by simp, by rw [i3, e]⟩
      · right; exact ⟨y, by simp [hy], i3⟩
    · rcases i3 with i3 | ⟨y, hy, i3⟩
      · exact ⟨c, by simp, by rw [i3, h2.2.2.2.2 hb1]⟩
      · exact ⟨y, by simp [hy], i3⟩
theorem bestOf_in (cs : List Nat) (h : cs ≠ []) : (∀ c ∈ cs, bestOf cs ≤ (c : Int)) ∧ ∃ c ∈ cs, bestOf cs = (c : Int) := by
  obtain ⟨h1, _, _, h4⟩ := bst_fold cs (-1) (by omega)
  exact ⟨h1, h4 rfl h⟩
theorem cost_nil (back : Int) (x : Nat) : cost back [] x = endc back x := rfl
theorem cost_cons (back : Int) (rem : List Nat) (x : Nat) (h : rem ≠ []) : (cost back rem x : Int) = bestOf (rem.map fun d => farT x d + cost back (rem.erase d) d) := by
  obtain ⟨n, hn⟩ : ∃ n, rem.length = n + 1 := ⟨rem.length - 1, by have := List.length_pos_iff.2 h; omega⟩
  have e : (rem.map fun d => farT x d + costF back n (rem.erase d) d) = rem.map fun d => farT x d + cost back (rem.erase d) d := by
    refine List.map_congr_left fun d hd => ?_
    unfold cost
    rw [List.length_erase_of_mem hd, hn, Nat.add_sub_cancel]
  have hc : cost back rem x = (bestOf (rem.map fun d => farT x d + cost back (rem.erase d) d)).toNat := by
    show costF back rem.length rem x = _
    rw [hn, costF, if_neg h, e]
  obtain ⟨_, c, _, h2⟩ := bestOf_in (rem.map fun d => farT x d + cost back (rem.erase d) d) (by simpa using h)
  rw [hc, h2]
  omega
theorem endc_le (back : Int) (x : Nat) : endc back x ≤ 7 := by
  unfold endc
  split
  · exact Nat.zero_le _
  · exact farT_le _ _
theorem cost_le (back : Int) : ∀ (n : Nat) (rem : List Nat) (x : Nat), rem.length = n → cost back rem x ≤ 7 * (n + 1)
  | 0, rem, x, h => by rw [List.eq_nil_of_length_eq_zero h, cost_nil]; exact endc_le _ _
  | n + 1, rem, x, h => by
    have hne : rem ≠ [] := by intro e; rw [e] at h; cases h
    have h1 := cost_cons back rem x hne
    obtain ⟨h2, _⟩ := bestOf_in (rem.map fun d => farT x d + cost back (rem.erase d) d) (by simpa using hne)
    obtain ⟨d, hd⟩ := List.exists_mem_of_ne_nil rem hne
    have h3 := h2 _ (List.mem_map.2 ⟨d, hd, rfl⟩)
    have h4 := cost_le back n (rem.erase d) d (by rw [List.length_erase_of_mem hd, h, Nat.add_sub_cancel])
    have h5 := farT_le x d
    omega
/-- The first digit of least cost. -/
def hit (back : Int) (rem : List Nat) (x d : Nat) : Bool := farT x d + cost back (rem.erase d) d == cost back rem x
def go (back : Int) : Nat → List Nat → Nat → List Nat
  | 0, _, _ => []
  | f + 1, rem, x => match rem.find? (hit back rem x) with
    | none => []
    | some d => d :: go back f (rem.erase d) d
def orderOf (back : Int) (rem : List Nat) (x : Nat) : List Nat := go back rem.length rem x
theorem hit_some (back : Int) (rem : List Nat) (x : Nat) (h : rem ≠ []) : ∃ d, rem.find? (hit back rem x) = some d := by
  have h1 := cost_cons back rem x h
  obtain ⟨_, c, hc, h2⟩ := bestOf_in (rem.map fun d => farT x d + cost back (rem.erase d) d) (by simpa using h)
  obtain ⟨d, hd, rfl⟩ := List.mem_map.1 hc
  cases hf : rem.find? (hit back rem x) with
  | some d => exact ⟨d, rfl⟩
  | none =>
    have := List.find?_eq_none.1 hf d hd
    exfalso
    apply this
    unfold hit
    rw [beq_iff_eq]
    omega
theorem order_nil (back : Int) (x : Nat) : orderOf back [] x = [] := rfl
theorem order_cons (back : Int) (rem : List Nat) (x d : Nat) (h : rem.find? (hit back rem x) = some d) : orderOf back rem x = d :: orderOf back (rem.erase d) d := by
  have hd := List.mem_of_find?_eq_some h
  obtain ⟨n, hn⟩ : ∃ n, rem.length = n + 1 := ⟨rem.length - 1, by have := List.length_pos_of_mem hd; omega⟩
  unfold orderOf
  rw [hn, go, h, List.length_erase_of_mem hd, hn, Nat.add_sub_cancel]
/-- The digits of a set. -/
def bitsL (s : Nat) : List Nat := (List.range 10).filter fun d => s.testBit d
theorem bitsL_lt (s d : Nat) (h : d ∈ bitsL s) : d < 10 := by
  unfold bitsL at h; rw [List.mem_filter] at h; exact List.mem_range.1 h.1
theorem bitsL_nodup (s : Nat) : (bitsL s).Nodup := List.Nodup.sublist List.filter_sublist List.nodup_range
theorem bitsL_flip (s d : Nat) (hs : s.testBit d = true) : bitsL (s ^^^ 2 ^ d) = (bitsL s).erase d := by
  rw [(bitsL_nodup s).erase_eq_filter]
  unfold bitsL
  rw [List.filter_filter]
  refine List.filter_congr fun e he => ?_
  rw [Nat.testBit_xor, Nat.testBit_two_pow]
  by_cases hde : d = e
  · subst hde; simp [hs]
  · have : (e != d) = true := by simp [Ne.symm hde]
    simp [hde, this]
theorem flip_lt : ∀ s : Nat, s < 1024 → ∀ d : Nat, d < 10 → s.testBit d = true → s ^^^ 2 ^ d < s := by decide +kernel
theorem bitsL_zero : bitsL 0 = [] := by decide
theorem bitsL_none (s : Nat) (h : s < 1024) (h0 : bitsL s = []) : s = 0 := by
  apply Nat.eq_of_testBit_eq
  intro i
  rw [Nat.zero_testBit]
  by_cases hi : i < 10
  · unfold bitsL at h0
    have := List.filter_eq_nil_iff.1 h0 i (List.mem_range.2 hi)
    simpa using this
  · have h10 : 10 ≤ i := by omega
    have := Nat.pow_le_pow_right (n := 2) (by decide) h10
    exact Nat.testBit_lt_two_pow (by omega)
theorem bitsL_len (s : Nat) : (bitsL s).length ≤ 10 := by
  unfold bitsL
  have := List.length_filter_le (fun d => s.testBit d) (List.range 10)
  rwa [List.length_range] at this
/-- What the running best is behind k digits. -/
def fb (back : Int) (s x k : Nat) : Int := (((List.range k).filter fun d => s.testBit d).map fun d => farT x d + cost back ((bitsL s).erase d) d).foldl bst (if s = 0 then (endc back x : Int) else -1)
theorem fb_zero (back : Int) (s x : Nat) : fb back s x 0 = if s = 0 then (endc back x : Int) else -1 := rfl
theorem fb_skip (back : Int) (s x k : Nat) (h : s.testBit k = false) : fb back s x (k + 1) = fb back s x k := by
  unfold fb
  rw [List.range_succ, List.filter_append]
  simp [h]
theorem fb_take (back : Int) (s x k : Nat) (h : s.testBit k = true) : fb back s x (k + 1) = bst (fb back s x k) (farT x k + cost back ((bitsL s).erase k) k) := by
  unfold fb
  rw [List.range_succ, List.filter_append, List.map_append, List.foldl_append]
  simp [h]
theorem fb_full (back : Int) (s x : Nat) (h : s < 1024) : fb back s x 10 = (cost back (bitsL s) x : Int) := by
  by_cases h0 : s = 0
  · subst h0
    rw [bitsL_zero, cost_nil]
    have e : ((List.range 10).filter fun d => (0 : Nat).testBit d) = [] := by decide
    unfold fb
    rw [e]
    rfl
  · have hne : bitsL s ≠ [] := fun e => h0 (bitsL_none s h e)
    rw [cost_cons back (bitsL s) x hne]
    unfold fb
    rw [if_neg h0]
    rfl
theorem term_le (back : Int) (s x d : Nat) : farT x d + cost back ((bitsL s).erase d) d ≤ 100 := by
  have h1 := farT_le x d
  have h2 := cost_le back _ ((bitsL s).erase d) d rfl
  have h3 : ((bitsL s).erase d).length ≤ 10 := Nat.le_trans (List.length_erase_le) (bitsL_len s)
  omega
theorem fb_rng (back : Int) (s x : Nat) : ∀ k, -1 ≤ fb back s x k ∧ fb back s x k ≤ 100
  | 0 => by
    rw [fb_zero]
    have := endc_le back x
    split <;> omega
  | k + 1 => by
    have h1 := fb_rng back s x k
    cases h : s.testBit k with
    | false => rw [fb_skip back s x k h]; exact h1
    | true =>
      rw [fb_take back s x k h]
      have := term_le back s x k
      unfold bst
      split <;> omega
/-- The table is filled up to place m. -/
def okT (back : Int) (m : Nat) (R : List Int) : Prop := R.length = 10240 ∧ ∀ j, j < m → R.getD j 0 = (cost back (bitsL (j / 10)) (j % 10) : Int)
theorem okT_set {back : Int} {m : Nat} {R : List Int} (h : okT back m R) (hm : m < 10240) : okT back (m + 1) (R.set m (cost back (bitsL (m / 10)) (m % 10) : Int)) := by
  refine ⟨by rw [List.length_set]; exact h.1, fun j hj => ?_⟩
  by_cases e : j = m
  · subst e
    simp [List.getD, h.1, hm]
  · have : (R.set m (cost back (bitsL (m / 10)) (m % 10) : Int)).getD j 0 = R.getD j 0 := by simp [List.getD, List.getElem?_set_ne (Ne.symm e)]
    rw [this]
    exact h.2 j (by omega)

end Go.Proofs.Ytfdhmijofpbkjaa
