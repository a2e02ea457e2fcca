/-
  Plain: a sealed text with one byte changed is not sealed. No condition.
-/
import Derived.Test.YtegpbgdmehipnaaDoorSealP
import Derived.Test.YtegpbgdmehipnaaDoorPIntP
namespace Go.Proofs.YtegpbgdmehipnaaDoor
open Go.RowKit
set_option linter.unusedVariables false


theorem ck_apart (h g : Int) (c : UInt8) (h0 : 0 ≤ h ∧ h < 999979) (g0 : 0 ≤ g ∧ g < 999979) (hn : h ≠ g) : ckStep h c ≠ ckStep g c := by
  unfold ckStep
  omega
theorem ck_byte (h : Int) (c d : UInt8) (hn : c ≠ d) : ckStep h c ≠ ckStep h d := by
  have h1 := c.toNat_lt
  have h2 := d.toNat_lt
  have h3 : c.toNat ≠ d.toNat := fun e => hn (UInt8.toNat_inj.1 e)
  unfold ckStep
  omega
theorem fold_apart : ∀ (l : List UInt8) (h g : Int), 0 ≤ h ∧ h < 999979 → 0 ≤ g ∧ g < 999979 → h ≠ g → l.foldl ckStep h ≠ l.foldl ckStep g
  | [], h, g, _, _, hn => hn
  | c :: l, h, g, h0, g0, hn => by
    rw [List.foldl_cons, List.foldl_cons]
    exact fold_apart l _ _ (ckStep_rng h c) (ckStep_rng g c) (ck_apart h g c h0 g0 hn)
theorem fold_set : ∀ (l : List UInt8) (k : Nat) (c : UInt8) (h : Int), 0 ≤ h ∧ h < 999979 → k < l.length → l[k]? ≠ some c → (l.set k c).foldl ckStep h ≠ l.foldl ckStep h
  | [], k, c, h, _, hk, _ => absurd hk (Nat.not_lt_zero _)
  | x :: l, 0, c, h, h0, _, hn => by
    rw [List.set_cons_zero, List.foldl_cons, List.foldl_cons]
    exact fold_apart l _ _ (ckStep_rng h c) (ckStep_rng h x) (ck_byte h c x (fun e => hn (by rw [e]; rfl)))
  | x :: l, k + 1, c, h, h0, hk, hn => by
    rw [List.set_cons_succ, List.foldl_cons, List.foldl_cons]
    exact fold_set l k c _ (ckStep_rng h x) (by simpa using hk) (by simpa using hn)
theorem ck_set (l : List UInt8) (k : Nat) (c : UInt8) (hk : k < l.length) (hn : l[k]? ≠ some c) : ck (l.set k c) ≠ ck l := fold_set l k c 7 (by omega) hk hn
theorem dec_inj (a b : Nat) (h : Lib.decDigits a = Lib.decDigits b) : a = b := by rw [← dp_dv a, h, dp_dv b]
theorem slg_at (l : List UInt8) : (slg l)[l.length]? = some 35 := by unfold slg; simp
theorem slg_only (l : List UInt8) (h : 35 ∉ l) (j : Nat) (hj : (slg l)[j]? = some 35) : j = l.length := by
  unfold slg at hj
  rw [List.append_assoc] at hj
  rcases Nat.lt_trichotomy j l.length with h1 | h1 | h1
  · rw [List.getElem?_append_left h1] at hj
    exact absurd (List.mem_of_getElem? hj) h
  · exact h1
  · rw [List.getElem?_append_right (by omega), List.getElem?_append_right (by simp; omega)] at hj
    exact absurd (List.mem_of_getElem? hj) (dd_free _)
theorem slg_take (l : List UInt8) : (slg l).take l.length = l := by unfold slg; simp
theorem slg_drop (l : List UInt8) : (slg l).drop (l.length + 1) = Lib.decDigits (ck l).toNat := by
  unfold slg
  rw [show l.length + 1 = (l ++ [35]).length by simp, List.drop_left]
theorem slg_one (l u : List UInt8) (h2 : 35 ∉ l) (h3 : 35 ∉ u) (k : Nat) (hk : k < (slg l).length) (c : UInt8) (hc : (slg l)[k]? ≠ some c) : slg u ≠ (slg l).set k c := by
  intro e
  by_cases hn : u.length = l.length
  · rcases Nat.lt_trichotomy k l.length with h1 | h1 | h1
    · have e1 : u = l.set k c := by
        have := congrArg (List.take l.length) e
        rw [← hn, slg_take, List.take_set, hn, slg_take] at this
        exact this
      have e2 : Lib.decDigits (ck u).toNat = Lib.decDigits (ck l).toNat := by
        have := congrArg (List.drop (l.length + 1)) e
        rw [← hn, slg_drop, List.drop_set_of_lt (by omega), hn, slg_drop] at this
        exact this
      have e3 := dec_inj _ _ e2
      have r1 := ck_rng u
      have r2 := ck_rng l
      have e4 : ck u = ck l := by omega
      have hlk : l[k]? ≠ some c := by
        intro e5
        apply hc
        unfold slg
        rw [List.append_assoc, List.getElem?_append_left h1]
        exact e5
      rw [e1] at e4
      exact ck_set l k c h1 hlk e4
    · have h4 := slg_at u
      rw [e, hn, ← h1, List.getElem?_set_self hk] at h4
      exact hc (by rw [h4, h1]; exact slg_at l)
    · have e1 : u = l := by
        have := congrArg (List.take l.length) e
        rw [← hn, slg_take, List.take_set, hn, slg_take, List.set_eq_of_length_le (by omega)] at this
        exact this
      rw [e1] at e
      have h4 : (slg l)[k]? = some c := by
        conv => lhs; rw [e]
        rw [List.getElem?_set_self hk]
      exact hc h4
  · have h4 := slg_at u
    rw [e] at h4
    by_cases h5 : k = u.length
    · have h6 := slg_at l
      have h7 : (slg u)[l.length]? = some 35 := by rw [e, List.getElem?_set_ne (by omega)]; exact h6
      exact hn (slg_only u h3 _ h7).symm
    · rw [List.getElem?_set_ne h5] at h4
      exact hn (slg_only l h2 _ h4)
theorem vfI_one (l : List UInt8) (h2 : 35 ∉ l) (k : Nat) (hk : k < (slg l).length) (c : UInt8) (hc : (slg l)[k]? ≠ some c) : (vfI ((slg l).set k c)).2 = false := by
  unfold vfI
  rw [if_neg]
  rintro ⟨_, h⟩
  exact slg_one l _ h2 (first_free _) k hk c hc h
theorem vfI_slg (l : List UInt8) (h2 : 35 ∉ l) (h3 : (slg l).length ≤ 4000) : vfI (slg l) = (l, true) := by
  have := vfI_yes (slg l) h3 (by rw [first_slg l h2])
  rw [this, first_slg l h2]
theorem asI_cases (l : List UInt8) : asI l = ([], false) ∨ (asI l = (slg l, true) ∧ 35 ∉ l ∧ (slg l).length ≤ 4000) := by
  unfold asI
  split
  · rename_i h; exact .inr ⟨rfl, h.2⟩
  · exact .inl rfl

end Go.Proofs.YtegpbgdmehipnaaDoor
