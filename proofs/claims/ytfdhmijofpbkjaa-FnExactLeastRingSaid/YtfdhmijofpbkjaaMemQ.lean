/-
  What is left of the digits, the running best over it, and what the memo says: plain. No condition.
-/
import Derived.Test.YtfdhmijofpbkjaaMemP
namespace Go.Proofs.Ytfdhmijofpbkjaa
open Go.RowKit
set_option linter.unusedVariables false


open Go.Maps
def remI (L : List Nat) (s : Nat) : List Nat := ((List.range L.length).filter fun i => !s.testBit i).map (L.getD · 0)
theorem getD_inj (L : List Nat) (h : L.Nodup) (i j : Nat) (hi : i < L.length) (hj : j < L.length) (e : L.getD i 0 = L.getD j 0) : i = j := by
  rw [show L.getD i 0 = L[i] by simp [List.getD, hi], show L.getD j 0 = L[j] by simp [List.getD, hj]] at e
  have hp := List.pairwise_iff_getElem.1 (List.nodup_iff_pairwise_ne.1 h)
  rcases Nat.lt_trichotomy i j with hlt | rfl | hgt
  · exact absurd e (hp i j hi hj hlt)
  · rfl
  · exact absurd e.symm (hp j i hj hi hgt)
theorem remI_nodup (L : List Nat) (s : Nat) (h : L.Nodup) : (remI L s).Nodup := by
  unfold remI
  rw [List.nodup_iff_pairwise_ne, List.pairwise_map]
  have h1 : ((List.range L.length).filter fun i => !s.testBit i).Pairwise (· ≠ ·) := List.nodup_iff_pairwise_ne.1 (List.Nodup.sublist List.filter_sublist List.nodup_range)
  refine List.Pairwise.imp_of_mem ?_ h1
  intro a b ha hb hab e
  rw [List.mem_filter, List.mem_range] at ha hb
  exact hab (getD_inj L h a b ha.1 hb.1 e)
theorem remI_step (L : List Nat) (s i : Nat) (h : L.Nodup) (hi : i < L.length) : remI L (s ||| 2 ^ i) = (remI L s).erase (L.getD i 0) := by
  rw [(remI_nodup L s h).erase_eq_filter]
  unfold remI
  rw [List.filter_map, List.filter_filter]
  congr 1
  refine List.filter_congr fun j hj => ?_
  rw [List.mem_range] at hj
  rw [Nat.testBit_or, Nat.testBit_two_pow]
  by_cases e : i = j
  · subst e; simp
  · have : L.getD j 0 ≠ L.getD i 0 := fun e2 => e (getD_inj L h j i hj hi e2).symm
    simp only [Function.comp]
    rw [show (L.getD j 0 != L.getD i 0) = true by simpa using this]
    simp [e]
theorem remI_mem (L : List Nat) (s i : Nat) (hi : i < L.length) (hb : s.testBit i = false) : L.getD i 0 ∈ remI L s := by
  unfold remI
  exact List.mem_map.2 ⟨i, List.mem_filter.2 ⟨List.mem_range.2 hi, by simp [hb]⟩, rfl⟩
theorem remI_len (L : List Nat) (s : Nat) : (remI L s).length ≤ L.length := by
  unfold remI
  rw [List.length_map]
  have := List.length_filter_le (fun i => !s.testBit i) (List.range L.length)
  rwa [List.length_range] at this
theorem remI_full (L : List Nat) : remI L (2 ^ L.length - 1) = [] := by
  unfold remI
  rw [List.map_eq_nil_iff, List.filter_eq_nil_iff]
  intro i hi
  rw [List.mem_range] at hi
  rw [Nat.testBit_two_pow_sub_one]
  simp [hi]
theorem remI_some (L : List Nat) (s : Nat) (hs : s < 2 ^ L.length) (hne : s ≠ 2 ^ L.length - 1) : remI L s ≠ [] := by
  intro e
  apply hne
  unfold remI at e
  rw [List.map_eq_nil_iff, List.filter_eq_nil_iff] at e
  apply Nat.eq_of_testBit_eq
  intro i
  rw [Nat.testBit_two_pow_sub_one]
  by_cases hi : i < L.length
  · have := e i (List.mem_range.2 hi)
    simp at this
    simp [hi, this]
  · rw [Nat.testBit_lt_two_pow (Nat.lt_of_lt_of_le hs (Nat.pow_le_pow_right (by decide) (by omega)))]
    simp [hi]
/-- How many entries a call may add to the memo. -/
def FK : Nat → Nat
  | 0 => 0
  | k + 1 => 1 + (k + 1) * FK k
theorem FK_le (k : Nat) (h : k ≤ 10) : FK k ≤ 10000000 := by
  have : k = 0 ∨ k = 1 ∨ k = 2 ∨ k = 3 ∨ k = 4 ∨ k = 5 ∨ k = 6 ∨ k = 7 ∨ k = 8 ∨ k = 9 ∨ k = 10 := by omega
  rcases this with rfl | rfl | rfl | rfl | rfl | rfl | rfl | rfl | rfl | rfl | rfl <;> simp [FK]
def termI (L : List Nat) (back : Int) (s x i : Nat) : Nat := farT x (L.getD i 0) + cost back ((remI L s).erase (L.getD i 0)) (L.getD i 0)
def unseen (s k : Nat) : List Nat := (List.range k).filter fun i => !s.testBit i
def fbI (L : List Nat) (back : Int) (s x k : Nat) : Int := ((unseen s k).map (termI L back s x)).foldl bst (-1)
theorem unseen_skip (s k : Nat) (h : s.testBit k = true) : unseen s (k + 1) = unseen s k := by
  unfold unseen
  rw [List.range_succ, List.filter_append]
  simp [h]
theorem unseen_take (s k : Nat) (h : s.testBit k = false) : unseen s (k + 1) = unseen s k ++ [k] := by
  unfold unseen
  rw [List.range_succ, List.filter_append]
  simp [h]
theorem fbI_skip (L : List Nat) (back : Int) (s x k : Nat) (h : s.testBit k = true) : fbI L back s x (k + 1) = fbI L back s x k := by unfold fbI; rw [unseen_skip s k h]
theorem fbI_take (L : List Nat) (back : Int) (s x k : Nat) (h : s.testBit k = false) : fbI L back s x (k + 1) = bst (fbI L back s x k) (termI L back s x k) := by
  unfold fbI
  rw [unseen_take s k h, List.map_append, List.foldl_append]
  rfl
theorem fbI_full (L : List Nat) (back : Int) (s x : Nat) (h : remI L s ≠ []) : fbI L back s x L.length = (cost back (remI L s) x : Int) := by
  rw [cost_cons back (remI L s) x h]
  unfold fbI bestOf
  congr 1
  show (unseen s L.length).map (termI L back s x) = ((unseen s L.length).map (L.getD · 0)).map _
  rw [List.map_map]
  rfl
theorem termI_le (L : List Nat) (back : Int) (s x i : Nat) (hL : L.length ≤ 10) : termI L back s x i ≤ 100 := by
  unfold termI
  have h1 := farT_le x (L.getD i 0)
  have h2 := cost_le back _ ((remI L s).erase (L.getD i 0)) (L.getD i 0) rfl
  have h3 : ((remI L s).erase (L.getD i 0)).length ≤ 10 := Nat.le_trans List.length_erase_le (Nat.le_trans (remI_len L s) hL)
  omega
theorem fbI_rng (L : List Nat) (back : Int) (s x : Nat) (hL : L.length ≤ 10) : ∀ k, -1 ≤ fbI L back s x k ∧ fbI L back s x k ≤ 100
  | 0 => by show -1 ≤ (-1 : Int) ∧ (-1 : Int) ≤ 100; omega
  | k + 1 => by
    have h1 := fbI_rng L back s x hL k
    cases h : s.testBit k with
    | true => rw [fbI_skip L back s x k h]; exact h1
    | false =>
      rw [fbI_take L back s x k h]
      have := termI_le L back s x k hL
      unfold bst
      split <;> omega
theorem remI_unseen (L : List Nat) (s : Nat) : (remI L s).length = (unseen s L.length).length := by unfold remI unseen; rw [List.length_map]
/-- The memo says what is so. -/
def GoodD (L : List Nat) (back : Int) (D : DataW Nat) : Prop := ∀ s l : Nat, s < 1024 → l < L.length → has D (kOf s l) = true → ∀ z, D.atKey (kOf s l) z = .lit (.int .i64 (cost back (remI L s) (L.getD l 0) : Int))
theorem goodD_nil (L : List Nat) (back : Int) : GoodD L back (.map []) := fun s l _ _ h => by simp [has] at h
theorem goodD_put {L : List Nat} {back : Int} {D : DataW Nat} (h : GoodD L back D) (hm : IsMap D) (hL : L.length ≤ 10) (s0 l0 : Nat) (h1 : s0 < 1024) (h2 : l0 < L.length) : GoodD L back (D.put (kOf s0 l0) (.lit (.int .i64 (cost back (remI L s0) (L.getD l0 0) : Int)))) := by
  intro s l hs hl hh z
  by_cases e : kOf s l = kOf s0 l0
  · obtain ⟨rfl, rfl⟩ := kOf_inj s l s0 l0 hs (by omega) h1 (by omega) e
    exact atKey_put_same hm (by unfold kOf; first | trivial | simp [WideAt.IsKeyLit] | exact .inr (.inr ⟨_, rfl⟩)) _ _
  · rw [atKey_put_other e]
    rw [has_put_other e] at hh
    exact h s l hs hl hh z

end Go.Proofs.Ytfdhmijofpbkjaa
