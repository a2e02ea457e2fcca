/-
  Plain: what the law of cells says of what the functions compute. No condition.
-/
import Derived.Test.YthgjghgkjhkbbaaCellK
import Derived.Test.YthgjghgkjhkbbaaDrawCs
namespace Go.Proofs.Ythgjghgkjhkbbaa
open Go.RowKit
set_option linter.unusedVariables false


theorem co_do (d : Int) (h : (coR d).2 = true) : doR (coR d).1 = (d, true) := by
  unfold coR at h ⊢
  split at h
  · rename_i hd
    rw [if_pos hd]
    obtain ⟨n, rfl⟩ := Int.eq_ofNat_of_zero_le hd.1
    have : ∀ n : Nat, n < 10 → doR (dig.getD n 0) = ((n : Int), true) := by decide
    rw [Int.toNat_natCast]
    exact this n (by omega)
  · cases h
theorem tu_tu : ∀ n : Nat, n < 128 → tuR ((turnFrom n 7 : Nat) : Int) = ((n : Int), true) := by decide +kernel
theorem mi_mi : ∀ n : Nat, n < 128 → miR ((mirFrom n 7 : Nat) : Int) = ((n : Int), true) := by decide +kernel
theorem pr_ba : ∀ n : Nat, n < 128 → prs (bars n 7) = ((n : Int), true) := by decide +kernel
theorem ba_cn : ∀ n : Nat, n < 128 → (bars n 7).length = cnt n 7 := by decide +kernel
theorem tu_lt : ∀ n : Nat, n < 128 → turnFrom n 7 < 128 := by decide +kernel
theorem mi_lt : ∀ n : Nat, n < 128 → mirFrom n 7 < 128 := by decide +kernel
theorem tu_far : ∀ n : Nat, n < 128 → ∀ m : Nat, m < 128 → cnt (turnFrom n 7 ^^^ turnFrom m 7) 7 = cnt (n ^^^ m) 7 := by decide +kernel
theorem mi_far : ∀ n : Nat, n < 128 → ∀ m : Nat, m < 128 → cnt (mirFrom n 7 ^^^ mirFrom m 7) 7 = cnt (n ^^^ m) 7 := by decide +kernel
theorem tuR_nat (n : Nat) (h : n < 128) : tuR (n : Int) = (((turnFrom n 7 : Nat) : Int), true) := by unfold tuR; rw [if_pos (inC_nat n h), Int.toNat_natCast]
theorem miR_nat (n : Nat) (h : n < 128) : miR (n : Int) = (((mirFrom n 7 : Nat) : Int), true) := by unfold miR; rw [if_pos (inC_nat n h), Int.toNat_natCast]
theorem cbR_nat (n : Nat) (h : n < 128) : cbR (n : Int) = (((cnt n 7 : Nat) : Int), true) := by unfold cbR; rw [if_pos (inC_nat n h), Int.toNat_natCast]
theorem boR_nat (n : Nat) (h : n < 128) : boR (n : Int) = (⟨(bars n 7).toArray⟩, true) := by unfold boR; rw [if_pos (inC_nat n h), Int.toNat_natCast]
theorem faR_nat (n m : Nat) (h : n < 128) (k : m < 128) : faR (n : Int) (m : Int) = (((cnt (n ^^^ m) 7 : Nat) : Int), true) := by unfold faR; rw [if_pos ⟨inC_nat n h, inC_nat m k⟩, Int.toNat_natCast, Int.toNat_natCast]
theorem inC_ex (c : Int) (h : inC c = true) : ∃ n : Nat, n < 128 ∧ c = (n : Int) := by
  have := of_decide_eq_true h
  exact ⟨c.toNat, by omega, by omega⟩
theorem cellFacts (c : Int) : ∃ (b : Bool) (t m k : Int) (s : ByteArray), tuR c = (t, b) ∧ miR c = (m, b) ∧ cbR c = (k, b) ∧ boR c = (s, b) ∧ inC c = b ∧ s.size ≤ 7 ∧ (b = true → (s.size : Int) = k ∧ tuR t = (c, true) ∧ miR m = (c, true) ∧ prs s.data.toList = (c, true)) := by
  by_cases h : inC c = true
  · obtain ⟨n, hn, rfl⟩ := inC_ex c h
    have hz : (ByteArray.mk (bars n 7).toArray).size = cnt n 7 := by
      show (bars n 7).toArray.size = _
      rw [List.size_toArray]; exact ba_cn n hn
    refine ⟨true, _, _, _, _, tuR_nat n hn, miR_nat n hn, cbR_nat n hn, boR_nat n hn, h, ?_, fun _ => ⟨by rw [hz], tu_tu n hn, mi_mi n hn, by simpa using pr_ba n hn⟩⟩
    rw [hz, ← ba_cn n hn]
    exact bars_seven n hn
  · have h' : inC c = false := by simpa using h
    refine ⟨false, 0, 0, 0, ⟨#[]⟩, ?_, ?_, ?_, ?_, h', by decide, fun h => by cases h⟩
    · unfold tuR; rw [if_neg h]
    · unfold miR; rw [if_neg h]
    · unfold cbR; rw [if_neg h]
    · unfold boR; rw [if_neg h]
theorem parseFacts (s : ByteArray) : ∃ (r : Int) (b : Bool), prs s.data.toList = (r, b) ∧ (b = true → boR r = (s, true)) := by
  by_cases h : bars (maskN s.data.toList 7) 7 = s.data.toList
  · refine ⟨(maskN s.data.toList 7 : Nat), true, if_pos h, fun _ => ?_⟩
    rw [boR_nat _ (maskN_lt7 _ 7 (Nat.le_refl _)), h]
  · exact ⟨0, false, if_neg h, fun h => by cases h⟩
theorem farFacts (a b : Int) : ∃ (f : Int) (q : Bool), faR a b = (f, q) ∧ (q = true → ∃ x y v u : Int, tuR a = (x, true) ∧ tuR b = (y, true) ∧ faR x y = (f, true) ∧ miR a = (v, true) ∧ miR b = (u, true) ∧ faR v u = (f, true)) := by
  by_cases h : inC a = true ∧ inC b = true
  · obtain ⟨n, hn, rfl⟩ := inC_ex a h.1
    obtain ⟨m, hm, rfl⟩ := inC_ex b h.2
    refine ⟨_, _, faR_nat n m hn hm, fun _ => ⟨_, _, _, _, tuR_nat n hn, tuR_nat m hm, ?_, miR_nat n hn, miR_nat m hm, ?_⟩⟩
    · rw [faR_nat _ _ (tu_lt n hn) (tu_lt m hm), tu_far n hn m hm]
    · rw [faR_nat _ _ (mi_lt n hn) (mi_lt m hm), mi_far n hn m hm]
  · refine ⟨0, false, if_neg h, fun h => by cases h⟩

end Go.Proofs.Ythgjghgkjhkbbaa
