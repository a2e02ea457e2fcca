/-
  Contracts: the row that a counter shows (the reference and the program). Condition: the counter is one.
-/
import Derived.Test.YtpijpelmebaalaaCtrC
import Derived.Test.YtpijpelmebaalaaOwn
import Derived.Test.YtpijpelmebaalaaTo
namespace Go.Proofs.Ytpijpelmebaalaa
open Go.RowKit
set_option linter.unusedVariables false


set_option maxHeartbeats 1000000 in
theorem counterRow_any (n k : Nat) (w : World) (hk1 : 1 ≤ k) (hk : k ≤ 6) (hn : n < pw k) :
    Calls Try.prog 57 #[.int .i64 (n : Int), .int .i64 (k : Int)] w fun e w' => ∃ u, e = .returned u ∧ Own w.heap.size w' u (cRow n k) ∧ Below w.heap.size w w' := by
  obtain ⟨i0, hi, hz0, hz1, hz2⟩ := info_parts info_int
  have hn6 : n ≤ 1000000 := by have := (pw_le k hk).2; omega
  clear hn
  go_enter Try.func57, Try.ntmps57
  go_wp2_with ((at_make; refine wpList_make_full w rfl _ _ 22 rfl w.heap.size 3 i0 (.int .i64 0) 1 Try.underlying22 hi hz0 hz1 _ _ _ _ k rfl rfl rfl rfl ?b2 ?b3 (Nat.le_refl _) ?_))
  case b2 => rw [hz2]; omega
  case b3 => unfold maxLen; omega
  intro w1 hown hgr
  have hst : Own w.heap.size w1 (.slice (some ⟨w.heap.size, 0, none⟩) k k) (List.replicate (k - 0) 0 ++ cRow n 0) := by
    unfold Own
    have e : (madeCells #[Value.int .i64 0] k).toList = (List.replicate k (0 : Int)).map (Value.int .i64) := by
      rw [toList_madeCells_one, List.map_replicate]
    rw [e] at hown
    simpa [cRow] using hown
  have HST := Lib.hid hst
  have hB : Below w.heap.size w w1 := (Below.refl _ _).grown hgr (Nat.le_refl _) (fun k hk => by cases hk)
  clear hown hst hgr hi hz0 hz1 hz2
  go_wp2
  go_loopw [0, 6] (fun nv iv wr => ∃ t : Nat, t ≤ k ∧ iv = .int .i64 ((k : Int) - 1 - (t : Int)) ∧ nv = .int .i64 (n / pw t : Nat) ∧ Own w.heap.size wr (.slice (some ⟨w.heap.size, 0, none⟩) k k) (List.replicate (k - t) 0 ++ cRow n t) ∧ Below w.heap.size w wr) (fun _ iv _ => ((intOf iv) + 1).toNat)
  case atStart => exact ⟨0, by omega, by simp, by simp [pw], HST.out, hB⟩
  case round =>
    obtain ⟨t, ht, rfl, rfl, ho, hb⟩ := hrel
    have hlen : (List.replicate (k - t) (0 : Int) ++ cRow n t).length = k := by rw [List.length_append, List.length_replicate, cRow_len]; omega
    have HL := Lib.hid hlen
    clear hlen
    by_cases hlt : t < k
    · have hq : k - 1 - t < k := by omega
      have hcf : wr.frozen? ⟨w.heap.size, k - 1 - t, none⟩ = false := World.ownsRow.frozenAt (h := by have := ho; unfold Own at this; rw [HL.out] at this; exact this) (k - 1 - t)
      have hcc : ∃ u, wr.cell? ⟨w.heap.size, k - 1 - t, none⟩ = some u := by
        have := ho; unfold Own at this; rw [HL.out] at this
        rw [World.ownsRow.cellAt this (k - 1 - t) (by omega)]
        rw [List.getElem?_eq_getElem (by rw [List.length_map, HL.out]; exact hq)]
        exact ⟨_, rfl⟩
      obtain ⟨u, hcu⟩ := hcc
      have hwz : w.heap.size < wr.heap.size := (own_lt ho _ rfl).2
      have HO := Lib.hid ho
      have HB := Lib.hid hb
      have HS := Lib.hid (cRow_set n k t hlt)
      have hm10 : n / pw t ≤ 1000000 := Nat.le_trans (Nat.div_le_self _ _) hn6
      have hdv : ((n / pw t : Nat) : Int) / 10 = ((n / pw (t + 1) : Nat) : Int) := by rw [← div_pw n t]; simp
      obtain ⟨m', hm'⟩ : ∃ m', n / pw (t + 1) = m' := ⟨_, rfl⟩
      have HM := Lib.hid hm'
      rw [hm'] at hdv
      clear hm'
      generalize n / pw t = m at HS hm10 hdv ⊢
      have hix := dig_at (m % 10) (Nat.mod_lt _ (by decide))
      have hmod : ((m % 10 : Nat) : Int) = (m : Int) % 10 := by simp
      rw [hmod] at hix
      have hd0 : (0 : Int) ≤ (m : Int) % 10 := by omega
      have hd1 : (m : Int) % 10 < 10 := by omega
      have HDG : Hid (dig.getD (m % 10) 0 = dg (m % 10)) := rfl
      rw [HDG.out] at hix
      generalize dg (m % 10) = c at hix HS
      have ei : (k : Int) - 1 - (t : Int) = ((k - 1 - t : Nat) : Int) := by omega
      rw [ei]
      have hi0 : (0 : Int) ≤ ((k - 1 - t : Nat) : Int) := by omega
      generalize hqq : k - 1 - t = q at *
      have HQ := Lib.hid hqq
      clear ho hb ei hqq hmod
      go_wp2_with fail
      refine (digitCells_any _).mono ?_
      rintro e w2 ⟨rfl, hb2⟩
      have hcf2 : w2.frozen? ⟨w.heap.size, q, none⟩ = false := by rw [hb2.frozen (p := ⟨w.heap.size, q, none⟩) hwz]; exact hcf
      have hcu2 : w2.cell? ⟨w.heap.size, q, none⟩ = some u := by rw [hb2.cell (p := ⟨w.heap.size, q, none⟩) hwz]; exact hcu
      have HB2 := Lib.hid hb2
      clear hb2
      go_wp2
      go_roundw
      case rel =>
        refine ⟨t + 1, by omega, by have := HQ.out; go_num, by rw [HM.out], ?_, (bt HB.out HB2.out).setCell (Nat.le_refl _) _⟩
        have h2 := own_keep HO.out HB2.out
        rw [show (Value.slice (some ⟨w.heap.size, 0, none⟩) k k) = .slice (some ⟨w.heap.size, 0, none⟩) (List.replicate (k - t) (0 : Int) ++ cRow n t).length k by rw [HL.out]] at h2
        have h3 := own_set h2 q c
        rw [HS.out, HL.out] at h3
        exact h3
      case measure => simp [intOf] <;> omega
    · obtain rfl : t = k := by omega
      have he : List.replicate (t - t) (0 : Int) ++ cRow n t = cRow n t := by simp
      rw [he] at ho
      have en : (t : Int) - 1 - (t : Int) = -1 := by omega
      rw [en]
      clear he en
      go_wp2
      go_ret
      exact ⟨_, rfl, ho, hb⟩

end Go.Proofs.Ytpijpelmebaalaa
