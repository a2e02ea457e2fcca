/-
  Contracts: the row that a text tells (the reference and the program). Condition: at most 2^20 bytes; some number lies in the library's variable MaxLen.
-/
import Derived.Test.YthgjghgkjhkbbaaGreatDoorParRowP
import Derived.Test.YthgjghgkjhkbbaaGreatDoorSplitC
import Derived.Test.YthgjghgkjhkbbaaGreatDoorTextB
import Derived.Test.YthgjghgkjhkbbaaGreatDoorParse
import Derived.Test.YthgjghgkjhkbbaaGreatDoorOwn
import Derived.Test.YthgjghgkjhkbbaaGreatDoorTo
import Derived.Test.YthgjghgkjhkbbaaGreatDoorRow
import Derived.Deep.AppendLies
namespace Go.Proofs.YthgjghgkjhkbbaaGreatDoor
open Go.RowKit
set_option linter.unusedVariables false
set_option maxRecDepth 20000


theorem one_cell (x : Int) : ∀ u ∈ [Value.int .i64 x], u.oneCell' = true := by
  intro u hu; simp at hu; subst hu; rfl
theorem news_one {w : World} {g : Nat} {b : Int} (h : w.cell? ⟨g, 0, none⟩ = some (.int .i64 b)) : ∀ j u, [Value.int .i64 b][j]? = some u → w.cell? ((⟨g, 0, none⟩ : Addr).add j) = some u := by
  intro j u hj
  match j, hj with
  | 0, hj => simp at hj; subst hj; simpa [Addr.add] using h
theorem spS_at (s : ByteArray) (i : Nat) (p : List UInt8) (h : (spl 32 s.data.toList)[i]? = some p) : (spS 32 s)[i]? = some ⟨p.toArray⟩ := by
  unfold spS
  rw [List.getElem?_map, h]
  rfl
theorem spS_length (s : ByteArray) : (spS 32 s).length = (spl 32 s.data.toList).length := by unfold spS; rw [List.length_map]
theorem strNe (x : ByteArray) (l : List UInt8) (h : x.data.toList ≠ l) : x ≠ ⟨l.toArray⟩ := by
  intro e; rw [e] at h; simp at h

set_option maxHeartbeats 4000000 in
theorem specParseRow_any (s : ByteArray) (w : World) (hs : s.size ≤ 1048576) :
    Calls Tryz.prog 62 #[.string s] w fun e w' => ∃ u, e = .returned (.tuple #[u, .bool (prow s.data.toList).2]) ∧ Own w.heap.size w' u (prow s.data.toList).1 ∧ Below w.heap.size w w' := by
  have HE : Hid (∀ w : World, Own w.heap.size (w.alloc (.cells #[] 3)) (.slice (some ⟨w.heap.size, 0, none⟩) 0 0) []) := Lib.hid (fun w => World.ownsRow_lit w #[] 0 (Nat.le_refl _) (Nat.zero_le _) rfl)
  by_cases h0 : s = ⟨#[]⟩
  · subst h0
    go_enter Tryz.func62, Tryz.ntmps62
    go_wp2
    go_ret2
    exact ⟨_, rfl, HE.out w, (Below.refl _ _).alloc (Nat.le_refl _) _⟩
  · have hl0 : s.data.toList ≠ [] := fun e => h0 (ba_ext e)
    have hq2 : decide (s = (⟨#[]⟩ : ByteArray)) = false := decide_eq_false h0
    have hq3 : (s.toList == []) = false := by rw [ByteArray.toList_eq]; simpa using hl0
    have hll : s.data.toList.length = s.size := by rw [Array.length_toList]; rfl
    by_cases h48 : s.size ≤ 48
    · obtain ⟨i0, hi, hz0, hz1, hz2⟩ := info_parts info_int
      have HSP : Hid (∀ w, Calls Tryz.prog 84 #[.string s, .int .u8 32] w fun e w' => ∃ u, e = .returned u ∧ OwnS w.heap.size w' u (spS 32 s) ∧ Below w.heap.size w w') := Lib.hid (fun w => l1Split_any s 32 w hs)
      have hn0 := spl_ne 32 s.data.toList
      have hsz := spl_size 32 s.data.toList
      have hsn := spl_len 32 s.data.toList
      obtain ⟨n, hn⟩ : ∃ n, (spl 32 s.data.toList).length = n := ⟨_, rfl⟩
      have hXL := spS_length s
      have HAT := Lib.hid (fun i p h => spS_at s i p h)
      have HBAD := Lib.hid (prow_bad s.data.toList hl0)
      have HMANY := Lib.hid (prow_many s.data.toList hl0)
      have HYES := Lib.hid (prow_yes s.data.toList hl0)
      rw [hn] at hXL HMANY HYES hsn
      have hsn' : n ≤ 49 := by omega
      have hnp : 0 < n := by
        rcases Nat.eq_zero_or_pos n with h | h
        · exact absurd (List.eq_nil_of_length_eq_zero (hn.trans h)) hn0
        · exact h
      generalize prow s.data.toList = r at HBAD HMANY HYES ⊢
      generalize spl 32 s.data.toList = ps at hn0 hsz hn HAT HBAD HMANY HYES
      have HN := Lib.hid hn
      have HSZ : Hid (∀ (i : Nat) p, ps[i]? = some p → p.length ≤ 48) := Lib.hid (fun i p h => by have := hsz p (List.mem_of_getElem? h); omega)
      clear hn0 hsz hn hsn hl0
      go_enter Tryz.func62, Tryz.ntmps62
      go_wp2_with ((go_at_call 84; refine (HSP.out _).mono ?_; rintro e w1 ⟨u1, rfl, ho1, hb1⟩))
      rcases ownS_cases ho1 with ⟨_, he⟩ | ⟨g, cap, rfl, hg1, hg2, hg3, hg4, hgc, hgf⟩
      · rw [he] at hXL; simp at hXL; omega
      · rw [hXL]
        have HC : Hid (∀ (i : Nat) p, ps[i]? = some p → w1.cell? ⟨g, i, none⟩ = some (.string ⟨p.toArray⟩)) := Lib.hid (fun i p h => hgc i _ (HAT.out i p h))
        have HB1 : Hid (Below w.heap.size w w1) := Lib.hid (((Below.refl _ _).alloc (Nat.le_refl _) _).trans (hb1.mono (by simp)))
        have HO1 : Hid (Own w.heap.size w1 (.slice (some ⟨w.heap.size, 0, none⟩) 0 0) []) := Lib.hid (own_keepC (HE.out w) hb1 (fun k hk => by simp only [Value.ownBlock, Option.some.injEq] at hk; subst hk; simp))
        have hz1' := HB1.out.size
        have HG1 : Hid (w.heap.size < g) := Lib.hid (by simp at hg1; omega)
        clear hgc hgf ho1 hb1 hg1 hg3 hg4 HAT hXL
        go_wp2
        go_loopw [4, 6] (fun uv iv wr => ∃ i : Nat, i ≤ n ∧ iv = .int .i64 i ∧ Own w.heap.size wr uv (vals (ps.take i)) ∧ (∀ (j : Nat) p, j < i → ps[j]? = some p → okW p = true) ∧ Below w.heap.size w wr ∧ wr.heap[g]? = w1.heap[g]? ∧ uv.ownBlock ≠ some g) (fun _ iv _ => n - (intOf iv).toNat)
        case atStart => exact ⟨0, by omega, rfl, HO1.out, fun j p h => absurd h (Nat.not_lt_zero _), HB1.out, rfl, by simp only [Value.ownBlock, Option.some.injEq, ne_eq]; have := HG1.out; omega⟩
        case round =>
          obtain ⟨i, hin, rfl, ho, hall, hb, hg, hd⟩ := hrel
          have HO := Lib.hid ho
          have HB := Lib.hid hb
          have HA := Lib.hid hall
          have HG := Lib.hid hg
          have hgs : g < wr.heap.size := by
            have h1 : w1.heap[g]? ≠ none := by simp; omega
            rw [← hg] at h1
            simpa using h1
          clear ho hb hall hg
          have HD := Lib.hid hd
          clear hd
          by_cases hlt : i < n
          · obtain ⟨p, hp⟩ : ∃ p, ps[i]? = some p := ⟨_, List.getElem?_eq_getElem (by rw [HN.out]; exact hlt)⟩
            have hcell : wr.cell? ⟨g, i, none⟩ = some (.string ⟨p.toArray⟩) := (World.cell?_of_block HG.out).trans (HC.out i p hp)
            have hpl := HSZ.out i p hp
            have HPI := Lib.hid hp
            have HVS := Lib.hid (vals_step ps i p hp)
            have HPP := Lib.hid (fun w => l2Parse_any ⟨p.toArray⟩ w (by simp [ByteArray.size]; omega))
            have HV : Hid (okW p = (decide (p = [45]) || ((prs p).2 && !decide (p = [])))) := Lib.hid rfl
            have HVV : Hid (val p = if p = [45] then (0, true) else prs p) := Lib.hid rfl
            have hlen : (vals (ps.take i)).length ≤ 49 := by rw [vals_len, List.length_take]; omega
            have hown0 := HO.out
            clear hp
            have hT45 : (⟨#[45]⟩ : ByteArray).toList = [45] := by rw [ByteArray.toList_eq]
            by_cases h45 : p = [45]
            · subst h45
              have HOK : Hid (okW [45] = true) := Lib.hid rfl
              have HV0 : Hid ((val [45]).1 = 0) := Lib.hid rfl
              rw [show (⟨([45] : List UInt8).toArray⟩ : ByteArray).data.toList = [45] from rfl] at HPP
              generalize (prs [45]).1 = c45 at HPP
              generalize (prs [45]).2 = ok45 at HPP
              clear hll hq3 hs hnp h48 hown0
              go_wp2_with fail
              refine (HPP.out _).mono ?_
              rintro e w2 ⟨rfl, hb2⟩
              have hcell2 : w2.cell? ⟨g, i, none⟩ = some (.string ⟨#[45]⟩) := (hb2.cell (p := ⟨g, i, none⟩) hgs).trans hcell
              have HB2 : Hid (Below w.heap.size w w2) := Lib.hid (bt HB.out hb2)
              have HG2 : Hid (w2.heap[g]? = w1.heap[g]?) := Lib.hid ((hb2.block g hgs).trans HG.out)
              have hown : w2.ownsRow w.heap.size 3 1 u4 _ _ := own_keep HO.out hb2
              have hz2' := hb2.size
              have hz3' := HB.out.size
              clear hcell hb2
              go_wp2_with ((at_builtin; refine wpList_append_lies _ rfl _ _ 25 rfl w.heap.size 3 i0 (.int .i64 0) 1 8 Tryz.underlying25 hi hz0 hz1 hz2 rfl (by decide) _ _ _ rfl (hown.alloc _) ⟨w2.heap.size, 0, none⟩ 1 1 [.int .i64 0] rfl rfl (news_one (by simp)) (one_cell _) (by omega) (by unfold maxLen; omega) (by omega) (by simp; omega) _ rfl ?_))
              intro g9 cap9 w3 hown' hgrow hat hlt9
              have HO3 := Lib.hid (own_push hown')
              have HB3 : Hid (Below w.heap.size w w3) := Lib.hid ((HB2.out.alloc (by omega) _).grown hgrow (by simp; omega) (fun k hk => (World.ownsRow.lt hown k hk).1))
              have HG3 : Hid (w3.heap[g]? = w1.heap[g]?) := Lib.hid (by
                rw [hgrow.block g (by simp; omega) (fun e => HD.out e.symm), heap_alloc_old _ _ (by omega)]
                exact HG2.out)
              have HD3 : Hid ((Value.slice (some ⟨g9, 0, none⟩) ((vals (ps.take i)).length + 1) cap9).ownBlock ≠ some g) := Lib.hid (by
                simp only [Value.ownBlock, Option.some.injEq, ne_eq]
                rcases hat with h | h
                · intro e; rw [e] at h; exact HD.out h
                · first | omega | (simp at h; omega))
              clear hown hown' hgrow hat
              go_wp2
              go_roundw
              case rel => exact ⟨i + 1, by omega, by go_num, by rw [HVS.out, HV0.out]; exact HO3.out, fun j q hj hq => by by_cases e : j = i; (subst e; rw [HPI.out] at hq; injection hq with hq; rw [← hq]; exact HOK.out); exact HA.out j q (by omega) hq, HB3.out, HG3.out, HD3.out⟩
              case measure => simp [intOf]; omega
            · have hq2 : (p == [45]) = false := by simpa using h45
              have hq7 : (p == (⟨#[45]⟩ : ByteArray).toList) = false := by rw [hT45]; exact hq2
              clear hT45
              obtain ⟨c, hc⟩ : ∃ c, (prs p).1 = c := ⟨_, rfl⟩
              cases hok : (prs p).2 with
              | false =>
                have HOK : Hid (okW p = false) := Lib.hid (by rw [HV.out, hok, decide_eq_false h45]; rfl)
                have HR : Hid (r = ([], false)) := Lib.hid (HBAD.out i p HPI.out HOK.out)
                rw [show (⟨p.toArray⟩ : ByteArray).data.toList = p from rfl, hok, hc] at HPP
                clear hll hq3 hs hnp h48 hown0
                go_wp2_with fail
                refine (HPP.out _).mono ?_
                rintro e w2 ⟨rfl, hb2⟩
                have hcell2 : w2.cell? ⟨g, i, none⟩ = some (.string ⟨p.toArray⟩) := (hb2.cell (p := ⟨g, i, none⟩) hgs).trans hcell
                have HB2 : Hid (Below w.heap.size w w2) := Lib.hid (bt HB.out hb2)
                clear hcell hb2
                go_wp2
                go_ret2
                rw [HR.out]
                exact ⟨_, rfl, own_mono (HE.out w2) HB2.out.size, HB2.out.alloc HB2.out.size _⟩
              | true =>
                rw [show (⟨p.toArray⟩ : ByteArray).data.toList = p from rfl, hok, hc] at HPP
                by_cases hpe : p = []
                · subst hpe
                  have HOK : Hid (okW [] = false) := Lib.hid rfl
                  have HR : Hid (r = ([], false)) := Lib.hid (HBAD.out i [] HPI.out HOK.out)
                  clear hll hq3 hs hnp h48 hown0
                  go_wp2_with fail
                  refine (HPP.out _).mono ?_
                  rintro e w2 ⟨rfl, hb2⟩
                  have hcell2 : w2.cell? ⟨g, i, none⟩ = some (.string ⟨#[]⟩) := (hb2.cell (p := ⟨g, i, none⟩) hgs).trans hcell
                  have HB2 : Hid (Below w.heap.size w w2) := Lib.hid (bt HB.out hb2)
                  clear hcell hb2
                  go_wp2
                  go_ret2
                  rw [HR.out]
                  exact ⟨_, rfl, own_mono (HE.out w2) HB2.out.size, HB2.out.alloc HB2.out.size _⟩
                · have hq4 : (p == []) = false := by simpa using hpe
                  have hq8 : (p == (⟨#[]⟩ : ByteArray).toList) = false := by rw [ByteArray.toList_eq]; exact hq4
                  have hq5 : p.isEmpty = false := by simpa using hpe
                  have HOK : Hid (okW p = true) := Lib.hid (by rw [HV.out, hok, decide_eq_false hpe]; simp)
                  have HVC : Hid ((val p).1 = c) := Lib.hid (by rw [HVV.out, if_neg h45, hc])
                  clear hll hq3 hs hnp h48 hown0
                  go_wp2_with fail
                  refine (HPP.out _).mono ?_
                  rintro e w2 ⟨rfl, hb2⟩
                  have hcell2 : w2.cell? ⟨g, i, none⟩ = some (.string ⟨p.toArray⟩) := (hb2.cell (p := ⟨g, i, none⟩) hgs).trans hcell
                  have HB2 : Hid (Below w.heap.size w w2) := Lib.hid (bt HB.out hb2)
                  have HG2 : Hid (w2.heap[g]? = w1.heap[g]?) := Lib.hid ((hb2.block g hgs).trans HG.out)
                  have hown : w2.ownsRow w.heap.size 3 1 u4 _ _ := own_keep HO.out hb2
                  have hz2' := hb2.size
                  have hz3' := HB.out.size
                  clear hcell hb2
                  go_wp2_with ((at_builtin; refine wpList_append_lies _ rfl _ _ 25 rfl w.heap.size 3 i0 (.int .i64 0) 1 8 Tryz.underlying25 hi hz0 hz1 hz2 rfl (by decide) _ _ _ rfl (hown.alloc _) ⟨w2.heap.size, 0, none⟩ 1 1 [.int .i64 c] rfl rfl (news_one (by simp)) (one_cell _) (by omega) (by unfold maxLen; omega) (by omega) (by simp; omega) _ rfl ?_))
                  intro g9 cap9 w3 hown' hgrow hat hlt9
                  have HO3 := Lib.hid (own_push hown')
                  have HB3 : Hid (Below w.heap.size w w3) := Lib.hid ((HB2.out.alloc (by omega) _).grown hgrow (by simp; omega) (fun k hk => (World.ownsRow.lt hown k hk).1))
                  have HG3 : Hid (w3.heap[g]? = w1.heap[g]?) := Lib.hid (by
                    rw [hgrow.block g (by simp; omega) (fun e => HD.out e.symm), heap_alloc_old _ _ (by omega)]
                    exact HG2.out)
                  have HD3 : Hid ((Value.slice (some ⟨g9, 0, none⟩) ((vals (ps.take i)).length + 1) cap9).ownBlock ≠ some g) := Lib.hid (by
                    simp only [Value.ownBlock, Option.some.injEq, ne_eq]
                    rcases hat with h | h
                    · intro e; rw [e] at h; exact HD.out h
                    · first | omega | (simp at h; omega))
                  clear hown hown' hgrow hat
                  go_wp2
                  go_roundw
                  case rel => exact ⟨i + 1, by omega, by go_num, by rw [HVS.out, HVC.out]; exact HO3.out, fun j q hj hq => by by_cases e : j = i; (subst e; rw [HPI.out] at hq; injection hq with hq; rw [← hq]; exact HOK.out); exact HA.out j q (by omega) hq, HB3.out, HG3.out, HD3.out⟩
                  case measure => simp [intOf]; omega
          · obtain rfl : i = n := by omega
            have he : ps.take i = ps := List.take_of_length_le (by rw [HN.out]; exact Nat.le_refl _)
            rw [he] at HO
            have HROW := Lib.hid (fun w (h : Own w.heap.size w u4 (vals ps)) => True.intro)
            have H2 := Lib.hid (l2Row_any u4 (vals ps) wr HO.out (by rw [vals_len, HN.out]; omega))
            rw [vals_row, HN.out] at H2
            have HALL := Lib.hid (all_okW ps (fun j q hq => HA.out j q (by have := (List.getElem?_eq_some_iff.1 hq).1; rw [HN.out] at this; exact this) hq))
            by_cases h6 : i ≤ 6
            · rw [decide_eq_true h6] at H2
              have HR := Lib.hid (HYES.out HALL.out h6)
              obtain ⟨a4, c4, rfl⟩ := own_shape HO.out
              go_wp2_with ((go_at_call 39; refine H2.out.mono ?_; rintro e w2 ⟨rfl, hb2⟩))
              go_ret2
              rw [HR.out]
              exact ⟨_, rfl, own_keep HO.out hb2, bt HB.out hb2⟩
            · rw [decide_eq_false h6] at H2
              have HR := Lib.hid (HMANY.out h6)
              obtain ⟨a4, c4, rfl⟩ := own_shape HO.out
              go_wp2_with ((go_at_call 39; refine H2.out.mono ?_; rintro e w2 ⟨rfl, hb2⟩))
              go_ret2
              rw [HR.out]
              exact ⟨_, rfl, own_mono (HE.out w2) (bt HB.out hb2).size, (bt HB.out hb2).alloc (bt HB.out hb2).size _⟩
    · have e : prow s.data.toList = ([], false) := prow_long _ (by omega)
      rw [e]
      clear e hl0 hll
      go_enter Tryz.func62, Tryz.ntmps62
      go_wp2
      go_ret2
      exact ⟨_, rfl, HE.out w, (Below.refl _ _).alloc (Nat.le_refl _) _⟩

set_option maxHeartbeats 4000000 in
theorem implParseRow_any (s : ByteArray) (m : Int) (w : World) (hs : s.size ≤ 1048576) (hm : w.cell? ⟨0, 0, none⟩ = some (.int .i64 m)) :
    Calls Tryz.prog 29 #[.string s] w fun e w' => ∃ u, e = .returned (.tuple #[u, .bool (prow s.data.toList).2]) ∧ Own w.heap.size w' u (prow s.data.toList).1 ∧ Below w.heap.size w w' := by
  by_cases h0 : s = ⟨#[]⟩
  · subst h0
    clear hm
    go_enter Tryz.func29, Tryz.ntmps29
    go_wp2
    go_ret2
    exact ⟨_, rfl, World.ownsRow_nil _ _ _ _, Below.refl _ _⟩
  · have hl0 : s.data.toList ≠ [] := fun e => h0 (ba_ext e)
    have hq3 : (s.toList == []) = false := by rw [ByteArray.toList_eq]; simpa using hl0
    have hll : s.data.toList.length = s.size := by rw [Array.length_toList]; rfl
    obtain ⟨i0, hi, hz0, hz1, hz2⟩ := info_parts info_int
    have HSP := Lib.hid (split_any s 32 m w hs hm)
    have hn0 := spl_ne 32 s.data.toList
    have hsz := spl_size 32 s.data.toList
    have hsn := spl_len 32 s.data.toList
    obtain ⟨n, hn⟩ : ∃ n, (spl 32 s.data.toList).length = n := ⟨_, rfl⟩
    have hXL := spS_length s
    have HAT := Lib.hid (fun i p h => spS_at s i p h)
    have HBAD := Lib.hid (prow_bad s.data.toList hl0)
    have HMANY := Lib.hid (prow_many s.data.toList hl0)
    have HYES := Lib.hid (prow_yes s.data.toList hl0)
    have HNOT := Lib.hid (prow_not s.data.toList hl0)
    have HTX := Lib.hid (txt_vals s.data.toList)
    have HTN := Lib.hid (txt_ne s.data.toList)
    rw [hn] at hXL HMANY HYES hsn
    have hnp : 0 < n := by
      rcases Nat.eq_zero_or_pos n with h | h
      · exact absurd (List.eq_nil_of_length_eq_zero (hn.trans h)) hn0
      · exact h
    generalize prow s.data.toList = r at HBAD HMANY HYES HNOT ⊢
    generalize spl 32 s.data.toList = ps at hn0 hsz hn HAT HBAD HMANY HYES HNOT HTX HTN
    have HN := Lib.hid hn
    have HSZ : Hid (∀ (i : Nat) p, ps[i]? = some p → p.length ≤ 1048576) := Lib.hid (fun i p h => by have := hsz p (List.mem_of_getElem? h); omega)
    have hsn' : n ≤ 1048577 := by omega
    clear hn0 hsz hn hsn hl0 hm
    go_enter Tryz.func29, Tryz.ntmps29
    go_wp2_with fail
    refine HSP.out.mono ?_
    rintro e w1 ⟨u1, rfl, ho1, hb1⟩
    rcases ownS_cases ho1 with ⟨_, he⟩ | ⟨g, cap, rfl, hg1, hg2, hg3, hg4, hgc, hgf⟩
    · rw [he] at hXL; simp at hXL; omega
    · rw [hXL]
      have HC : Hid (∀ (i : Nat) p, ps[i]? = some p → w1.cell? ⟨g, i, none⟩ = some (.string ⟨p.toArray⟩)) := Lib.hid (fun i p h => hgc i _ (HAT.out i p h))
      have HB1 := Lib.hid hb1
      have hz1' := hb1.size
      clear hgc hgf ho1 hb1 hg1 hg3 hg4 HAT hXL
      go_wp2
      go_loopw [4, 14] (fun uv iv wr => ∃ i : Nat, i ≤ n ∧ i ≤ 6 ∧ iv = .int .i64 i ∧ Own w1.heap.size wr uv (vals (ps.take i)) ∧ (∀ (j : Nat) p, j < i → ps[j]? = some p → (val p).2 = true) ∧ Below w1.heap.size w1 wr) (fun _ iv _ => n - (intOf iv).toNat)
      case atStart => exact ⟨0, by omega, by omega, rfl, World.ownsRow_nil _ _ _ _, fun j p h => absurd h (Nat.not_lt_zero _), Below.refl _ _⟩
      case round =>
        obtain ⟨i, hin, hi6', rfl, ho, hall, hb⟩ := hrel
        have HO := Lib.hid ho
        have HB := Lib.hid hb
        have HA := Lib.hid hall
        clear ho hall hb
        by_cases hlt : i < n
        · obtain ⟨p, hp⟩ : ∃ p, ps[i]? = some p := ⟨_, List.getElem?_eq_getElem (by rw [HN.out]; exact hlt)⟩
          have hcell : wr.cell? ⟨g, i, none⟩ = some (.string ⟨p.toArray⟩) := (HB.out.cell (p := ⟨g, i, none⟩) hg2).trans (HC.out i p hp)
          have hpl := HSZ.out i p hp
          have HPI := Lib.hid hp
          have HVS := Lib.hid (vals_step ps i p hp)
          have HPP := Lib.hid (fun w => implParse_any ⟨p.toArray⟩ w (by simp [ByteArray.size]; omega))
          have HVV : Hid (val p = if p = [45] then (0, true) else prs p) := Lib.hid rfl
          have hi0 : (i : Int) < (n : Int) := by omega
          clear hp
          have hT45 : (⟨#[45]⟩ : ByteArray).toList = [45] := by rw [ByteArray.toList_eq]
          by_cases h45 : p = [45]
          · subst h45
            have HOK : Hid ((val [45]).2 = true) := Lib.hid rfl
            have HV0 : Hid ((val [45]).1 = 0) := Lib.hid rfl
            by_cases h6 : i = 6
            · have HR := Lib.hid (HMANY.out (by omega))
              have hleni : (vals (ps.take i)).length = i := by rw [vals_len, List.length_take, HN.out]; omega
              have hi6 : ((i : Int) == 6) = true := by rw [beq_iff_eq]; omega
              clear h6
              obtain ⟨a4, c4, hu4⟩ := own_shape HO.out
              rw [hleni] at hu4
              subst hu4
              go_wp2_with ((go_at_call 61; refine (HPP.out _).mono ?_; rintro e w2 ⟨rfl, rfl⟩))
              go_ret2
              rw [HR.out]
              exact ⟨_, rfl, World.ownsRow_nil _ _ _ _, bt HB1.out HB.out⟩
            · have hleni : (vals (ps.take i)).length = i := by rw [vals_len, List.length_take, HN.out]; omega
              have hi6 : ((i : Int) == 6) = false := by rw [beq_eq_false_iff_ne]; omega
              obtain ⟨a4, c4, hu4⟩ := own_shape HO.out
              rw [hleni] at hu4
              subst hu4
              have hown : wr.ownsRow w1.heap.size 3 1 (.slice a4 i c4) _ _ := HO.out
              have hz3' := HB.out.size
              go_wp2_with (first | (go_at_call 61; refine (HPP.out _).mono ?_; rintro e w2 ⟨rfl, rfl⟩) | (at_builtin; refine wpList_append_own _ rfl _ _ 25 rfl w1.heap.size 3 i0 (.int .i64 0) 1 8 Tryz.underlying25 hi hz0 hz1 hz2 rfl (by decide) _ _ _ rfl (hown.alloc _) ⟨wr.heap.size, 0, none⟩ 1 1 [.int .i64 0] rfl rfl (news_one (by simp)) (one_cell _) (by unfold maxLen; omega) (by omega) (by simp; omega) ?_))
              intro v' w3 hown' hgrow _
              have HO3 := Lib.hid (own_push (ys := vals (ps.take i)) (by rw [hleni]; exact hown'))
              have HB3 : Hid (Below w1.heap.size w1 w3) := Lib.hid ((HB.out.alloc hz3' _).grown hgrow (by simp; omega) (fun k hk => (World.ownsRow.lt hown k hk).1))
              clear hown hown' hgrow
              go_wp2
              go_roundw
              case rel => exact ⟨i + 1, by omega, by omega, by go_num, by rw [HVS.out, HV0.out]; exact HO3.out, fun j q hj hq => by by_cases e : j = i; (subst e; rw [HPI.out] at hq; injection hq with hq; rw [← hq]; exact HOK.out); exact HA.out j q (by omega) hq, HB3.out⟩
              case measure => simp [intOf]; omega
          · have hq6 : (p == [45]) = false := by simpa using h45
            obtain ⟨c, hc⟩ : ∃ c, (prs p).1 = c := ⟨_, rfl⟩
            cases hok : (prs p).2 with
            | false =>
              have HR : Hid (r = ([], false)) := Lib.hid (HBAD.out i p HPI.out (okW_no p (by rw [HVV.out, if_neg h45, hok])))
              rw [show (⟨p.toArray⟩ : ByteArray).data.toList = p from rfl, hok, hc] at HPP
              go_wp2_with ((go_at_call 61; refine (HPP.out _).mono ?_; rintro e w2 ⟨rfl, rfl⟩))
              go_ret2
              rw [HR.out]
              exact ⟨_, rfl, World.ownsRow_nil _ _ _ _, bt HB1.out HB.out⟩
            | true =>
              rw [show (⟨p.toArray⟩ : ByteArray).data.toList = p from rfl, hok, hc] at HPP
              have HOK : Hid ((val p).2 = true) := Lib.hid (by rw [HVV.out, if_neg h45, hok])
              have HVC : Hid ((val p).1 = c) := Lib.hid (by rw [HVV.out, if_neg h45, hc])
              by_cases h6 : i = 6
              · have HR := Lib.hid (HMANY.out (by omega))
                have hleni : (vals (ps.take i)).length = i := by rw [vals_len, List.length_take, HN.out]; omega
                have hi6 : ((i : Int) == 6) = true := by rw [beq_iff_eq]; omega
                clear h6
                obtain ⟨a4, c4, hu4⟩ := own_shape HO.out
                rw [hleni] at hu4
                subst hu4
                go_wp2_with ((go_at_call 61; refine (HPP.out _).mono ?_; rintro e w2 ⟨rfl, rfl⟩))
                go_ret2
                rw [HR.out]
                exact ⟨_, rfl, World.ownsRow_nil _ _ _ _, bt HB1.out HB.out⟩
              · have hleni : (vals (ps.take i)).length = i := by rw [vals_len, List.length_take, HN.out]; omega
                have hi6 : ((i : Int) == 6) = false := by rw [beq_eq_false_iff_ne]; omega
                obtain ⟨a4, c4, hu4⟩ := own_shape HO.out
                rw [hleni] at hu4
                subst hu4
                have hown : wr.ownsRow w1.heap.size 3 1 (.slice a4 i c4) _ _ := HO.out
                have hz3' := HB.out.size
                go_wp2_with (first | (go_at_call 61; refine (HPP.out _).mono ?_; rintro e w2 ⟨rfl, rfl⟩) | (at_builtin; refine wpList_append_own _ rfl _ _ 25 rfl w1.heap.size 3 i0 (.int .i64 0) 1 8 Tryz.underlying25 hi hz0 hz1 hz2 rfl (by decide) _ _ _ rfl (hown.alloc _) ⟨wr.heap.size, 0, none⟩ 1 1 [.int .i64 c] rfl rfl (news_one (by simp)) (one_cell _) (by unfold maxLen; omega) (by omega) (by simp; omega) ?_))
                intro v' w3 hown' hgrow _
                have HO3 := Lib.hid (own_push (ys := vals (ps.take i)) (by rw [hleni]; exact hown'))
                have HB3 : Hid (Below w1.heap.size w1 w3) := Lib.hid ((HB.out.alloc hz3' _).grown hgrow (by simp; omega) (fun k hk => (World.ownsRow.lt hown k hk).1))
                clear hown hown' hgrow
                go_wp2
                go_roundw
                case rel => exact ⟨i + 1, by omega, by omega, by go_num, by rw [HVS.out, HVC.out]; exact HO3.out, fun j q hj hq => by by_cases e : j = i; (subst e; rw [HPI.out] at hq; injection hq with hq; rw [← hq]; exact HOK.out); exact HA.out j q (by omega) hq, HB3.out⟩
                case measure => simp [intOf]; omega
        · obtain rfl : i = n := by omega
          have he : ps.take i = ps := List.take_of_length_le (by rw [HN.out]; exact Nat.le_refl _)
          rw [he] at HO
          have HT := Lib.hid (fun w (h : Own w1.heap.size w u4 (vals ps)) => rowText_any u4 (vals ps) w h (by rw [vals_row, HN.out, decide_eq_true hi6']))
          have HVALL : Hid (∀ p ∈ ps, (val p).2 = true) := Lib.hid (fun p hp => by
            obtain ⟨j, hj⟩ := List.mem_iff_getElem?.1 hp
            exact HA.out j p (by have := (List.getElem?_eq_some_iff.1 hj).1; rw [HN.out] at this; exact this) hj)
          obtain ⟨a4, c4, rfl⟩ := own_shape HO.out
          cases hall : ps.all okW with
          | true =>
            have HR := Lib.hid (HYES.out hall hi6')
            have HTE := Lib.hid (HTX.out hall)
            generalize hq : txt (vals ps) = l at HT HTE
            have hb1 : (!decide (l = s.data.toList)) = false := by simp [HTE.out]
            have hb2 : (!(l == s.toList)) = false := by rw [ByteArray.toList_eq]; simp [HTE.out]
            have hb3 : (l == s.toList) = true := by rw [ByteArray.toList_eq]; simp [HTE.out]
            clear hq hall
            go_wp2_with ((go_at_call 56; refine (HT.out _ HO.out).mono ?_; rintro e w2 ⟨rfl, hb2⟩))
            go_ret2
            rw [HR.out]
            exact ⟨_, rfl, own_mono (own_keep HO.out hb2) HB1.out.size, bt (bt HB1.out HB.out) hb2⟩
          | false =>
            have HR := Lib.hid (HNOT.out hall)
            have HTE := Lib.hid (HTN.out HVALL.out hall)
            generalize hq : txt (vals ps) = l at HT HTE
            have hb3 : (l == s.toList) = false := by rw [ByteArray.toList_eq]; simpa using HTE.out
            clear hq hall
            go_wp2_with ((go_at_call 56; refine (HT.out _ HO.out).mono ?_; rintro e w2 ⟨rfl, hb2⟩))
            go_ret2
            rw [HR.out]
            exact ⟨_, rfl, World.ownsRow_nil _ _ _ _, bt (bt HB1.out HB.out) hb2⟩

end Go.Proofs.YthgjghgkjhkbbaaGreatDoor
