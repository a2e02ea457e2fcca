/-
  Contract of the text of a row (the program). Condition: a row that the call owns.
-/
import Derived.Test.YthgjghgkjhkbbaaGreatDoorText
import Derived.Test.YthgjghgkjhkbbaaGreatDoorShelf
namespace Go.Proofs.YthgjghgkjhkbbaaGreatDoor
open Go.RowKit
set_option linter.unusedVariables false
set_option maxRecDepth 20000


theorem join_any {B : Nat} (v : Value) (xs : List ByteArray) (w : World) (hv : OwnS B w v xs) (hn : xs.length ≤ 1000000) (hl : (Lib.join (xs.map (·.data.toList)) [32]).length ≤ 140737488355328) :
    Calls Tryz.prog 79 #[v, .string ⟨#[32]⟩] w fun e w' => e = .returned (.string ⟨(Lib.join (xs.map (·.data.toList)) [32]).toArray⟩) ∧ Below w.heap.size w w' := by
  rcases ownS_cases hv with ⟨rfl, rfl⟩ | ⟨g, cap, rfl, hg1, hg2, hg3, hg4, hgc, hgf⟩
  · refine (Tryz.strings_Join_none none 0 ⟨#[32]⟩ w).mono ?_
    rintro e w1 ⟨rfl, rfl⟩
    exact ⟨rfl, Below.refl _ _⟩
  · exact Tryz.strings_Join g 0 cap xs ⟨#[32]⟩ w (fun j x h => by rw [Nat.zero_add]; exact hgc j x h) hg2 (by omega) hg3 hl

theorem ones_str (b : ByteArray) : ∀ u ∈ [Value.string b], u.oneCell' = true := by
  intro u hu; simp at hu; subst hu; rfl
theorem news_str {w : World} {g : Nat} {b : ByteArray} (h : w.cell? ⟨g, 0, none⟩ = some (.string b)) : ∀ j u, [Value.string b][j]? = some u → w.cell? ((⟨g, 0, none⟩ : Addr).add j) = some u := by
  intro j u hj
  match j, hj with
  | 0, hj => simp at hj; subst hj; simpa [Addr.add] using h

set_option maxHeartbeats 4000000 in
theorem rowText_any {A : Nat} (v : Value) (xs : List Int) (w : World) (hv : Own A w v xs) (hr : isRow xs = true) :
    Calls Tryz.prog 56 #[v] w fun e w' => e = .returned (.string ⟨(txt xs).toArray⟩) ∧ Below w.heap.size w w' := by
  obtain ⟨i0, hi, hz0, hz1, hz2⟩ := info_parts info_str
  have hl6 := isRow_len xs hr
  have HCe := Lib.hid (isRow_cell xs hr)
  clear hr
  have HJ : Hid (∀ (u : Value) w1, OwnS w.heap.size w1 u (wds xs) → Calls Tryz.prog 79 #[u, .string ⟨#[32]⟩] w1 fun e w' => e = .returned (.string ⟨(txt xs).toArray⟩) ∧ Below w1.heap.size w1 w') := Lib.hid fun u w1 h => by
    have := join_any u (wds xs) w1 h (by rw [wds_len]; omega) (by rw [wds_txt]; have := txt_len xs; omega)
    rw [wds_txt] at this
    exact this
  rcases own_cases hv with ⟨rfl, rfl⟩ | ⟨g, cap, rfl, hg1, hg2, hg3, hg4, hgc, hgf⟩
  · go_enter Tryz.func56, Tryz.ntmps56
    go_wp2
    refine wp_loop_rounds 1 ?_
    rw [rounds_succ]
    go_wp2_with ((go_at_call 79; refine (HJ.out _ _ (ownS_nil _ _)).mono ?_; rintro e w1 ⟨rfl, hb1⟩))
    go_ret
    exact ⟨rfl, hb1⟩
  · generalize hn : xs.length = n at *
    have HN := Lib.hid hn
    have HC := Lib.hid hgc
    clear hgc hgf hn hv hg1 hg3 hg4
    go_enter Tryz.func56, Tryz.ntmps56
    go_wp2
    go_loopw [3, 8] (fun uv iv wr => ∃ k : Nat, k ≤ n ∧ iv = .int .i64 k ∧ OwnS w.heap.size wr uv (wds (xs.take k)) ∧ Below w.heap.size w wr) (fun _ iv _ => n - (intOf iv).toNat)
    case atStart => exact ⟨0, by omega, rfl, ownS_nil _ _, Below.refl _ _⟩
    case round =>
      obtain ⟨k, hk, rfl, ho, hb⟩ := hrel
      by_cases hlt : k < n
      · have hcell : wr.cell? ⟨g, k, none⟩ = some (.int .i64 (xs.getD k 0)) := by rw [hb.cell (p := ⟨g, k, none⟩) hg2]; exact HC.out _ hlt
        have hcr := HCe.out k hlt
        obtain ⟨x, hx⟩ : ∃ x, xs.getD k 0 = x := ⟨_, rfl⟩
        rw [hx] at hcell hcr
        have HS := Lib.hid (wds_step xs k x (by rw [HN.out]; exact hlt) hx)
        obtain ⟨c, rfl⟩ := Int.eq_ofNat_of_zero_le hcr.1
        have hc : c < 128 := by omega
        have HBA := Lib.hid (barsOf_any c)
        have HW : Hid (wordC (c : Int) = if c = 0 then [45] else bars c 7) := wordC_nat c
        have hlen : (wds (xs.take k)).length ≤ 6 := by rw [wds_len, List.length_take]; omega
        have HO := Lib.hid ho
        have HB := Lib.hid hb
        have hsz0 := hb.size
        clear hx hcr ho hb
        by_cases hc0 : c = 0
        · subst hc0
          have HW2 : Hid (wordC ((0 : Nat) : Int) = [45]) := Lib.hid (by rw [HW.out, if_pos rfl])
          have hown : wr.ownsRow w.heap.size 9 1 u3 _ _ := HO.out
          go_wp2_with ((at_builtin; refine wpList_append_own _ rfl _ _ 55 rfl w.heap.size 9 i0 (.string ⟨#[]⟩) 1 16 Tryz.underlying55 hi hz0 hz1 hz2 rfl (by decide) _ _ _ rfl (hown.alloc _) ⟨wr.heap.size, 0, none⟩ 1 1 [.string ⟨#[45]⟩] rfl rfl (news_str (by simp)) (ones_str _) (by unfold maxLen; omega) (by omega) (by simp; omega) ?_))
          intro v' w3 hown' hgrow _
          have HO3 := Lib.hid (ownS_push hown')
          have HB3 : Hid (Below w.heap.size w w3) := Lib.hid ((HB.out.alloc hsz0 _).grown hgrow (by simp; omega) (fun k hk => (World.ownsRow.lt hown k hk).1))
          clear hown hown' hgrow hlen
          go_wp2
          go_roundw
          case rel => exact ⟨k + 1, by omega, by go_num, by rw [HS.out, HW2.out]; exact HO3.out, HB3.out⟩
          case measure => simp [intOf]; omega
        · have hb1 : ((c : Int) == 0) = false := by simpa using hc0
          have HW2 : Hid (wordC (c : Int) = bars c 7) := Lib.hid (by rw [HW.out, if_neg hc0])
          clear hc0
          generalize bars c 7 = t at HBA HW2
          go_wp2_with fail
          refine (HBA.out _ hc).mono ?_
          rintro e w2 ⟨rfl, rfl⟩
          have hown : wr.ownsRow w.heap.size 9 1 u3 _ _ := HO.out
          go_wp2_with ((at_builtin; refine wpList_append_own _ rfl _ _ 55 rfl w.heap.size 9 i0 (.string ⟨#[]⟩) 1 16 Tryz.underlying55 hi hz0 hz1 hz2 rfl (by decide) _ _ _ rfl (hown.alloc _) ⟨wr.heap.size, 0, none⟩ 1 1 [.string ⟨t.toArray⟩] rfl rfl (news_str (by simp)) (ones_str _) (by unfold maxLen; omega) (by omega) (by simp; omega) ?_))
          intro v' w3 hown' hgrow _
          have HO3 := Lib.hid (ownS_push hown')
          have HB3 : Hid (Below w.heap.size w w3) := Lib.hid ((HB.out.alloc hsz0 _).grown hgrow (by simp; omega) (fun k hk => (World.ownsRow.lt hown k hk).1))
          clear hown hown' hgrow hlen
          go_wp2
          go_roundw
          case rel => exact ⟨k + 1, by omega, by go_num, by rw [HS.out, HW2.out]; exact HO3.out, HB3.out⟩
          case measure => simp [intOf]; omega
      · obtain rfl : k = n := by omega
        have he : xs.take k = xs := List.take_of_length_le (by rw [HN.out]; exact Nat.le_refl _)
        rw [he] at ho
        have HO := Lib.hid ho
        have HB := Lib.hid hb
        obtain ⟨a5, c5, rfl⟩ := ownS_shape ho
        clear ho hb he
        go_wp2_with ((go_at_call 79; refine (HJ.out _ _ HO.out).mono ?_; rintro e w1 ⟨rfl, hb1⟩))
        go_ret
        exact ⟨rfl, HB.out.trans (hb1.mono HB.out.size)⟩

end Go.Proofs.YthgjghgkjhkbbaaGreatDoor
