/-
  Contract of the program's backwards at turned (or mirrored) cells.
-/
import Derived.Test.YthgjghgkjhkbbaaGreatDoorTurn
import Derived.Test.YthgjghgkjhkbbaaGreatDoorShelf
namespace Go.Proofs.YthgjghgkjhkbbaaGreatDoor
open Go.RowKit
set_option linter.unusedVariables false
set_option maxRecDepth 20000


set_option maxHeartbeats 1000000 in
theorem reverse_any {B : Nat} (v : Value) (xs : List Int) (w : World) (hv : Own B w v xs) (hx : xs.length ≤ 1073741824) :
    Calls Tryz.prog 67 #[v] w fun e w' => e = .returned (.tuple #[]) ∧ Own B w' v xs.reverse ∧ Below B w w' := by
  rcases own_cases hv with ⟨rfl, rfl⟩ | ⟨g, cap, rfl, hg1, hg2, hg3, hg4, hgc, hgf⟩
  · refine (Tryz.slices_Reverse_int_empty none 0 w).mono ?_
    rintro e w1 ⟨rfl, rfl⟩
    exact ⟨rfl, hv, Below.refl _ _⟩
  · refine (Tryz.slices_Reverse_int_cells g 0 xs.length cap xs w (Nat.le_refl _) (by omega) (fun j hj => by rw [Nat.zero_add]; exact hgc j hj) (fun j _ => by rw [Nat.zero_add]; exact hgf j)).mono ?_
    rintro e w1 ⟨rfl, q, rfl⟩
    rw [List.take_length]
    refine ⟨rfl, ?_, below_setCells' hg1 _ _ _ ((below_drewN w q).mono (Nat.le_of_lt (Nat.lt_of_le_of_lt hg1 hg2)))⟩
    have h1 := own_setCells (B := B) (g := g) (cap := cap) xs.reverse 0 (w.drewN q) xs (by rw [List.length_reverse]; omega) (own_keep hv (below_drewN w q))
    rw [List.take_zero, List.nil_append] at h1
    exact h1

set_option maxHeartbeats 2000000 in
theorem backTurned_any {A : Nat} (v : Value) (xs : List Int) (w : World) (hv : Own A w v xs) (hr : isRow xs = true) :
    Calls Tryz.prog 37 #[v, .func (.func 38) #[] #[]] w fun e w' => ∃ u, e = .returned u ∧ Own w.heap.size w' u (tRow turnFrom xs) ∧ Below w.heap.size w w' := by
  obtain ⟨i0, hi, hz0, hz1, hz2⟩ := info_parts info_int
  have hl6 := isRow_len xs hr
  have HCe := Lib.hid (isRow_cell xs hr)
  clear hr
  rcases own_cases hv with ⟨rfl, rfl⟩ | ⟨g, cap, rfl, hg1, hg2, hg3, hg4, hgc, hgf⟩
  · go_enter Tryz.func37, Tryz.ntmps37
    go_wp2
    refine wp_loop_rounds 1 ?_
    rw [rounds_succ]
    go_wp2_with ((go_at_call 67; refine (reverse_any (B := w.heap.size) _ [] _ (World.ownsRow_nil _ _ _ _) (by simp)).mono ?_; rintro e w1 ⟨rfl, ho1, hb1⟩))
    go_ret
    exact ⟨_, rfl, ho1, hb1⟩
  · generalize hn : xs.length = n at *
    have HN := Lib.hid hn
    have HC := Lib.hid hgc
    clear hgc hgf hn hv hg1 hg3 hg4
    go_enter Tryz.func37, Tryz.ntmps37
    go_wp2
    go_loopw [5, 10] (fun uv iv wr => ∃ k : Nat, k ≤ n ∧ iv = .int .i64 k ∧ Own w.heap.size wr uv (fRow turnFrom (xs.take k)) ∧ Below w.heap.size w wr) (fun _ iv _ => n - (intOf iv).toNat)
    case atStart => exact ⟨0, by omega, rfl, World.ownsRow_nil _ _ _ _, Below.refl _ _⟩
    case round =>
      obtain ⟨k, hk, rfl, ho, hb⟩ := hrel
      by_cases hlt : k < n
      · have hcell : wr.cell? ⟨g, k, none⟩ = some (.int .i64 (xs.getD k 0)) := by rw [hb.cell (p := ⟨g, k, none⟩) hg2]; exact HC.out _ hlt
        have hcr := HCe.out k hlt
        generalize hxi : xs.getD k 0 = x at hcell hcr
        obtain ⟨c, rfl⟩ := Int.eq_ofNat_of_zero_le hcr.1
        have hc : c < 128 := by omega
        have HX := Lib.hid hxi
        have HO := Lib.hid ho
        have HB := Lib.hid hb
        clear hxi ho hb hcr
        go_wp2_with fail
        refine (turned_any c _ hc).mono ?_
        rintro e w2 ⟨rfl, hb2⟩
        have HB2 := Lib.hid hb2
        have hown : w2.ownsRow w.heap.size 3 1 u5 _ _ := own_keep HO.out hb2
        have hsz := hb2.size
        have hsz0 := HB.out.size
        have hlen : (fRow turnFrom (xs.take k)).length ≤ 6 := by
          simp only [fRow, List.length_map, List.length_take]; omega
        clear hb2
        go_wp2_with ((at_builtin; refine wpList_append_own _ rfl _ _ 25 rfl w.heap.size 3 i0 (.int .i64 0) 1 8 Tryz.underlying25 hi hz0 hz1 hz2 rfl (by decide) _ _ _ rfl (hown.alloc _) ⟨w2.heap.size, 0, none⟩ 1 1 [.int .i64 (turnFrom c 7 : Nat)] rfl rfl ?c1 ?c2 ?c3 ?c4 ?c5 ?_))
        case c1 =>
          intro j u hj
          match j, hj with
          | 0, hj => simp at hj; subst hj; simp [Addr.add]
        case c2 => intro u hu; simp at hu; subst hu; rfl
        case c3 => unfold maxLen; omega
        case c4 => omega
        case c5 => simp; omega
        intro v' w3 hown' hgrow _
        have ho3 := own_push hown'
        have hb3 : Below w.heap.size w w3 := ((HB.out.trans (HB2.out.mono hsz0)).alloc (Nat.le_trans hsz0 hsz) _).grown hgrow (by simp; omega) (fun k hk => (World.ownsRow.lt hown k hk).1)
        have HO3 := Lib.hid ho3
        have HB3 := Lib.hid hb3
        clear hown hown' hgrow ho3 hb3 hlen
        go_wp2
        go_roundw
        case rel => exact ⟨k + 1, by omega, by go_num, by rw [fRow_step turnFrom xs k c (by rw [HN.out]; exact hlt) HX.out]; exact HO3.out, HB3.out⟩
        case measure => simp [intOf]; omega
      · obtain rfl : k = n := by omega
        have he : xs.take k = xs := List.take_of_length_le (by rw [HN.out]; exact Nat.le_refl _)
        rw [he] at ho
        have hfl : (fRow turnFrom xs).length ≤ 1073741824 := by simp only [fRow, List.length_map]; rw [HN.out]; omega
        have HR := Lib.hid (reverse_any _ _ _ ho hfl)
        have HB := Lib.hid hb
        obtain ⟨a5, c5, rfl⟩ := own_shape ho
        clear ho hb he
        go_wp2_with ((go_at_call 67; refine HR.out.mono ?_; rintro e w1 ⟨rfl, ho1, hb1⟩))
        go_ret
        exact ⟨_, rfl, ho1, HB.out.trans hb1⟩

end Go.Proofs.YthgjghgkjhkbbaaGreatDoor
