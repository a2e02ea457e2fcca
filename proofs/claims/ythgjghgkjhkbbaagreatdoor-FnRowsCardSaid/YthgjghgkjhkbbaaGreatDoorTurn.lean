/-
  Contracts of a row turned and mirrored (the reference and the program).
-/
import Derived.Test.YthgjghgkjhkbbaaGreatDoorRow
import Derived.Test.YthgjghgkjhkbbaaGreatDoorMoved
namespace Go.Proofs.YthgjghgkjhkbbaaGreatDoor
open Go.RowKit
set_option linter.unusedVariables false
set_option maxRecDepth 20000


/-- A row whose cells are changed, in the opposite order. -/
def tRow (f : Nat → Nat → Nat) (xs : List Int) : List Int := (xs.map fun c => (f c.toNat 7 : Int)).reverse
def fRow (f : Nat → Nat → Nat) (xs : List Int) : List Int := xs.map fun c => (f c.toNat 7 : Int)
theorem fRow_step (f : Nat → Nat → Nat) (xs : List Int) (k c : Nat) (hk : k < xs.length) (hx : xs.getD k 0 = (c : Int)) : fRow f (xs.take (k + 1)) = fRow f (xs.take k) ++ [(f c 7 : Int)] := by
  have h2 : xs[k] = (c : Int) := by simpa [List.getD, List.getElem?_eq_getElem hk] using hx
  rw [List.take_succ_eq_append_getElem hk, h2]
  unfold fRow
  rw [List.map_append]
  rfl
theorem tRow_step (f : Nat → Nat → Nat) (xs : List Int) (n k c : Nat) (hn : xs.length = n) (hk : k < n) (hx : xs.getD (n - 1 - k) 0 = (c : Int)) :
    tRow f (xs.drop (n - (k + 1))) = tRow f (xs.drop (n - k)) ++ [(f c 7 : Int)] := by
  have h1 : n - (k + 1) < xs.length := by omega
  have h2 : xs[n - (k + 1)] = (c : Int) := by
    have e : n - 1 - k = n - (k + 1) := by omega
    rw [e] at hx
    simpa [List.getD, List.getElem?_eq_getElem h1] using hx
  rw [List.drop_eq_getElem_cons h1, h2, show n - (k + 1) + 1 = n - k by omega]
  unfold tRow
  rw [List.map_cons, List.reverse_cons, Int.toNat_natCast]

set_option maxHeartbeats 2000000 in
theorem l2TurnRow_any {A : Nat} (v : Value) (xs : List Int) (w : World) (hv : Own A w v xs) (hr : isRow xs = true) :
    Calls Tryz.prog 40 #[v] w fun e w' => ∃ u, e = .returned u ∧ Own w.heap.size w' u (tRow turnFrom xs) ∧ Below w.heap.size w w' := by
  obtain ⟨i0, hi, hz0, hz1, hz2⟩ := info_parts info_int
  have hl6 := isRow_len xs hr
  have HCe := Lib.hid (isRow_cell xs hr)
  clear hr
  have HE : Hid (∀ w : World, Own w.heap.size (w.alloc (.cells #[] 3)) (.slice (some ⟨w.heap.size, 0, none⟩) 0 0) []) := fun w => World.ownsRow_lit w #[] 0 (Nat.le_refl _) (Nat.zero_le _) rfl
  rcases own_cases hv with ⟨rfl, rfl⟩ | ⟨g, cap, rfl, hg1, hg2, hg3, hg4, hgc, hgf⟩
  · go_enter Tryz.func40, Tryz.ntmps40
    go_wp2
    refine wp_loop_rounds 1 ?_
    rw [rounds_succ]
    go_wp2
    go_ret
    exact ⟨_, rfl, HE.out w, (Below.refl _ _).alloc (Nat.le_refl _) _⟩
  · generalize hn : xs.length = n at *
    have HN := Lib.hid hn
    have HC := Lib.hid hgc
    clear hgc hgf hn hv hg1 hg3 hg4
    go_enter Tryz.func40, Tryz.ntmps40
    go_wp2
    go_loopw [3, 4] (fun uv iv wr => ∃ k : Nat, k ≤ n ∧ iv = .int .i64 ((n : Int) - 1 - k) ∧ Own w.heap.size wr uv (tRow turnFrom (xs.drop (n - k))) ∧ Below w.heap.size w wr) (fun _ iv _ => ((intOf iv) + 1).toNat)
    case atStart => exact ⟨0, by omega, by simp, by rw [List.drop_eq_nil_of_le (by rw [HN.out]; exact Nat.le_refl _)]; exact HE.out w, (Below.refl _ _).alloc (Nat.le_refl _) _⟩
    case round =>
      obtain ⟨k, hk, rfl, ho, hb⟩ := hrel
      by_cases hlt : k < n
      · have hkk : n - 1 - k < n := by omega
        have hcell : wr.cell? ⟨g, n - 1 - k, none⟩ = some (.int .i64 (xs.getD (n - 1 - k) 0)) := by rw [hb.cell (p := ⟨g, n - 1 - k, none⟩) hg2]; exact HC.out _ hkk
        have hcr := HCe.out (n - 1 - k) hkk
        generalize hxi : xs.getD (n - 1 - k) 0 = x at hcell hcr
        obtain ⟨c, rfl⟩ := Int.eq_ofNat_of_zero_le hcr.1
        have hc : c < 128 := by omega
        have HX := Lib.hid hxi
        have HO := Lib.hid ho
        have HB := Lib.hid hb
        have ei : (n : Int) - 1 - (k : Int) = ((n - 1 - k : Nat) : Int) := by omega
        rw [ei]
        have hi0 : (0 : Int) ≤ ((n - 1 - k : Nat) : Int) := by omega
        generalize hq : n - 1 - k = q at *
        have HQ := Lib.hid hq
        clear hxi ho hb hcr ei hq
        go_wp2_with fail
        refine (l2Turn_any c _ hc).mono ?_
        rintro e w2 ⟨rfl, hb2⟩
        have HB2 := Lib.hid hb2
        have hown : w2.ownsRow w.heap.size 3 1 u3 _ _ := own_keep HO.out hb2
        have hsz := hb2.size
        have hsz0 := HB.out.size
        have hlen : (tRow turnFrom (xs.drop (n - k))).length ≤ 6 := by
          simp only [tRow, List.length_reverse, List.length_map, List.length_drop]; rw [HN.out]; omega
        clear hb2
        go_wp2_with ((at_builtin; refine wpList_append_own _ rfl _ _ 25 rfl w.heap.size 3 i0 (.int .i64 0) 1 8 Tryz.underlying25 hi hz0 hz1 hz2 rfl (by decide) _ _ _ rfl (hown.alloc _) ⟨w2.heap.size, 0, none⟩ 1 1 [.int .i64 (turnFrom c 7 : Nat)] rfl rfl ?c1 ?c2 ?c3 ?c4 ?c5 ?_))
        case c1 =>
          intro j u hj
          match j, hj with
          | 0, hj => simp at hj; subst hj; simp [Addr.add]
        case c2 => intro u hu; simp at hu; subst hu; rfl
        case c3 => unfold maxLen; omega
        case c4 => omega
        case c5 => simp; omega
        intro v' w3 hown' hgrow _
        have ho3 := own_push hown'
        have hb3 : Below w.heap.size w w3 := ((HB.out.trans (HB2.out.mono hsz0)).alloc (Nat.le_trans hsz0 hsz) _).grown hgrow (by simp; omega) (fun k hk => (World.ownsRow.lt hown k hk).1)
        have HO3 := Lib.hid ho3
        have HB3 := Lib.hid hb3
        clear hown hown' hgrow ho3 hb3 hlen
        go_wp2
        go_roundw
        case rel =>
          have e1 : (q : Int) - 1 = (n : Int) - 1 - ((k + 1 : Nat) : Int) := by have := HQ.out; omega
          exact ⟨k + 1, by omega, by rw [e1], by rw [tRow_step turnFrom xs n k c HN.out hlt (by rw [HQ.out]; exact HX.out)]; exact HO3.out, HB3.out⟩
        case measure => simp [intOf] <;> omega
      · obtain rfl : k = n := by omega
        rw [Nat.sub_self, List.drop_zero] at ho
        have en : (k : Int) - 1 - (k : Int) = -1 := by omega
        rw [en]
        go_wp2
        go_ret
        exact ⟨_, rfl, ho, hb⟩

end Go.Proofs.YthgjghgkjhkbbaaGreatDoor
