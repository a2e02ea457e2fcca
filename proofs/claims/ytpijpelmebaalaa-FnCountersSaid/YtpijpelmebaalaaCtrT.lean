/-
  Contract: the row that a counter shows (the reference). Condition: the counter is one.
-/
import Derived.Test.YtpijpelmebaalaaCtrS
namespace Go.Proofs.Ytpijpelmebaalaa
open Go.RowKit
set_option linter.unusedVariables false


set_option maxHeartbeats 1000000 in
theorem l4Row_any (n k : Nat) (w : World) (hk1 : 1 ≤ k) (hk : k ≤ 6) (hn : n < pw k) :
    Calls Try.prog 55 #[.int .i64 (n : Int), .int .i64 (k : Int)] w fun e w' => ∃ u, e = .returned u ∧ Own w.heap.size w' u (cRow n k) ∧ Below w.heap.size w w' := by
  obtain ⟨i0, hi, hz0, hz1, hz2⟩ := info_parts info_int
  have hn6 : n < 1000000 := Nat.lt_of_lt_of_le hn (pw_le k hk).2
  have HR := Lib.hid (fun w => l2RowOf_any n w hn6)
  have hle := nd_le n k hk1 hk hn
  have hge := (nd_rng n).1
  have HLT := Lib.hid (nd_lt n hn6)
  have HD := Lib.hid (fun w => l2Digit_any 0 w (by decide))
  have e63 : dig.getD 0 0 = 63 := rfl
  rw [e63] at HD
  generalize nd n = z at HR hle hge HLT
  clear hn hn6 e63
  go_enter Try.func55, Try.ntmps55
  go_wp2_with fail
  refine (HR.out _).mono ?_
  rintro e w1 ⟨u1, rfl, ho1, hb1⟩
  have HO1 := Lib.hid ho1
  have HB1 := Lib.hid hb1
  clear ho1 hb1
  go_wp2
  go_loopw [5] (fun uv wr => ∃ j : Nat, z ≤ j ∧ j ≤ k ∧ Own w.heap.size wr uv (cRow n j) ∧ Below w.heap.size w wr) (fun uv _ => match uv with | .slice _ l _ => k - l | _ => 0)
  case atStart => exact ⟨z, by omega, hle, HO1.out, HB1.out⟩
  case round =>
    obtain ⟨j, hj, hjk, ho, hb⟩ := hrel
    have hxl := cRow_len n j
    by_cases hlt : j < k
    · have hR := cRow_pad n j (Nat.lt_of_lt_of_le HLT.out (pw_mono hj))
      generalize cRow n j = xs at ho hR hxl
      have HR := Lib.hid hR
      rcases own_cases ho with ⟨rfl, rfl⟩ | ⟨g, cap, rfl, hg1, hg2, hg3, hg4, hgc, hgf⟩
      · simp at hxl; omega
      · have HO := Lib.hid ho
        have HB := Lib.hid hb
        rw [hxl] at HO ⊢
        have HX := Lib.hid hxl
        clear ho hb hg1 hg3 hg4 hgc hgf hR hxl
        go_wp2_with fail
        refine (HD.out _).mono ?_
        rintro e w2 ⟨rfl, hb2⟩
        have HB2 := Lib.hid hb2
        have hsz0 := HB.out.size
        have hsz := hb2.size
        have HOW : Hid ((w2.alloc (.cells #[.int .i64 63] 3)).ownsRow w.heap.size 3 1 (.slice (some ⟨w2.heap.size, 0, none⟩) 1 1) 1 [.int .i64 63]) := World.ownsRow_lit w2 #[.int .i64 63] 1 (Nat.le_trans hsz0 hsz) (by decide) rfl
        have HN := Lib.hid (own_news (xs := xs) (cap := cap) (.cells #[.int .i64 63] 3) (by rw [HX.out]; exact HO.out) hb2)
        have H1 := Lib.hid (ones xs)
        have hl0 : (xs.map (Value.int .i64)).length = j * 1 := by simp [HX.out]
        have HL := Lib.hid hl0
        clear hb2 hl0
        go_wp2_with ((at_builtin; refine wpList_append_own _ rfl _ _ 22 rfl w.heap.size 3 i0 (.int .i64 0) 1 8 Try.underlying22 hi hz0 hz1 hz2 rfl (by decide) _ 1 [.int .i64 63] rfl HOW.out ⟨g, 0, none⟩ j cap (xs.map (Value.int .i64)) rfl HL.out HN.out H1.out ?c3 ?c4 ?c5 ?_))
        case c3 => unfold maxLen; omega
        case c4 => omega
        case c5 => simp; omega
        intro v' w3 hown' hgrow _
        have ho3 : Own w.heap.size w3 v' (63 :: xs) := own_cat (xs := [63]) (ys := xs) (by rw [HX.out]; exact hown')
        have hb3 : Below w.heap.size w w3 := ((HB.out.trans (HB2.out.mono hsz0)).alloc (Nat.le_trans hsz0 hsz) _).grown hgrow (by simp; omega) (fun k hk => (World.ownsRow.lt HOW.out k hk).1)
        have HO3 := Lib.hid ho3
        have HB3 := Lib.hid hb3
        clear hown' hgrow ho3 hb3
        obtain ⟨a3, c3, rfl⟩ := own_shape HO3.out
        go_wp2
        go_roundw
        case rel => exact ⟨j + 1, by omega, by omega, by rw [HR.out]; exact HO3.out, HB3.out⟩
        case measure => simp [HX.out]; omega
    · obtain rfl : j = k := by omega
      have HB := Lib.hid hb
      obtain ⟨a3, c3, rfl⟩ := own_shape ho
      rw [hxl] at ho ⊢
      have HO := Lib.hid ho
      clear ho hb hxl
      go_wp2
      go_ret
      exact ⟨_, rfl, HO.out, HB.out⟩

end Go.Proofs.Ytpijpelmebaalaa
