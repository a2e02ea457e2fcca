/-
  The law FnExactParseRow returns true. Conditions: some number lies in the variable MaxLen of the library.
-/
import Derived.Test.YthgjghgkjhkbbaaDoorParRowC
import Derived.Test.YthgjghgkjhkbbaaDoorSl
import Derived.Test.YthgjghgkjhkbbaaDoorRows
import Derived.Shelf.Vars
namespace Go.Proofs.YthgjghgkjhkbbaaDoor
open Go.RowKit
set_option linter.unusedVariables false


theorem facts_pr {W : World} (hL : laidMetH Tryd.prog Rows.fnExactParseRowRow.laid W) (hS : W.ShapedOpen Tryd.prog) : ∃ m, W.cell? ⟨0, 0, none⟩ = some (.int .i64 m) :=
  cell_of_shapedOpen_int (t := 3) (zero := #[.int .i64 0]) hS (of_decide_eq_true (by kernel_rfl)) (by kernel_rfl) rfl (by kernel_rfl) (by kernel_rfl) Tryd.underlying3
theorem maxlen_keep {w w' : World} {m : Int} (h : w.cell? ⟨0, 0, none⟩ = some (.int .i64 m)) (hb : Below w.heap.size w w') : w'.cell? ⟨0, 0, none⟩ = some (.int .i64 m) :=
  (hb.cell (p := ⟨0, 0, none⟩) (World.block_lt_of_cell? w _ h)).trans h
set_option maxHeartbeats 1000000 in
theorem specParRow_any (s : ByteArray) (w : World) (hs : s.size ≤ 1048576) :
    Calls Tryd.prog 12 #[.string s] w fun e w' => ∃ u, e = .returned (.tuple #[u, .bool (prow s.data.toList).2]) ∧ Own w.heap.size w' u (prow s.data.toList).1 ∧ Below w.heap.size w w' := by
  have H := Lib.hid (specParseRow_any s w hs)
  generalize (prow s.data.toList).1 = rs at H ⊢
  generalize (prow s.data.toList).2 = r at H ⊢
  go_enter Tryd.func12, Tryd.ntmps12
  go_wp2_with ((go_at_call 22; refine H.out.mono ?_; rintro e w1 ⟨u, rfl, ho, hb⟩))
  go_ret2
  exact ⟨_, rfl, ho, hb⟩
set_option maxHeartbeats 4000000 in
theorem walkParRow_in (s : ByteArray) (w : World) (hs : s.size ≤ 1048576) (m : Int) (hm : w.cell? ⟨0, 0, none⟩ = some (.int .i64 m)) :
    Calls Tryd.prog 4 #[.string s] w fun e w' => e = .returned (.bool true) ∧ Below w.heap.size w w' := by
  have H1 := Lib.hid ((fun w => specParRow_any s w hs))
  have H2 := Lib.hid ((fun w => implParseRow_any s m w hs))
  have HM := Lib.hid hm
  clear hm
  have hrl : ((prow s.data.toList).1).length ≤ 1073741824 := Nat.le_trans (prow_len _) (by decide)
  generalize (prow s.data.toList).1 = rs at H1 H2 hrl
  generalize (prow s.data.toList).2 = r0 at H1 H2
  have HR := Lib.hid hrl
  have hq8 : (0 : Int) ≤ 1 + (rs.length : Int) := by omega
  have hq8' : 1 + (rs.length : Int) ≤ 1073741825 := by omega
  clear hrl
  go_enter Tryd.func4, Tryd.ntmps4
  go_wp2_with fail
  refine (H1.out _).mono ?_
  rintro e w2 ⟨w0, rfl, hr2, hb2⟩
  go_wp2_with fail
  refine (H2.out _ (maxlen_keep HM.out hb2)).mono ?_
  rintro e w4 ⟨g0, rfl, hr4, hb4⟩
  have hB4 := bt hb2 hb4
  have hw4 := own_keep hr2 hb4
  go_wp2_with fail
  refine (eqIntS_any _ _ _ _ _ hr4 hw4 HR.out HR.out).mono ?_
  rintro e w5 ⟨rfl, hb5⟩
  rw [decide_eq_true rfl]
  have hB5 := bt hB4 hb5
  have hw5 := own_keep hw4 hb5
  have hg5 := own_keep hr4 hb5
  go_wp2_with fail
  refine (markIntS_any _ rs 1 w5 hg5 HR.out (by omega) (by omega)).mono ?_
  rintro e w10 ⟨rfl, ho10, hb10, hz10, hon10⟩
  have hB10 : Below w.heap.size w w10 := hB5.trans (hb10.mono hb2.size)
  have hw10 := own_only hw5 hon10 (own_apart hr2 hr4 (Nat.le_refl _)).2
  go_wp2_with fail
  refine (heldIntS_any _ rs.length 1 w10 ho10 HR.out (by omega) (by omega)).mono ?_
  rintro e w11 ⟨rfl, hb11⟩
  have hB11 := bt hB10 hb11
  go_wp2_with fail
  refine (H2.out _ (maxlen_keep HM.out hB11)).mono ?_
  rintro e w13 ⟨h0, rfl, hr13, hb13⟩
  have hB13 := bt hB11 hb13
  have hb1013 := bt hb11 hb13
  go_wp2_with fail
  refine (eqIntS_any _ _ _ _ _ hr13 (own_keep hw10 hb1013) HR.out HR.out).mono ?_
  rintro e w14 ⟨rfl, hb14⟩
  rw [decide_eq_true rfl]
  have hB14 := bt hB13 hb14
  go_wp2_with fail
  refine (heldIntS_any _ rs.length 1 w14 (own_keep ho10 (bt hb1013 hb14)) HR.out (by omega) (by omega)).mono ?_
  rintro e w15 ⟨rfl, hb15⟩
  have hB15 := bt hB14 hb15
  go_wp2
  go_ret
  exact ⟨rfl, hB15⟩

set_option maxHeartbeats 1000000 in
theorem walkFnExactParseRow (s : ByteArray) (w : World) (ws : s.size ≤ maxLen) (hM : ∃ m, w.cell? ⟨0, 0, none⟩ = some (.int .i64 m)) :
    Calls Tryd.prog 4 #[.string s] w fun e w' => e = .returned (.bool true) ∧ Below w.heap.size w w' := by
  obtain ⟨m, hm⟩ := hM
  by_cases hs : s.size ≤ 1048576
  · exact walkParRow_in s w hs m hm
  · unfold maxLen at ws
    go_enter Tryd.func4, Tryd.ntmps4
    go_wp2
    go_ret
    exact ⟨rfl, Below.refl _ _⟩

end Go.Proofs.YthgjghgkjhkbbaaDoor
