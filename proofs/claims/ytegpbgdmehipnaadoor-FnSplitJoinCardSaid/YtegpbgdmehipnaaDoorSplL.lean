/-
  The law FnExactSplitString returns true. Condition: some number lies in the variable MaxLen of the library.
-/
import Derived.Test.YtegpbgdmehipnaaDoorSplitC
import Derived.Test.YtegpbgdmehipnaaDoorMarkS
import Derived.Test.YtegpbgdmehipnaaDoorToS
import Derived.Test.YtegpbgdmehipnaaDoorJoinC
import Derived.Test.YtegpbgdmehipnaaDoorRows
import Derived.Shelf.Vars
namespace Go.Proofs.YtegpbgdmehipnaaDoor
open Go.RowKit
set_option linter.unusedVariables false


theorem facts_ss {W : World} (hL : laidMetH Tryd.prog Rows.fnExactSplitStringRow.laid W) (hS : W.ShapedOpen Tryd.prog) : ∃ m, W.cell? ⟨0, 0, none⟩ = some (.int .i64 m) :=
  cell_of_shapedOpen_int (t := 3) (zero := #[.int .i64 0]) hS (of_decide_eq_true (by kernel_rfl)) (by kernel_rfl) rfl (by kernel_rfl) (by kernel_rfl) Tryd.underlying3
theorem maxlenK {w w' : World} {m : Int} (h : w.cell? ⟨0, 0, none⟩ = some (.int .i64 m)) (hb : Below w.heap.size w w') : w'.cell? ⟨0, 0, none⟩ = some (.int .i64 m) :=
  (hb.cell (p := ⟨0, 0, none⟩) (World.block_lt_of_cell? w _ h)).trans h
theorem one_byte2 (sep : ByteArray) (h : sep.size = 1) : ∃ c : UInt8, sep = ⟨#[c]⟩ := by
  obtain ⟨⟨l⟩⟩ := sep
  cases l with
  | nil => simp [ByteArray.size] at h
  | cons c t =>
    cases t with
    | nil => exact ⟨c, rfl⟩
    | cons _ _ => simp [ByteArray.size] at h
def ssI (s sep : ByteArray) : List ByteArray × Bool := if h : sep.size = 1 then (if s.size ≤ 4000 then (spS (sep[0]'(by omega)) s, true) else ([], false)) else ([], false)
theorem ssI_len (s sep : ByteArray) : (ssI s sep).1.length ≤ 4001 := by
  unfold ssI
  split
  · split
    · have := spS_len (sep[0]'(by omega)) s; simp; omega
    · simp
  · simp
set_option maxHeartbeats 1000000 in
theorem specSplit_any (s sep : ByteArray) (w : World) (hs : s.size ≤ 1048576) (hp : sep.size ≤ 1048576) :
    Calls Tryd.prog 14 #[.string s, .string sep] w fun e w' => ∃ u, e = .returned (.tuple #[u, .bool (ssI s sep).2]) ∧ OwnS w.heap.size w' u (ssI s sep).1 ∧ Below w.heap.size w w' := by
  have HE : Hid (OwnS w.heap.size (w.alloc (.cells #[] 9)) (.slice (some ⟨w.heap.size, 0, none⟩) 0 0) []) := Lib.hid (World.ownsRow_lit w #[] 0 (Nat.le_refl _) (Nat.zero_le _) rfl)
  by_cases h1 : sep.size = 1
  · obtain ⟨b, rfl⟩ := one_byte2 sep h1
    by_cases h4 : s.size ≤ 4000
    · have e : ssI s ⟨#[b]⟩ = (spS b s, true) := by unfold ssI; rw [dif_pos h1, if_pos h4]; rfl
      rw [e]
      have H := Lib.hid (fun w => l1Split_any s b w hs)
      generalize spS b s = xs at H ⊢
      clear e h1
      go_enter Tryd.func14, Tryd.ntmps14
      go_wp2_with ((go_at_call 41; refine (H.out _).mono ?_; rintro e w1 ⟨u, rfl, ho, hb⟩))
      go_ret2
      exact ⟨_, rfl, ho, hb⟩
    · have e : ssI s ⟨#[b]⟩ = ([], false) := by unfold ssI; rw [dif_pos h1, if_neg h4]
      rw [e]
      clear e h1
      go_enter Tryd.func14, Tryd.ntmps14
      go_wp2
      go_ret2
      exact ⟨_, rfl, HE.out, (Below.refl _ _).alloc (Nat.le_refl _) _⟩
  · have e : ssI s sep = ([], false) := dif_neg h1
    rw [e]
    have hne : ((sep.size : Int) == 1) = false := by rw [beq_eq_false_iff_ne]; omega
    have hne2 : ((sep.size : Int) != 1) = true := by rw [bne_iff_ne]; omega
    clear e
    go_enter Tryd.func14, Tryd.ntmps14
    go_wp2
    go_ret2
    exact ⟨_, rfl, HE.out, (Below.refl _ _).alloc (Nat.le_refl _) _⟩
set_option maxHeartbeats 1000000 in
theorem implSplit_any (s sep : ByteArray) (m : Int) (w : World) (hs : s.size ≤ 1048576) (hp : sep.size ≤ 1048576) (hm : w.cell? ⟨0, 0, none⟩ = some (.int .i64 m)) :
    Calls Tryd.prog 15 #[.string s, .string sep] w fun e w' => ∃ u, e = .returned (.tuple #[u, .bool (ssI s sep).2]) ∧ OwnS w.heap.size w' u (ssI s sep).1 ∧ Below w.heap.size w w' := by
  by_cases h4 : s.size ≤ 4000
  · by_cases h1 : sep.size = 1
    · obtain ⟨b, rfl⟩ := one_byte2 sep h1
      have e : ssI s ⟨#[b]⟩ = (spS b s, true) := by unfold ssI; rw [dif_pos h1, if_pos h4]; rfl
      rw [e]
      have H := Lib.hid (split_any s b m w hs hm)
      generalize spS b s = xs at H ⊢
      clear e h1 hm
      go_enter Tryd.func15, Tryd.ntmps15
      go_wp2_with ((go_at_call 42; refine H.out.mono ?_; rintro e w1 ⟨u, rfl, ho, hb⟩))
      go_ret2
      exact ⟨_, rfl, ho, hb⟩
    · have e : ssI s sep = ([], false) := dif_neg h1
      rw [e]
      have hne : ((sep.size : Int) == 1) = false := by rw [beq_eq_false_iff_ne]; omega
      have hne2 : ((sep.size : Int) != 1) = true := by rw [bne_iff_ne]; omega
      clear e hm
      go_enter Tryd.func15, Tryd.ntmps15
      go_wp2
      go_ret2
      exact ⟨_, rfl, ownS_nil _ _, Below.refl _ _⟩
  · have e : ssI s sep = ([], false) := by
      unfold ssI
      split
      · first | rfl | rw [if_neg h4]
      · rfl
    rw [e]
    clear e hm
    go_enter Tryd.func15, Tryd.ntmps15
    go_wp2
    go_ret2
    exact ⟨_, rfl, ownS_nil _ _, Below.refl _ _⟩

set_option maxHeartbeats 4000000 in
theorem walkSplit_in (s sep : ByteArray) (w : World) (hs : s.size ≤ 1048576) (hp : sep.size ≤ 1048576) (m : Int) (hm : w.cell? ⟨0, 0, none⟩ = some (.int .i64 m)) :
    Calls Tryd.prog 5 #[.string s, .string sep] w fun e w' => e = .returned (.bool true) ∧ Below w.heap.size w w' := by
  have H1 := Lib.hid (fun w => specSplit_any s sep w hs hp)
  have H2 := Lib.hid (fun w => implSplit_any s sep m w hs hp)
  have HM := Lib.hid hm
  have hrl := ssI_len s sep
  generalize (ssI s sep).1 = rs at H1 H2 hrl
  generalize (ssI s sep).2 = r at H1 H2
  have HR := Lib.hid (show rs.length ≤ 1073741824 by omega)
  have HR2 := Lib.hid (show rs.length ≤ 1048577 by omega)
  have hq8 : (0 : Int) ≤ ((1 + rs.length : Nat) : Int) := by omega
  have hq8' : ((1 + rs.length : Nat) : Int) ≤ 1073741825 := by omega
  clear hrl hm
  go_enter Tryd.func5, Tryd.ntmps5
  go_wp2_with fail
  refine (H1.out _).mono ?_
  rintro e w2 ⟨w0, rfl, hr2, hb2⟩
  go_wp2_with fail
  refine (H2.out _ (maxlenK HM.out hb2)).mono ?_
  rintro e w4 ⟨g0, rfl, hr4, hb4⟩
  have hB4 := bt hb2 hb4
  have hw4 := ownS_keep hr2 hb4
  go_wp2_with fail
  refine (eqStringS_same _ _ _ _ hr4 hw4 HR.out).mono ?_
  rintro e w5 ⟨rfl, hb5⟩
  have hB5 := bt hB4 hb5
  have hw5 := ownS_keep hw4 hb5
  have hg5 := ownS_keep hr4 hb5
  go_wp2_with fail
  refine (markStringS_any _ rs 1 w5 hg5 HR2.out (by omega) (by omega)).mono ?_
  rintro e w10 ⟨rfl, ho10, hb10, hon10⟩
  have hB10 : Below w.heap.size w w10 := hB5.trans (hb10.mono hb2.size)
  have hap := (ownS_apart hr2 hr4 (Nat.le_refl _)).1
  have hw10 : OwnS w.heap.size w10 w0 rs := by
    obtain ⟨hl, hv | ⟨g', cap', cur', hv, hbg, hg, rr⟩⟩ := hw5
    · exact ⟨hl, .inl hv⟩
    · refine ⟨hl, .inr ⟨g', cap', cur', hv, hbg, ?_, rr⟩⟩
      rw [hon10 g' (by have := (Array.getElem?_eq_some_iff.1 hg).1; exact this) (fun e => by
        have h1 := hap g' e
        rw [hv] at h1
        exact h1 rfl)]
      exact hg
  go_wp2_with fail
  refine (heldStringS_any _ rs.length 1 w10 ho10 HR2.out (by omega) (by omega)).mono ?_
  rintro e w11 ⟨rfl, hb11⟩
  have hB11 := bt hB10 hb11
  go_wp2_with fail
  refine (H2.out _ (maxlenK HM.out hB11)).mono ?_
  rintro e w13 ⟨h0, rfl, hr13, hb13⟩
  have hB13 := bt hB11 hb13
  have hb1013 := bt hb11 hb13
  go_wp2_with fail
  refine (eqStringS_same _ _ _ _ hr13 (ownS_keep hw10 hb1013) HR.out).mono ?_
  rintro e w14 ⟨rfl, hb14⟩
  have hB14 := bt hB13 hb14
  go_wp2_with fail
  refine (heldStringS_any _ rs.length 1 w14 (ownS_keep ho10 (bt hb1013 hb14)) HR2.out (by omega) (by omega)).mono ?_
  rintro e w15 ⟨rfl, hb15⟩
  have hB15 := bt hB14 hb15
  go_wp2
  go_ret
  exact ⟨rfl, hB15⟩

set_option maxHeartbeats 1000000 in
theorem walkFnExactSplitString (s sep : ByteArray) (w : World) (ws : s.size ≤ maxLen) (wp : sep.size ≤ maxLen) (hM : ∃ m, w.cell? ⟨0, 0, none⟩ = some (.int .i64 m)) :
    Calls Tryd.prog 5 #[.string s, .string sep] w fun e w' => e = .returned (.bool true) ∧ Below w.heap.size w w' := by
  obtain ⟨m, hm⟩ := hM
  unfold maxLen at ws wp
  by_cases hs : s.size ≤ 1048576
  · by_cases hp : sep.size ≤ 1048576
    · exact walkSplit_in s sep w hs hp m hm
    · go_enter Tryd.func5, Tryd.ntmps5
      go_wp2
      go_ret
      exact ⟨rfl, Below.refl _ _⟩
  · go_enter Tryd.func5, Tryd.ntmps5
    go_wp2
    go_ret
    exact ⟨rfl, Below.refl _ _⟩

end Go.Proofs.YtegpbgdmehipnaaDoor
