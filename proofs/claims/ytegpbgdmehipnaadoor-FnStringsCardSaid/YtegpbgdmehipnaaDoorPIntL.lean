/-
  The law FnExactParseInt returns true. Condition: the table of the powers of ten and the two errors lie as the program lays them.
-/
import Derived.Test.YtegpbgdmehipnaaDoorPIntC
import Derived.Test.YtegpbgdmehipnaaDoorFacts
import Derived.Test.YtegpbgdmehipnaaDoorShelf
import Derived.Lib.AtoiErrMem
namespace Go.Proofs.YtegpbgdmehipnaaDoor
open Go.RowKit
set_option linter.unusedVariables false


theorem gRan : Tryd.prog.globalNamed "strconv.ErrRange" = some 2 := by kernel_rfl
theorem gRanType : (Tryd.prog.globals[2]?).map (·.type) = some 48 := by kernel_rfl
theorem gSyn : Tryd.prog.globalNamed "strconv.ErrSyntax" = some 1 := by kernel_rfl
theorem gSynType : (Tryd.prog.globals[1]?).map (·.type) = some 48 := by kernel_rfl
theorem cellsES : Tryd.prog.cellsOf 110 = 1 := by kernel_rfl
theorem cellsSt : Tryd.prog.cellsOf 9 = 1 := by kernel_rfl
theorem starE : "*" ++ "errors.errorString" = "*errors.errorString" := by decide
theorem rowE (u : TypeId) (h : Tryd.prog.typeName? 3 u = some "*errors.errorString") : u = 108 :=
  typeName_ptr_named (nm := "errors.errorString") (by rw [starE]; kernel_rfl) (by kernel_rfl) (by decide) u (by rw [starE]; exact h)
def Facts3 (W : World) : Prop := Facts W ∧ (∃ te pe, W.cell? ⟨1, 0, none⟩ = some (.iface te pe)) ∧ ∃ te pe, W.cell? ⟨2, 0, none⟩ = some (.iface te pe)
theorem facts3_of {W : World} {a b : String × DataW Unit} (h : laidMet Tryd.prog [a, b, ("internal/strconv.uint64pow10", Rows.laid_internal_strconv_uint64pow10), ("strconv.ErrRange", Rows.laid_strconv_ErrRange), ("strconv.ErrSyntax", Rows.laid_strconv_ErrSyntax)] W) : Facts3 W := by
  have h3 := h.tail.tail
  rw [pow_is] at h3
  obtain ⟨a0, s0, hv0, _⟩ := laid_sentinel h3.tail gRan gRanType Tryd.underlying48 rowE Tryd.underlying108 Tryd.underlying110 rfl rfl Tryd.underlying9 cellsES cellsSt
  obtain ⟨a1, s1, hv1, _⟩ := laid_sentinel h3.tail.tail gSyn gSynType Tryd.underlying48 rowE Tryd.underlying108 Tryd.underlying110 rfl rfl Tryd.underlying9 cellsES cellsSt
  refine ⟨Lib.tabIs_of_head gPow gPowType Tryd.underlying104 Tryd.underlying58 cellsU cellsP h3, ⟨108, .pointer (some a1), ?_⟩, ⟨108, .pointer (some a0), ?_⟩⟩
  · have := World.var?_cell gSyn hv1 0
    simpa using this
  · have := World.var?_cell gRan hv0 0
    simpa using this
theorem facts3_keep {W W' : World} (h : Facts3 W) (hb : Below W.heap.size W W') : Facts3 W' := by
  obtain ⟨h1, ⟨t1, p1, h2⟩, ⟨t2, p2, h3⟩⟩ := h
  exact ⟨facts_keep h1 hb, ⟨t1, p1, (hb.cell (p := ⟨1, 0, none⟩) (World.block_lt_of_cell? W _ h2)).trans h2⟩, ⟨t2, p2, (hb.cell (p := ⟨2, 0, none⟩) (World.block_lt_of_cell? W _ h3)).trans h3⟩⟩

set_option maxHeartbeats 2000000 in
theorem implParseInt_any (s : ByteArray) (w : World) (hs : s.size ≤ 1048576) (hF : Facts3 w) :
    Calls Tryd.prog 13 #[.string s] w fun e w' => e = .returned (.tuple #[.int .i64 (piI s.data.toList).1, .bool (piI s.data.toList).2]) ∧ Below w.heap.size w w' := by
  obtain ⟨hF1, ⟨te1, pe1, hs1⟩, ⟨te2, pe2, hs2⟩⟩ := hF
  have hcase : (∃ v, Lib.atoiAll s.data.toList = .ok v) ∨ Lib.atoiAll s.data.toList = Lib.NumEnd.syntax ∨ Lib.atoiAll s.data.toList = .range := by
    generalize Lib.atoiAll s.data.toList = q
    cases q
    · exact .inl ⟨_, rfl⟩
    · exact .inr (.inl rfl)
    · exact .inr (.inr rfl)
  rcases hcase with ⟨v, ha⟩ | ha | ha
  ·
    have HA : Hid (Calls Tryd.prog 40 #[.string s] w fun e w' => e = .returned (.tuple #[.int .i64 v, .nilIface]) ∧ Below w.heap.size w w') := Lib.hid (by
      refine (Tryd.strconv_Atoi_ok s (by omega) v ha w).mono ?_
      rintro e w' ⟨rfl, rfl | ⟨t, rfl⟩⟩
      · exact ⟨rfl, Below.refl _ _⟩
      · exact ⟨rfl, Lib.bytesWorld_below _ _ _⟩)
    have hpi := piI_ok _ v ha
    obtain ⟨vb0, vb1⟩ := Lib.atoiAll_bounds ha
    have HW := Lib.hid (within_any v (-999999) 999999)
    have HI : Hid (∀ w1, Below w.heap.size w w1 → Calls Tryd.prog 38 #[.int .i64 v] w1 fun e w' => e = .returned (.string ⟨(Lib.itoa v).toArray⟩) ∧ Below w1.heap.size w1 w') := Lib.hid (fun w1 h => itoaL_any v w1 vb0 vb1 (facts_keep hF1 h))
    by_cases hr : -999999 ≤ v ∧ v ≤ 999999
    · rw [show inB v (-999999) 999999 = true by unfold inB; rw [decide_eq_true hr.1, decide_eq_true hr.2]; rfl] at HW
      by_cases hz : Lib.itoa v = s.data.toList
      · have HR : Hid (piI s.data.toList = (v, true)) := Lib.hid (hpi.trans (if_pos ⟨hr.1, hr.2, hz⟩))
        generalize Lib.itoa v = z at HI hz
        have hb3 : (z == s.toList) = true := by rw [ByteArray.toList_eq]; simp [hz]
        clear hz hpi ha hs1 hs2 hF1
        go_enter Tryd.func13, Tryd.ntmps13
        go_wp2_with (first | (go_at_call 40; refine HA.out.mono ?_; rintro e w1 ⟨rfl, hb1⟩) | (go_at_call 37; refine (HW.out _).mono ?_; rintro e w2 ⟨rfl, rfl⟩) | (go_at_call 38; refine (HI.out _ hb1).mono ?_; rintro e w3 ⟨rfl, hb3'⟩))
        go_ret2
        exact ⟨(by rw [HR.out] <;> first | done | rfl), bt hb1 hb3'⟩
      · have HR : Hid (piI s.data.toList = (0, false)) := Lib.hid (hpi.trans (if_neg (fun h => hz h.2.2)))
        generalize Lib.itoa v = z at HI hz
        have hb3 : (z == s.toList) = false := by rw [ByteArray.toList_eq]; simpa using hz
        clear hz hpi ha hs1 hs2 hF1
        go_enter Tryd.func13, Tryd.ntmps13
        go_wp2_with (first | (go_at_call 40; refine HA.out.mono ?_; rintro e w1 ⟨rfl, hb1⟩) | (go_at_call 37; refine (HW.out _).mono ?_; rintro e w2 ⟨rfl, rfl⟩) | (go_at_call 38; refine (HI.out _ hb1).mono ?_; rintro e w3 ⟨rfl, hb3'⟩))
        go_ret2
        exact ⟨(by rw [HR.out] <;> first | done | rfl), bt hb1 hb3'⟩
    · rw [show inB v (-999999) 999999 = false by
        unfold inB
        by_cases h0 : -999999 ≤ v
        · rw [decide_eq_false (show ¬ v ≤ 999999 by omega), Bool.and_false]
        · rw [decide_eq_false h0]; rfl] at HW
      have HR : Hid (piI s.data.toList = (0, false)) := Lib.hid (hpi.trans (if_neg (fun h => hr ⟨h.1, h.2.1⟩)))
      clear hpi ha hs1 hs2 hF1 hr
      go_enter Tryd.func13, Tryd.ntmps13
      go_wp2_with (first | (go_at_call 40; refine HA.out.mono ?_; rintro e w1 ⟨rfl, hb1⟩) | (go_at_call 37; refine (HW.out _).mono ?_; rintro e w2 ⟨rfl, rfl⟩))
      go_ret2
      exact ⟨(by rw [HR.out] <;> first | done | rfl), hb1⟩
  ·
    have HR : Hid (piI s.data.toList = (0, false)) := Lib.hid (piI_bad _ (fun v h => by rw [ha] at h; cases h))
    have HA := Lib.hid (Tryd.strconv_Atoi_syntax s (by omega) ha _ w hs1 (.inr ⟨_, _, rfl⟩))
    clear ha hs1 hs2 hF1
    go_enter Tryd.func13, Tryd.ntmps13
    go_wp2_with ((go_at_call 40; refine HA.out.mono ?_; rintro e w1 ⟨N, rfl, hN, hh, hb1⟩))
    go_ret2
    exact ⟨(by rw [HR.out] <;> first | done | rfl), hb1⟩
  ·
    have HR : Hid (piI s.data.toList = (0, false)) := Lib.hid (piI_bad _ (fun v h => by rw [ha] at h; cases h))
    have HA := Lib.hid (Tryd.strconv_Atoi_range s (by omega) ha _ w hs2 (.inr ⟨_, _, rfl⟩))
    generalize Lib.atoiSat s.data.toList = q at HA
    clear ha hs1 hs2 hF1
    go_enter Tryd.func13, Tryd.ntmps13
    go_wp2_with ((go_at_call 40; refine HA.out.mono ?_; rintro e w1 ⟨N, rfl, hN, hh, hb1⟩))
    go_ret2
    exact ⟨(by rw [HR.out] <;> first | done | rfl), hb1⟩

set_option maxHeartbeats 1000000 in
theorem specParseInt_any (s : ByteArray) (w : World) (hs : s.size ≤ 1048576) :
    Calls Tryd.prog 12 #[.string s] w fun e w' => e = .returned (.tuple #[.int .i64 (piI s.data.toList).1, .bool (piI s.data.toList).2]) ∧ Below w.heap.size w w' := by
  have H := Lib.hid (l1Read_any s w hs)
  generalize (piI s.data.toList).1 = r1 at H ⊢
  generalize (piI s.data.toList).2 = r2 at H ⊢
  go_enter Tryd.func12, Tryd.ntmps12
  go_wp2_with ((go_at_call 39; refine H.out.mono ?_; rintro e w1 ⟨rfl, hb⟩))
  go_ret2
  exact ⟨rfl, hb⟩

theorem facts_pi {W : World} (h : laidMetH Tryd.prog Rows.fnExactParseIntRow.laid W) : Facts3 W := facts3_of h
set_option maxHeartbeats 1000000 in
theorem walkFnExactParseInt (s : ByteArray) (w : World) (ws : s.size ≤ maxLen) (hF : Facts3 w) :
    Calls Tryd.prog 4 #[.string s] w fun e w' => e = .returned (.bool true) ∧ Below w.heap.size w w' := by
  unfold maxLen at ws
  by_cases hs : s.size ≤ 1048576
  · have H1 := Lib.hid (fun w => specParseInt_any s w hs)
    have H2 := Lib.hid (fun w => implParseInt_any s w hs)
    have HF := Lib.hid hF
    generalize (piI s.data.toList).1 = r1 at H1 H2
    generalize (piI s.data.toList).2 = r2 at H1 H2
    clear hF
    go_enter Tryd.func4, Tryd.ntmps4
    go_wp2_with (first | (go_at_call 12; refine (H1.out _).mono ?_; rintro e w1 ⟨rfl, hb1⟩) | (go_at_call 13; refine (H2.out _ (facts3_keep HF.out hb1)).mono ?_; rintro e w2 ⟨rfl, hb2⟩))
    go_ret
    exact ⟨rfl, bt hb1 hb2⟩
  · clear hF
    go_enter Tryd.func4, Tryd.ntmps4
    go_wp2
    go_ret
    exact ⟨rfl, Below.refl _ _⟩

end Go.Proofs.YtegpbgdmehipnaaDoor
