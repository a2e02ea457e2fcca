/-
  The law FnExactNearestDigits returns true, whatever the number. No condition.
-/
import Derived.Test.YtpijpelmebaalaaTabC
import Derived.Test.YtpijpelmebaalaaNearP
import Derived.Test.YtpijpelmebaalaaCtrF
import Derived.Test.YtpijpelmebaalaaCtrS
import Derived.Test.YtpijpelmebaalaaSl
namespace Go.Proofs.Ytpijpelmebaalaa
open Go.RowKit
set_option linter.unusedVariables false


theorem idx_tab (D : Nat) (hD : D < 10) : ∀ w : World, (Instr.index 41 (.agg tabC) (.int .i64 (D : Int))).run Try.prog w = .ok (.agg (rowA D)) w := by
  rcases ten D hD with rfl | rfl | rfl | rfl | rfl | rfl | rfl | rfl | rfl | rfl <;> exact fun _ => by kernel_rfl
theorem idx_row (D d : Nat) (hd : d < 10) : ∀ w : World, (Instr.index 40 (.agg (rowA D)) (.int .i64 (d : Int))).run Try.prog w = .ok (.int .i64 (farT D d : Nat)) w := by
  rcases ten d hd with rfl | rfl | rfl | rfl | rfl | rfl | rfl | rfl | rfl | rfl <;> exact fun _ => by kernel_rfl

def neR (n : Int) : List Int := if inB n 0 9 then (ndF n.toNat 10).1 else []
def neL (n : Int) : Int := if inB n 0 9 then ((ndF n.toNat 10).2 : Int) else 0
theorem in_dig {n : Int} (h : inB n 0 9 = true) : ∃ D : Nat, n = D ∧ D < 10 := by
  unfold inB at h
  simp only [Bool.and_eq_true, decide_eq_true_eq] at h
  obtain ⟨D, rfl⟩ := Int.eq_ofNat_of_zero_le h.1
  exact ⟨D, rfl, by omega⟩
theorem isDigit_any (n : Int) (w : World) : Calls Try.prog 76 #[.int .i64 n] w fun e w' => e = .returned (.bool (inB n 0 9)) ∧ w = w' := by
  have HW := Lib.hid (within_any n 0 9)
  go_enter Try.func76, Try.ntmps76
  go_wp2_with ((go_at_call 61; refine (HW.out _).mono ?_; rintro e w1 ⟨rfl, rfl⟩))
  go_ret
  exact ⟨rfl, rfl⟩

set_option maxRecDepth 100000 in
set_option maxHeartbeats 4000000 in
theorem implNearestDigits_any (n : Int) (w : World) :
    Calls Try.prog 40 #[.int .i64 n] w fun e w' => ∃ u, e = .returned (.tuple #[u, .int .i64 (neL n), .bool (inB n 0 9)]) ∧ Own w.heap.size w' u (neR n) ∧ Below w.heap.size w w' := by
  have HI := Lib.hid (isDigit_any n)
  unfold neL neR
  obtain ⟨i0, hi, hz0, hz1, hz2⟩ := info_parts info_int
  by_cases hin : inB n 0 9 = true
  · rw [if_pos hin, if_pos hin, hin]
    rw [hin] at HI
    obtain ⟨D, rfl, hD⟩ := in_dig hin
    rw [Int.toNat_natCast]
    have HT := Lib.hid implTab_any
    have hix := idx_tab D hD
    generalize tabC = C at HT hix
    clear hin
    go_enter Try.func40, Try.ntmps40
    go_wp2_with (first | (go_at_call 76; refine (HI.out _).mono ?_; rintro e w1 ⟨rfl, rfl⟩) | (go_at_call 34; refine (HT.out _).mono ?_; rintro e w1 ⟨rfl, hb1⟩))
    go_loopw [5, 6, 15] (fun lv uv dv wr => ∃ d : Nat, d ≤ 10 ∧ dv = .int .i64 d ∧ lv = .int .i64 ((ndF D d).2 : Nat) ∧ Own w.heap.size wr uv (ndF D d).1 ∧ Below w.heap.size w wr) (fun _ _ dv _ => 10 - (intOf dv).toNat)
    case atStart => exact ⟨0, by omega, rfl, rfl, World.ownsRow_nil _ _ _ _, by assumption⟩
    case round =>
      obtain ⟨d, hd, rfl, rfl, ho, hb⟩ := hrel
      have HB := Lib.hid hb
      have HO := Lib.hid ho
      clear hb ho
      by_cases hlt : d < 10
      · have hixr := idx_row D d hlt
        obtain ⟨hln, hl8⟩ := ndF_len D d
        have HLN := Lib.hid hln
        have hf7 := farT_le D d
        have hszA := HB.out.size
        by_cases h1 : d = D
        · have HS := Lib.hid (ndF_skip D d (.inl h1))
          have hb1 : ((d : Int) == (D : Int)) = true := by rw [h1]; simp
          generalize ndF D d = s at HS hl8 HO HLN ⊢
          generalize farT D d = z at hixr hf7
          clear h1 hln
          go_wp2
          go_roundw
          case rel => exact ⟨d + 1, by omega, by go_num, by rw [HS.out], by rw [HS.out]; exact HO.out, HB.out⟩
          case measure => simp [intOf]; omega
        · have hb1 : ((d : Int) == (D : Int)) = false := beq_eq_false_iff_ne.2 (by omega)
          by_cases h2 : (ndF D d).2 < farT D d
          · have HS := Lib.hid (ndF_skip D d (.inr h2))
            generalize ndF D d = s at HS hl8 HO HLN h2 ⊢
            generalize farT D d = z at hixr hf7 h2
            clear h1 hln
            go_wp2
            go_roundw
            case rel => exact ⟨d + 1, by omega, by go_num, by rw [HS.out], by rw [HS.out]; exact HO.out, HB.out⟩
            case measure => simp [intOf]; omega
          · by_cases h3 : farT D d < (ndF D d).2
            · have HS := Lib.hid (ndF_new D d h1 h3)
              generalize ndF D d = s at HS hl8 HO HLN h2 h3 ⊢
              generalize farT D d = z at hixr hf7 h2 h3 HS
              have HOA : Hid (wr.ownsRow w.heap.size 3 1 (.slice none 0 0) 0 (([] : List Int).map (Value.int .i64))) := World.ownsRow_nil _ _ _ _
              have HBA := HB.out
              clear h1 hln
              go_wp2_with ((at_builtin; refine wpList_append_own _ rfl _ _ 22 rfl w.heap.size 3 i0 (.int .i64 0) 1 8 Try.underlying22 hi hz0 hz1 hz2 rfl (by decide) _ _ _ rfl (HOA.out.alloc _) ⟨wr.heap.size, 0, none⟩ 1 1 [.int .i64 (d : Int)] rfl rfl ?c1 ?c2 ?c3 ?c4 ?c5 ?_))
              case c1 =>
                intro j u hj
                match j, hj with
                | 0, hj => simp at hj; subst hj; simp [Addr.add]
              case c2 => intro u hu; simp at hu; subst hu; rfl
              case c3 => unfold maxLen; have := HLN.out; omega
              case c4 => have := HLN.out; omega
              case c5 => simp; omega
              intro v' w9 hown' hgrow _
              have ho9 := own_push (ys := []) hown'
              have hb9 : Below w.heap.size w w9 := (HBA.alloc hszA _).grown hgrow (by simp; omega) (fun k hk => (World.ownsRow.lt HOA.out k hk).1)
              have HO9 := Lib.hid ho9
              have HB9 := Lib.hid hb9
              clear hown' hgrow ho9 hb9
              go_wp2
              go_roundw
              case rel => exact ⟨d + 1, by omega, by go_num, by rw [HS.out], by rw [HS.out]; exact HO9.out, HB9.out⟩
              case measure => simp [intOf]; omega
            · have h4 : (ndF D d).2 = farT D d := by omega
              have HS := Lib.hid (ndF_more D d h1 h4)
              generalize ndF D d = s at HS hl8 HO HLN h2 h3 h4 ⊢
              generalize farT D d = z at hixr hf7 h2 h3 h4
              have HOA : Hid (wr.ownsRow w.heap.size 3 1 u6 s.1.length (s.1.map (Value.int .i64))) := HO.out
              have HBA := HB.out
              have H4 := Lib.hid h4
              clear h1 hln h4
              go_wp2_with ((at_builtin; refine wpList_append_own _ rfl _ _ 22 rfl w.heap.size 3 i0 (.int .i64 0) 1 8 Try.underlying22 hi hz0 hz1 hz2 rfl (by decide) _ _ _ rfl (HOA.out.alloc _) ⟨wr.heap.size, 0, none⟩ 1 1 [.int .i64 (d : Int)] rfl rfl ?c1 ?c2 ?c3 ?c4 ?c5 ?_))
              case c1 =>
                intro j u hj
                match j, hj with
                | 0, hj => simp at hj; subst hj; simp [Addr.add]
              case c2 => intro u hu; simp at hu; subst hu; rfl
              case c3 => unfold maxLen; have := HLN.out; omega
              case c4 => have := HLN.out; omega
              case c5 => simp; omega
              intro v' w9 hown' hgrow _
              have ho9 := own_push hown'
              have hb9 : Below w.heap.size w w9 := (HBA.alloc hszA _).grown hgrow (by simp; omega) (fun k hk => (World.ownsRow.lt HOA.out k hk).1)
              have HO9 := Lib.hid ho9
              have HB9 := Lib.hid hb9
              clear hown' hgrow ho9 hb9
              go_wp2
              go_roundw
              case rel => exact ⟨d + 1, by omega, by go_num, by rw [HS.out], by rw [HS.out]; exact HO9.out, HB9.out⟩
              case measure => simp [intOf]; omega
      · obtain rfl : d = 10 := by omega
        go_wp2
        go_ret3
        exact ⟨_, rfl, HO.out, HB.out⟩
  · have hin' : inB n 0 9 = false := by simpa using hin
    rw [if_neg hin, if_neg hin, hin']
    rw [hin'] at HI
    clear hin hin'
    go_enter Try.func40, Try.ntmps40
    go_wp2_with ((go_at_call 76; refine (HI.out _).mono ?_; rintro e w1 ⟨rfl, rfl⟩))
    go_ret3
    exact ⟨_, rfl, World.ownsRow_nil _ _ _ _, Below.refl _ _⟩

set_option maxHeartbeats 4000000 in
theorem specNearestDigits_any (n : Int) (w : World) :
    Calls Try.prog 39 #[.int .i64 n] w fun e w' => ∃ u, e = .returned (.tuple #[u, .int .i64 (neL n), .bool (inB n 0 9)]) ∧ Own w.heap.size w' u (neR n) ∧ Below w.heap.size w w' := by
  have HI := Lib.hid (l1In_any n 0 9)
  unfold neL neR
  obtain ⟨i0, hi, hz0, hz1, hz2⟩ := info_parts info_int
  have HE : Hid (∀ w : World, Own w.heap.size (w.alloc (.cells #[] 3)) (.slice (some ⟨w.heap.size, 0, none⟩) 0 0) []) := fun w => World.ownsRow_lit w #[] 0 (Nat.le_refl _) (Nat.zero_le _) rfl
  by_cases hin : inB n 0 9 = true
  · rw [if_pos hin, if_pos hin, hin]
    rw [hin] at HI
    obtain ⟨D, rfl, hD⟩ := in_dig hin
    rw [Int.toNat_natCast]
    clear hin
    go_enter Try.func39, Try.ntmps39
    go_wp2_with ((go_at_call 66; refine (HI.out _).mono ?_; rintro e w1 ⟨rfl, rfl⟩))
    go_loopw [5, 6, 7] (fun uv lv dv wr => ∃ d : Nat, d ≤ 10 ∧ dv = .int .i64 d ∧ lv = .int .i64 ((ndF D d).2 : Nat) ∧ Own w.heap.size wr uv (ndF D d).1 ∧ Below w.heap.size w wr) (fun _ _ dv _ => 10 - (intOf dv).toNat)
    case atStart => exact ⟨0, by omega, rfl, rfl, HE.out w, (Below.refl _ _).alloc (Nat.le_refl _) _⟩
    case round =>
      obtain ⟨d, hd, rfl, rfl, ho, hb⟩ := hrel
      have HB := Lib.hid hb
      have HO := Lib.hid ho
      clear hb ho
      by_cases hlt : d < 10
      · obtain ⟨hln, hl8⟩ := ndF_len D d
        have HLN := Lib.hid hln
        have hf7 := farT_le D d
        have HD := Lib.hid (fun w => l4Digits_any D d w hD hlt)
        by_cases h1 : d = D
        · have HS := Lib.hid (ndF_skip D d (.inl h1))
          have hb1 : ((d : Int) == (D : Int)) = true := by rw [h1]; simp
          generalize ndF D d = s at HS hl8 HO HLN ⊢
          clear h1 hln
          go_wp2
          go_roundw
          case rel => exact ⟨d + 1, by omega, by go_num, by rw [HS.out], by rw [HS.out]; exact HO.out, HB.out⟩
          case measure => simp [intOf]; omega
        · have hb1 : ((d : Int) == (D : Int)) = false := beq_eq_false_iff_ne.2 (by omega)
          by_cases h2 : (ndF D d).2 < farT D d
          · have HS := Lib.hid (ndF_skip D d (.inr h2))
            generalize ndF D d = s at HS hl8 HO HLN h2 ⊢
            generalize farT D d = z at HD hf7 h2
            clear h1 hln
            go_wp2_with fail
            refine (HD.out _).mono ?_
            rintro e w2 ⟨rfl, hc2⟩
            have HB2 := Lib.hid (bt HB.out hc2)
            have HO2 := Lib.hid (own_keep HO.out hc2)
            clear hc2
            go_wp2
            go_roundw
            case rel => exact ⟨d + 1, by omega, by go_num, by rw [HS.out], by rw [HS.out]; exact HO2.out, HB2.out⟩
            case measure => simp [intOf]; omega
          · by_cases h3 : farT D d < (ndF D d).2
            · have HS := Lib.hid (ndF_new D d h1 h3)
              generalize ndF D d = s at HS hl8 HO HLN h2 h3 ⊢
              generalize farT D d = z at HD hf7 h2 h3 HS
              clear h1 hln
              go_wp2_with fail
              refine (HD.out _).mono ?_
              rintro e w2 ⟨rfl, hc2⟩
              go_wp2_with fail
              refine (HD.out _).mono ?_
              rintro e w3 ⟨rfl, hc3⟩
              go_wp2_with fail
              refine (HD.out _).mono ?_
              rintro e w4 ⟨rfl, hc4⟩
              have hb3 := bt (bt HB.out hc2) hc3
              have hb4 := bt (bt hb3 ((Below.refl _ _).alloc (Nat.le_refl _) _)) hc4
              have HOA : Hid (w4.ownsRow w.heap.size 3 1 (.slice (some ⟨w3.heap.size, 0, none⟩) 0 0) 0 (([] : List Int).map (Value.int .i64))) := own_keep (own_mono (HE.out w3) hb3.size) hc4
              have hszA := hb4.size
              have HBA := hb4
              clear hc2 hc3 hc4 hb3 hb4
              go_wp2_with ((at_builtin; refine wpList_append_own _ rfl _ _ 22 rfl w.heap.size 3 i0 (.int .i64 0) 1 8 Try.underlying22 hi hz0 hz1 hz2 rfl (by decide) _ _ _ rfl (HOA.out.alloc _) ⟨w4.heap.size, 0, none⟩ 1 1 [.int .i64 (d : Int)] rfl rfl ?c1 ?c2 ?c3 ?c4 ?c5 ?_))
              case c1 =>
                intro j u hj
                match j, hj with
                | 0, hj => simp at hj; subst hj; simp [Addr.add]
              case c2 => intro u hu; simp at hu; subst hu; rfl
              case c3 => unfold maxLen; have := HLN.out; omega
              case c4 => have := HLN.out; omega
              case c5 => simp; omega
              intro v' w9 hown' hgrow _
              have ho9 := own_push (ys := []) hown'
              have hb9 : Below w.heap.size w w9 := (HBA.alloc hszA _).grown hgrow (by simp; omega) (fun k hk => (World.ownsRow.lt HOA.out k hk).1)
              have HO9 := Lib.hid ho9
              have HB9 := Lib.hid hb9
              clear hown' hgrow ho9 hb9
              go_wp2
              go_roundw
              case rel => exact ⟨d + 1, by omega, by go_num, by rw [HS.out], by rw [HS.out]; exact HO9.out, HB9.out⟩
              case measure => simp [intOf]; omega
            · have h4 : (ndF D d).2 = farT D d := by omega
              have HS := Lib.hid (ndF_more D d h1 h4)
              generalize ndF D d = s at HS hl8 HO HLN h2 h3 h4 ⊢
              generalize farT D d = z at HD hf7 h2 h3 h4
              have H4 := Lib.hid h4
              clear h1 hln h4
              go_wp2_with fail
              refine (HD.out _).mono ?_
              rintro e w2 ⟨rfl, hc2⟩
              go_wp2_with fail
              refine (HD.out _).mono ?_
              rintro e w3 ⟨rfl, hc3⟩
              have hbb := bt (bt HB.out hc2) hc3
              have HOA : Hid (w3.ownsRow w.heap.size 3 1 u5 s.1.length (s.1.map (Value.int .i64))) := own_keep (own_keep HO.out hc2) hc3
              have hszA := hbb.size
              have HBA := hbb
              clear hc2 hc3 hbb
              go_wp2_with ((at_builtin; refine wpList_append_own _ rfl _ _ 22 rfl w.heap.size 3 i0 (.int .i64 0) 1 8 Try.underlying22 hi hz0 hz1 hz2 rfl (by decide) _ _ _ rfl (HOA.out.alloc _) ⟨w3.heap.size, 0, none⟩ 1 1 [.int .i64 (d : Int)] rfl rfl ?c1 ?c2 ?c3 ?c4 ?c5 ?_))
              case c1 =>
                intro j u hj
                match j, hj with
                | 0, hj => simp at hj; subst hj; simp [Addr.add]
              case c2 => intro u hu; simp at hu; subst hu; rfl
              case c3 => unfold maxLen; have := HLN.out; omega
              case c4 => have := HLN.out; omega
              case c5 => simp; omega
              intro v' w9 hown' hgrow _
              have ho9 := own_push hown'
              have hb9 : Below w.heap.size w w9 := (HBA.alloc hszA _).grown hgrow (by simp; omega) (fun k hk => (World.ownsRow.lt HOA.out k hk).1)
              have HO9 := Lib.hid ho9
              have HB9 := Lib.hid hb9
              clear hown' hgrow ho9 hb9
              go_wp2
              go_roundw
              case rel => exact ⟨d + 1, by omega, by go_num, by rw [HS.out], by rw [HS.out]; exact HO9.out, HB9.out⟩
              case measure => simp [intOf]; omega
      · obtain rfl : d = 10 := by omega
        go_wp2
        go_ret3
        exact ⟨_, rfl, HO.out, HB.out⟩
  · have hin' : inB n 0 9 = false := by simpa using hin
    rw [if_neg hin, if_neg hin, hin']
    rw [hin'] at HI
    clear hin hin'
    go_enter Try.func39, Try.ntmps39
    go_wp2_with ((go_at_call 66; refine (HI.out _).mono ?_; rintro e w1 ⟨rfl, rfl⟩))
    go_ret3
    exact ⟨_, rfl, HE.out w, (Below.refl _ _).alloc (Nat.le_refl _) _⟩

theorem neR_len (n : Int) : (neR n).length ≤ 1073741824 := by
  unfold neR
  split
  · have := (ndF_len n.toNat 10).1; omega
  · simp
set_option maxHeartbeats 4000000 in
theorem walkFnExactNearestDigits (n : Int) (w : World) (wn : (Lit.int .i64 n).wf = true) :
    Calls Try.prog 11 #[.int .i64 n] w fun e w' => e = .returned (.bool true) ∧ Below w.heap.size w w' := by
  have H1 := Lib.hid (specNearestDigits_any n)
  have H2 := Lib.hid (implNearestDigits_any n)
  have hrl : (neR n).length ≤ 1073741824 := neR_len n
  generalize neR n = rs at H1 H2 hrl
  generalize neL n = r0 at H1 H2
  generalize inB n 0 9 = r1 at H1 H2
  have HR := Lib.hid hrl
  have hq8 : (0 : Int) ≤ 1 + (rs.length : Int) := by omega
  have hq8' : 1 + (rs.length : Int) ≤ 1073741825 := by omega
  clear hrl
  go_enter Try.func11, Try.ntmps11
  go_wp2_with fail
  refine (H1.out _).mono ?_
  rintro e w2 ⟨w0, rfl, hr2, hb2⟩
  go_wp2_with fail
  refine (H2.out _).mono ?_
  rintro e w4 ⟨g0, rfl, hr4, hb4⟩
  have hB4 := bt hb2 hb4
  have hw4 := own_keep hr2 hb4
  go_wp2_with fail
  refine (eqIntS_any _ _ _ _ _ hr4 hw4 HR.out HR.out).mono ?_
  rintro e w5 ⟨rfl, hb5⟩
  rw [decide_eq_true rfl]
  have hB5 := bt hB4 hb5
  have hw5 := own_keep hw4 hb5
  have hg5 := own_keep hr4 hb5
  go_wp2_with fail
  refine (markIntS_any _ rs 1 w5 hg5 HR.out (by omega) (by omega)).mono ?_
  rintro e w10 ⟨rfl, ho10, hb10, hz10, hon10⟩
  have hB10 : Below w.heap.size w w10 := hB5.trans (hb10.mono hb2.size)
  have hw10 := own_only hw5 hon10 (own_apart hr2 hr4 (Nat.le_refl _)).2
  go_wp2_with fail
  refine (heldIntS_any _ rs.length 1 w10 ho10 HR.out (by omega) (by omega)).mono ?_
  rintro e w11 ⟨rfl, hb11⟩
  have hB11 := bt hB10 hb11
  go_wp2_with fail
  refine (H2.out _).mono ?_
  rintro e w13 ⟨h0, rfl, hr13, hb13⟩
  have hB13 := bt hB11 hb13
  have hb1013 := bt hb11 hb13
  go_wp2_with fail
  refine (eqIntS_any _ _ _ _ _ hr13 (own_keep hw10 hb1013) HR.out HR.out).mono ?_
  rintro e w14 ⟨rfl, hb14⟩
  rw [decide_eq_true rfl]
  have hB14 := bt hB13 hb14
  go_wp2_with fail
  refine (heldIntS_any _ rs.length 1 w14 (own_keep ho10 (bt hb1013 hb14)) HR.out (by omega) (by omega)).mono ?_
  rintro e w15 ⟨rfl, hb15⟩
  have hB15 := bt hB14 hb15
  go_wp2
  go_ret
  exact ⟨rfl, hB15⟩

end Go.Proofs.Ytpijpelmebaalaa
