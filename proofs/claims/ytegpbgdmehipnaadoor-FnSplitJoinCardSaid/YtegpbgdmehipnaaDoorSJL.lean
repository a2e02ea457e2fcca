/-
  The law FnSplitJoin returns true. Condition: some number lies in the variable MaxLen of the library.
-/
import Derived.Test.YtegpbgdmehipnaaDoorDrawJ
import Derived.Test.YtegpbgdmehipnaaDoorSplL
import Derived.Test.YtegpbgdmehipnaaDoorJoinD
import Derived.Test.YtegpbgdmehipnaaDoorRows
import Derived.Shelf.Vars
namespace Go.Proofs.YtegpbgdmehipnaaDoor
open Go.RowKit
set_option linter.unusedVariables false


theorem facts_sj {W : World} (hL : laidMetH Tryd.prog Rows.fnSplitJoinRow.laid W) (hS : W.ShapedOpen Tryd.prog) : ∃ m, W.cell? ⟨0, 0, none⟩ = some (.int .i64 m) :=
  cell_of_shapedOpen_int (t := 3) (zero := #[.int .i64 0]) hS (of_decide_eq_true (by kernel_rfl)) (by kernel_rfl) rfl (by kernel_rfl) (by kernel_rfl) Tryd.underlying3
theorem less_asym : ∀ a b : List UInt8, Op.bytesLess a b = true → Op.bytesLess b a = false
  | [], [], h => by simp [Op.bytesLess] at h
  | [], _ :: _, _ => by simp [Op.bytesLess]
  | _ :: _, [], h => by simp [Op.bytesLess] at h
  | x :: l, y :: m, h => by
    simp only [Op.bytesLess, Bool.or_eq_true, Bool.and_eq_true, decide_eq_true_eq, beq_iff_eq] at h
    simp only [Op.bytesLess, Bool.or_eq_false_iff, Bool.and_eq_false_iff, decide_eq_false_iff_not, beq_eq_false_iff_ne]
    rcases h with h | ⟨rfl, h⟩
    · refine ⟨fun k => ?_, .inl fun e => ?_⟩
      · exact absurd (UInt8.lt_trans h k) (UInt8.lt_irrefl _)
      · subst e; exact UInt8.lt_irrefl _ h
    · exact ⟨UInt8.lt_irrefl _, .inr (less_asym l m h)⟩
theorem implLess_any (a b : ByteArray) (w : World) :
    Calls Tryd.prog 33 #[.string a, .string b] w fun e w' => e = .returned (.bool (Op.bytesLess a.toList b.toList)) ∧ w' = w := by
  go_enter Tryd.func33, Tryd.ntmps33
  go_wp2
  go_ret
  exact ⟨rfl, rfl⟩
theorem specLess_any (a b : ByteArray) (w : World) :
    Calls Tryd.prog 34 #[.string a, .string b] w fun e w' => e = .returned (.bool (Op.bytesLess a.toList b.toList)) ∧ w' = w := by
  go_enter Tryd.func34, Tryd.ntmps34
  go_wp2
  go_ret
  exact ⟨rfl, rfl⟩
theorem vBig_no (a : Option Addr) (len cap : Nat) (w : World) (h : len ≤ 65536) :
    Calls Tryd.prog 23 #[.slice a len cap] w fun e w' => e = .returned (.bool false) ∧ w' = w := by
  have hd : decide ((65536 : Int) < (len : Int)) = false := decide_eq_false (by omega)
  go_enter Tryd.func23, Tryd.ntmps23
  go_wp2
  go_ret
  exact ⟨rfl, rfl⟩
theorem spS_size (b : UInt8) (s : ByteArray) : ∀ x ∈ spS b s, x.size ≤ s.size := by
  intro x hx
  unfold spS at hx
  obtain ⟨l, hl, rfl⟩ := List.mem_map.1 hx
  have := spl_size b s.data.toList l hl
  show l.toArray.size ≤ _
  simpa using this
theorem spS_bs (b : UInt8) (s : ByteArray) : bsL (spS b s) = spl b s.data.toList := spS_data b s
theorem spS_back (b : UInt8) (s : ByteArray) (hs : s.size ≤ 4000) : joinI (spS b s) b = (s, true) := by
  have hne : spS b s ≠ [] := by
    intro e
    have := spS_bs b s
    rw [e] at this
    exact spl_ne b _ this.symm
  have hlen : (spl b s.data.toList).length - 1 + Lib.lens (spl b s.data.toList) ≤ 4000 := by
    have h1 := join_len (spl b s.data.toList) (spl b s.data.toList).length (List.length_pos_iff.2 (spl_ne b _)) (Nat.le_refl _) b
    rw [List.take_length, spl_join] at h1
    have h2 : s.data.toList.length = s.size := by rw [Array.length_toList]; rfl
    have h3 := List.length_pos_iff.2 (spl_ne b s.data.toList)
    omega
  rw [joinI_yes _ b hne (by rw [spS_bs]; exact joinOk_yes _ b (fun i x hx => spl_free b _ x (List.mem_of_getElem? hx)) hlen), spS_bs, spl_join]
theorem bytes_mono {N N' : Nat} {w : World} {a : Option Addr} {len : Nat} (h : Bytes N w a len) (hn : N ≤ N') : Bytes N' w a len := fun j hj => by
  obtain ⟨b, o, z, h1, h2, h3⟩ := h j hj
  exact ⟨b, o, z, h1, Nat.lt_of_lt_of_le h2 hn, h3⟩

set_option maxHeartbeats 4000000 in
theorem walkFnSplitJoin (a : Option Addr) (len cap : Nat) (zs : List Int) (w : World) (ha : InRow .u8 w a len cap zs) (hM : ∃ m, w.cell? ⟨0, 0, none⟩ = some (.int .i64 m)) :
    Calls Tryd.prog 9 #[.slice a len cap] w fun e w' => e = .returned (.bool true) ∧ Below w.heap.size w w' := by
  obtain ⟨m, hm⟩ := hM
  have hb0 := bytes_of ha
  have hml : len ≤ maxLen := by
    rcases ha with ⟨rfl, rfl, rfl, rfl⟩ | ⟨x, rfl, hlc, hmx, hz, hc, hw⟩
    · exact Nat.zero_le _
    · omega
  by_cases hl : len ≤ 65536
  · have HB0 := Lib.hid hb0
    have HM := Lib.hid hm
    clear hb0 hm ha hml
    go_enter Tryd.func9, Tryd.ntmps9
    go_wp2_with ((go_at_call 23; refine (vBig_no a len cap _ hl).mono ?_; rintro e w1 ⟨rfl, rfl⟩))
    refine (drawSplit_any a len cap _ HB0.out hl).mono ?_
    rintro e w1 ⟨s, sep, rfl, hs, hp, hb1⟩
    have HB1 := Lib.hid hb1
    have HY1 : Hid (Bytes w1.heap.size w1 a len) := Lib.hid (bytes_mono (bytes_keep HB0.out hb1) hb1.size)
    have HM1 := Lib.hid (maxlenK HM.out hb1)
    clear hb1
    by_cases h1 : sep.size = 1
    · obtain ⟨b, rfl⟩ := one_byte2 sep h1
      have e1 : ssI s ⟨#[b]⟩ = (spS b s, true) := by unfold ssI; rw [dif_pos h1, if_pos (by omega)]; rfl
      have C1 := implSplit_any s ⟨#[b]⟩ m w1 (by omega) (by omega) HM1.out
      rw [e1] at C1
      have CB := Lib.hid (spS_back b s (by omega))
      have CL : Hid ((spS b s).length ≤ 101) := Lib.hid (by have := spS_len b s; omega)
      have CS : Hid (∀ x ∈ spS b s, x.size ≤ 1048576) := Lib.hid (fun x hx => by have := spS_size b s x hx; omega)
      generalize spS b s = l at C1 CB CL CS
      have C1 := Lib.hid C1
      clear e1
      go_wp2_with fail
      refine C1.out.mono ?_
      rintro e w2 ⟨u, rfl, ho, hb2⟩
      have HO2 := Lib.hid ho
      obtain ⟨ua, uc, rfl⟩ := ownS_shape ho
      have HB2 := Lib.hid (HB1.out.trans (hb2.mono HB1.out.size))
      have HY2 : Hid (Bytes w2.heap.size w2 a len) := Lib.hid (bytes_mono (bytes_keep HY1.out hb2) hb2.size)
      clear ho hb2
      go_wp2_with fail
      refine (drawJoin_any a len cap w2 HY2.out hl).mono ?_
      rintro e w3 ⟨v, ks, mark, rfl, hv, hkl, hks, hmk, hb3⟩
      have HV3 := Lib.hid hv
      obtain ⟨va, vc, rfl⟩ := ownS_shape hv
      have HO3 := Lib.hid (ownS_keep HO2.out hb3)
      have HB3 := Lib.hid (HB2.out.trans (hb3.mono HB2.out.size))
      have HY3 : Hid (Bytes w3.heap.size w3 a len) := Lib.hid (bytes_mono (bytes_keep HY2.out hb3) hb3.size)
      have HKS : Hid (∀ x ∈ ks, x.size ≤ 1048576) := Lib.hid (fun x hx => by have := hks x hx; omega)
      clear hv hb3 hks
      go_wp2_with fail
      refine (implJoin_any _ ks mark w3 HV3.out (by omega) HKS.out (by omega)).mono ?_
      rintro e w4 ⟨rfl, hb4⟩
      go_wp2_with fail
      refine (specJoin_any _ ks mark w4 (ownS_keep HV3.out hb4) (by omega) HKS.out (by omega)).mono ?_
      rintro e w5 ⟨rfl, hb5⟩
      have hb45 : Below w3.heap.size w3 w5 := bt hb4 hb5
      have HO5 := Lib.hid (ownS_keep HO3.out hb45)
      have HB5 := Lib.hid (HB3.out.trans (hb45.mono HB3.out.size))
      have HY5 : Hid (Bytes w5.heap.size w5 a len) := Lib.hid (bytes_mono (bytes_keep HY3.out hb45) hb45.size)
      generalize (joinS ks mark).1 = j
      generalize (joinS ks mark).2 = fine
      clear hb4 hb5 hb45
      go_wp2_with fail
      refine (drawLess_any a len cap w5 HY5.out hl).mono ?_
      rintro e w6 ⟨x, y, rfl, hx, hy, hb6⟩
      have HO6 := Lib.hid (ownS_keep HO5.out hb6)
      have HB6 := Lib.hid (HB5.out.trans (hb6.mono HB5.out.size))
      have HL1 := Lib.hid (implLess_any x y)
      have HL2 := Lib.hid (specLess_any x y)
      have HL3 := Lib.hid (implLess_any y x)
      have HAS := Lib.hid (less_asym x.toList y.toList)
      have HJ7 := Lib.hid (fun w => implJoin_any (A := w1.heap.size) (.slice ua l.length uc) l ⟨#[b]⟩ w)
      rw [joinS_one, CB.out] at HJ7
      generalize Op.bytesLess x.toList y.toList = p at HL1 HL2 HAS
      generalize Op.bytesLess y.toList x.toList = q at HL3 HAS
      have HJ7 : Hid (∀ w, OwnS w1.heap.size w (.slice ua l.length uc) l → Calls Tryd.prog 30 #[.slice ua l.length uc, .string ⟨#[b]⟩] w fun e w' => e = .returned (.tuple #[.string s, .bool true]) ∧ Below w.heap.size w w') := Lib.hid (fun w h => HJ7.out w h (by have := CL.out; omega) CS.out (by omega))
      clear hb6 C1
      have hpq : p = false ∨ (p = true ∧ q = false) := by cases p; exact .inl rfl; exact .inr ⟨rfl, HAS.out rfl⟩
      clear HAS
      rcases hpq with rfl | ⟨rfl, rfl⟩
      · go_wp2_with fail
        refine (HL1.out _).mono ?_
        rintro e w7 ⟨rfl, rfl⟩
        go_wp2_with fail
        refine (HL2.out _).mono ?_
        rintro e w7 ⟨rfl, rfl⟩
        go_wp2_with fail
        refine (HL1.out _).mono ?_
        rintro e w7 ⟨rfl, rfl⟩
        go_wp2_with fail
        refine (HJ7.out _ HO6.out).mono ?_
        rintro e w8 ⟨rfl, hb8⟩
        go_wp2
        go_ret
        exact ⟨by simp, HB6.out.trans (hb8.mono HB6.out.size)⟩
      · go_wp2_with fail
        refine (HL1.out _).mono ?_
        rintro e w7 ⟨rfl, rfl⟩
        go_wp2_with fail
        refine (HL2.out _).mono ?_
        rintro e w7 ⟨rfl, rfl⟩
        go_wp2_with fail
        refine (HL1.out _).mono ?_
        rintro e w7 ⟨rfl, rfl⟩
        go_wp2_with fail
        refine (HL3.out _).mono ?_
        rintro e w7 ⟨rfl, rfl⟩
        go_wp2_with fail
        refine (HJ7.out _ HO6.out).mono ?_
        rintro e w8 ⟨rfl, hb8⟩
        go_wp2
        go_ret
        exact ⟨by simp, HB6.out.trans (hb8.mono HB6.out.size)⟩
    · have e1 : ssI s sep = ([], false) := by unfold ssI; rw [dif_neg h1]
      have C1 := implSplit_any s sep m w1 (by omega) (by omega) HM1.out
      rw [e1] at C1
      have C1 := Lib.hid C1
      have hne : ((sep.size : Int) == 1) = false := by rw [beq_eq_false_iff_ne]; omega
      have hne2 : ((sep.size : Int) != 1) = true := by rw [bne_iff_ne]; omega
      clear e1
      go_wp2_with fail
      refine C1.out.mono ?_
      rintro e w2 ⟨u, rfl, ho, hb2⟩
      have HO2 := Lib.hid ho
      obtain ⟨ua, uc, rfl⟩ := ownS_shape ho
      have HB2 := Lib.hid (HB1.out.trans (hb2.mono HB1.out.size))
      have HY2 : Hid (Bytes w2.heap.size w2 a len) := Lib.hid (bytes_mono (bytes_keep HY1.out hb2) hb2.size)
      clear ho hb2
      go_wp2_with fail
      refine (drawJoin_any a len cap w2 HY2.out hl).mono ?_
      rintro e w3 ⟨v, ks, mark, rfl, hv, hkl, hks, hmk, hb3⟩
      have HV3 := Lib.hid hv
      obtain ⟨va, vc, rfl⟩ := ownS_shape hv
      have HO3 := Lib.hid (ownS_keep HO2.out hb3)
      have HB3 := Lib.hid (HB2.out.trans (hb3.mono HB2.out.size))
      have HY3 : Hid (Bytes w3.heap.size w3 a len) := Lib.hid (bytes_mono (bytes_keep HY2.out hb3) hb3.size)
      have HKS : Hid (∀ x ∈ ks, x.size ≤ 1048576) := Lib.hid (fun x hx => by have := hks x hx; omega)
      clear hv hb3 hks
      go_wp2_with fail
      refine (implJoin_any _ ks mark w3 HV3.out (by omega) HKS.out (by omega)).mono ?_
      rintro e w4 ⟨rfl, hb4⟩
      go_wp2_with fail
      refine (specJoin_any _ ks mark w4 (ownS_keep HV3.out hb4) (by omega) HKS.out (by omega)).mono ?_
      rintro e w5 ⟨rfl, hb5⟩
      have hb45 : Below w3.heap.size w3 w5 := bt hb4 hb5
      have HO5 := Lib.hid (ownS_keep HO3.out hb45)
      have HB5 := Lib.hid (HB3.out.trans (hb45.mono HB3.out.size))
      have HY5 : Hid (Bytes w5.heap.size w5 a len) := Lib.hid (bytes_mono (bytes_keep HY3.out hb45) hb45.size)
      generalize (joinS ks mark).1 = j
      generalize (joinS ks mark).2 = fine
      clear hb4 hb5 hb45
      go_wp2_with fail
      refine (drawLess_any a len cap w5 HY5.out hl).mono ?_
      rintro e w6 ⟨x, y, rfl, hx, hy, hb6⟩
      have HO6 := Lib.hid (ownS_keep HO5.out hb6)
      have HB6 := Lib.hid (HB5.out.trans (hb6.mono HB5.out.size))
      have HL1 := Lib.hid (implLess_any x y)
      have HL2 := Lib.hid (specLess_any x y)
      have HL3 := Lib.hid (implLess_any y x)
      have HAS := Lib.hid (less_asym x.toList y.toList)
      generalize Op.bytesLess x.toList y.toList = p at HL1 HL2 HAS
      generalize Op.bytesLess y.toList x.toList = q at HL3 HAS
      clear hb6 C1
      have hpq : p = false ∨ (p = true ∧ q = false) := by cases p; exact .inl rfl; exact .inr ⟨rfl, HAS.out rfl⟩
      clear HAS
      rcases hpq with rfl | ⟨rfl, rfl⟩
      · go_wp2_with fail
        refine (HL1.out _).mono ?_
        rintro e w7 ⟨rfl, rfl⟩
        go_wp2_with fail
        refine (HL2.out _).mono ?_
        rintro e w7 ⟨rfl, rfl⟩
        go_wp2_with fail
        refine (HL1.out _).mono ?_
        rintro e w7 ⟨rfl, rfl⟩
        go_wp2
        go_ret
        exact ⟨rfl, HB6.out⟩
      · go_wp2_with fail
        refine (HL1.out _).mono ?_
        rintro e w7 ⟨rfl, rfl⟩
        go_wp2_with fail
        refine (HL2.out _).mono ?_
        rintro e w7 ⟨rfl, rfl⟩
        go_wp2_with fail
        refine (HL1.out _).mono ?_
        rintro e w7 ⟨rfl, rfl⟩
        go_wp2_with fail
        refine (HL3.out _).mono ?_
        rintro e w7 ⟨rfl, rfl⟩
        go_wp2
        go_ret
        exact ⟨rfl, HB6.out⟩
  · clear hb0 hm ha
    have hd : decide ((65536 : Int) < (len : Int)) = true := decide_eq_true (by omega)
    go_enter Tryd.func9, Tryd.ntmps9
    go_wp2
    go_ret
    exact ⟨rfl, Below.refl _ _⟩

end Go.Proofs.YtegpbgdmehipnaaDoor
