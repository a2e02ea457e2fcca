/-
  The law FnStrings returns true. Condition: the listed variables read as the program lays them.
-/
import Derived.Test.YtegpbgdmehipnaaDoorDrawF
import Derived.Test.YtegpbgdmehipnaaDoorSealX
import Derived.Test.YtegpbgdmehipnaaDoorVerC
import Derived.Test.YtegpbgdmehipnaaDoorPIntL
import Derived.Test.YtegpbgdmehipnaaDoorRows
import Derived.Lib.ConvBytes
import Derived.StillTailTactics
namespace Go.Proofs.YtegpbgdmehipnaaDoor
open Go.RowKit
set_option linter.unusedVariables false


theorem facts_strs {W : World} (h : laidMetH Tryd.prog Rows.fnStringsRow.laid W) : Facts3 W := facts3_of h
theorem vBigS_no (a : Option Addr) (len cap : Nat) (w : World) (h : len ≤ 65536) :
    Calls Tryd.prog 23 #[.slice a len cap] w fun e w' => e = .returned (.bool false) ∧ w = w' := by
  have hd : decide ((65536 : Int) < (len : Int)) = false := decide_eq_false (by omega)
  go_enter Tryd.func23, Tryd.ntmps23
  go_wp2
  go_ret
  exact ⟨rfl, rfl⟩
theorem vBigS_yes (a : Option Addr) (len cap : Nat) (w : World) (h : ¬ len ≤ 65536) (hml : len ≤ maxLen) :
    Calls Tryd.prog 23 #[.slice a len cap] w fun e w' => e = .returned (.bool true) ∧ w = w' := by
  have hd : decide ((65536 : Int) < (len : Int)) = true := decide_eq_true (by omega)
  go_enter Tryd.func23, Tryd.ntmps23
  go_wp2
  go_ret
  exact ⟨rfl, rfl⟩
theorem u8_xor (a b : Nat) (ha : a < 256) (hb : b < 256) : bits .xor .u8 (a : Int) (b : Int) = ((a ^^^ b : Nat) : Int) := by
  have hx : a ^^^ b < 2 ^ 8 := Nat.xor_lt_two_pow (by omega) (by omega)
  have h8 : ∀ n : Nat, n < 256 → (BitVec.ofInt 8 (n : Int)).toNat = n := fun n hn => by rw [BitVec.ofInt_natCast, BitVec.toNat_ofNat]; exact Nat.mod_eq_of_lt (by omega)
  show IntKind.u8.wrap ((BitVec.ofInt 8 (a : Int) ^^^ BitVec.ofInt 8 (b : Int)).toNat : Int) = _
  rw [BitVec.toNat_xor, h8 a ha, h8 b hb]
  have hw : ∀ n : Nat, n < 256 → IntKind.u8.wrap (n : Int) = (n : Int) := fun n hn => by
    have hs : IntKind.u8.signed = false := rfl
    have hbts : IntKind.u8.bits = 8 := rfl
    simp only [IntKind.wrap, hs, hbts, Bool.false_and]
    simp
    omega
  exact hw _ (by omega)
theorem bytes_mono' {N N' : Nat} {w : World} {a : Option Addr} {len : Nat} (h : Bytes N w a len) (hn : N ≤ N') : Bytes N' w a len := fun j hj => by
  obtain ⟨b, o, z, h1, h2, h3⟩ := h j hj
  exact ⟨b, o, z, h1, Nat.lt_of_lt_of_le h2 hn, h3⟩
theorem bytes_next {w w' : World} {a : Option Addr} {len : Nat} (h : Bytes w.heap.size w a len) (hb : Below w.heap.size w w') : Bytes w'.heap.size w' a len := bytes_mono' (bytes_keep h hb) hb.size
theorem fm_cases (n : Int) (h : -1000000 ≤ n ∧ n ≤ 1000000) : ∃ S : ByteArray, (fmI n).1 = S ∧ S.size ≤ 100 ∧ ((fmI n).2 = true → piI S.data.toList = (n, true)) := by
  refine ⟨_, rfl, ?_, ?_⟩
  · unfold fmI
    split
    · rename_i hi
      have := inB_both hi
      have := itoa_len n this.1 this.2
      show (Lib.itoa n).toArray.size ≤ 100
      simp; omega
    · show (0 : Nat) ≤ 100
      omega
  · unfold fmI
    split
    · rename_i hi
      have := inB_both hi
      intro _
      exact piI_yes _ n this.1 this.2 rfl
    · intro h; cases h
theorem xorB (b : UInt8) (z : Int) (h0 : 0 ≤ z) (h1 : z ≤ 255) : ∃ c : UInt8, bits .xor .u8 (b.toNat : Int) (1 + z % 255) = (c.toNat : Int) ∧ c ≠ b := by
  obtain ⟨n, rfl⟩ := Int.eq_ofNat_of_zero_le h0
  have hb := b.toNat_lt
  have hv : (1 : Int) + (n : Int) % 255 = ((1 + n % 255 : Nat) : Int) := by omega
  have hx : b.toNat ^^^ (1 + n % 255) < 2 ^ 8 := Nat.xor_lt_two_pow (by omega) (by omega)
  refine ⟨UInt8.ofNat (b.toNat ^^^ (1 + n % 255)), ?_, ?_⟩
  · rw [hv, u8_xor _ _ (by omega) (by omega)]
    congr 1
    rw [UInt8.toNat_ofNat']
    exact (Nat.mod_eq_of_lt (by omega)).symm
  · intro e
    have h2 := congrArg UInt8.toNat e
    rw [UInt8.toNat_ofNat', Nat.mod_eq_of_lt (by omega)] at h2
    have h3 : b.toNat ^^^ (b.toNat ^^^ (1 + n % 255)) = 1 + n % 255 := by rw [← Nat.xor_assoc, Nat.xor_self, Nat.zero_xor]
    rw [h2, Nat.xor_self] at h3
    omega
theorem vAt_ex {N : Nat} (a : Option Addr) (len cap j : Nat) (w : World) (hb : Bytes N w a len) (hl : len ≤ 65536) (hj : j ≤ 100) :
    ∃ z : Int, 0 ≤ z ∧ z ≤ 255 ∧ ∀ w', w'.heap = w.heap → Calls Tryd.prog 27 #[.slice a len cap, .int .i64 j] w' fun e w2 => e = .returned (.int .i64 z) ∧ w2 = w' := by
  by_cases h : j < len
  · obtain ⟨b, o, z, rfl, hc, z0, z1⟩ := byteAt hb j h
    refine ⟨z, z0, z1, fun w' hw => ?_⟩
    have hc' : w'.cell? ⟨b, o + j, none⟩ = some (.int .u8 z) := (World.cell?_of_block (by rw [hw])).trans hc
    have hlt : (j : Int) < (len : Int) := by omega
    clear hb hc hw
    go_enter Tryd.func27, Tryd.ntmps27
    go_wp2
    go_ret
    exact ⟨rfl, rfl⟩
  · have hd : decide ((j : Int) < (len : Int)) = false := decide_eq_false (by omega)
    have h0 : 0 ≤ ((j : Int) * 7 + (len : Int)) % 256 := Int.emod_nonneg _ (by decide)
    have h1 : ((j : Int) * 7 + (len : Int)) % 256 < 256 := Int.emod_lt_of_pos _ (by decide)
    clear hb
    refine ⟨_, h0, by omega, fun w' hw => ?_⟩
    go_enter Tryd.func27, Tryd.ntmps27
    go_wp2
    go_ret
    exact ⟨rfl, rfl⟩
theorem bytesBack (q : List UInt8) (k : Nat) (c : UInt8) (w : World) (B cap : Nat) (hc : ∀ j, j < q.length → ∃ b : UInt8, q[j]? = some b ∧ w.cell? ⟨B, j, none⟩ = some (.int .u8 (b.toNat : Int))) (hk : k < q.length) :
    (convert 35 9 (.slice (some ⟨B, 0, none⟩) q.length cap)).run Tryd.prog (w.setCell ⟨B, k, none⟩ (.int .u8 (c.toNat : Int))) = .ok (.string ⟨(q.set k c).toArray⟩) (w.setCell ⟨B, k, none⟩ (.int .u8 (c.toNat : Int))) := by
  have h := run_convert_bytes_back (P := Tryd.prog) (w.setCell ⟨B, k, none⟩ (.int .u8 (c.toNat : Int))) 35 9 5 ⟨B, 0, none⟩ cap (q.set k c) Tryd.underlying35 Tryd.underlying5 Tryd.underlying9 (by
    intro j hj
    have hj' : j < q.length := by simpa using hj
    obtain ⟨b, g1, g2⟩ := hc j hj'
    have haddr : (⟨B, 0, none⟩ : Addr).add j = ⟨B, j, none⟩ := by
      by_cases hj0 : j = 0
      · subst hj0; simp [Addr.add]
      · simp [Addr.add, hj0]
    rw [haddr]
    by_cases hjk : j = k
    · subst hjk
      rw [World.cell?_setCell_same (h := g2), List.getElem_set_self]
    · rw [World.cell?_setCell_other (h := (show (⟨B, k, none⟩ : Addr) ≠ ⟨B, j, none⟩ by intro e; exact hjk (by cases e; rfl))), g2, List.getElem_set_ne (fun e => hjk e.symm)]
      rw [List.getElem?_eq_getElem hj'] at g1
      rw [Option.some.inj g1])
  rw [List.length_set] at h
  exact h
theorem facts3_cell {w0 w : World} (h : Facts3 w) (p : Addr) (u : Value) (h0 : Facts3 w0) (hb : Below w0.heap.size w0 (w.setCell p u)) : Facts3 (w.setCell p u) := facts3_keep h0 hb
theorem bytesW (q : List UInt8) (w : World) :
    ∃ w' c, (convert 9 35 (.string ⟨q.toArray⟩)).run Tryd.prog w = .ok (.slice (some ⟨w.heap.size, 0, none⟩) q.length c) w' ∧ Below w.heap.size w w' ∧ (∀ j, j < q.length → ∃ b : UInt8, q[j]? = some b ∧ w'.cell? ⟨w.heap.size, j, none⟩ = some (.int .u8 (b.toNat : Int))) ∧ (∀ j, j < q.length → w'.frozen? ⟨w.heap.size, j, none⟩ = false) ∧ w'.heap.size = w.heap.size + 1 := by
  have h := Lib.run_convert_string_bytes (P := Tryd.prog) w 9 35 5 ⟨q.toArray⟩ Tryd.underlying9 Tryd.underlying35 Tryd.underlying5
  rw [show (ByteArray.mk q.toArray).size = q.length by show q.toArray.size = _; simp] at h
  refine ⟨_, _, h, ⟨rfl, rfl, rfl, by rw [Lib.bytesWorld_size]; omega, fun j hj => Lib.bytesWorld_at_old w _ _ j hj⟩, fun j hj => ?_, fun j hj => ?_, Lib.bytesWorld_size w _ _⟩
  · refine ⟨q[j], List.getElem?_eq_getElem hj, ?_⟩
    rw [Lib.bytesWorld_cell w _ ⟨q.toArray⟩ j (by show j < q.toArray.size; simpa using hj)]
    simp [List.getD, List.getElem?_eq_getElem hj]
  · unfold World.frozen?
    simp only [Lib.bytesWorld_at_new]
    have : j < (Lib.bytesCells w 5 ⟨q.toArray⟩).size := by unfold Lib.bytesCells; simp; omega
    simp; omega
theorem mk_list (x : ByteArray) : ByteArray.mk x.data.toList.toArray = x := by cases x; simp

set_option maxRecDepth 20000 in
set_option maxHeartbeats 8000000 in
theorem walkFnStrings (a : Option Addr) (len cap : Nat) (zs : List Int) (w0 : World) (ha : InRow .u8 w0 a len cap zs) (hF : Facts3 w0) :
    Calls Tryd.prog 8 #[.slice a len cap] w0 fun e w' => e = .returned (.bool true) ∧ Below w0.heap.size w0 w' := by
  have hb0 := bytes_of ha
  have hml : len ≤ maxLen := by
    rcases ha with ⟨rfl, rfl, rfl, rfl⟩ | ⟨x, rfl, hlc, hmx, hz, hc, hw⟩
    · exact Nat.zero_le _
    · omega
  by_cases hl : len ≤ 65536
  · have HB0 := Lib.hid hb0
    have HF0 := Lib.hid hF
    clear hb0 hF ha hml
    go_enter Tryd.func8, Tryd.ntmps8
    go_wp2_with ((go_at_call 23; refine (vBigS_no a len cap _ hl).mono ?_; rintro e w1 ⟨rfl, rfl⟩))
    refine (drawFormat_any a len cap _ HB0.out hl).mono ?_
    rintro e w1 ⟨n, rfl, hn, hb1⟩
    obtain ⟨S, hS, hSz, hSp⟩ := fm_cases n hn
    have HY1 := Lib.hid (bytes_next HB0.out hb1)
    have HF1 := Lib.hid (facts3_keep HF0.out hb1)
    have HB1 := Lib.hid hb1
    have HSP := Lib.hid hSp
    clear hb1 hSp
    go_wp2_with fail
    refine (implFormat_any n _ HF1.out.1).mono ?_
    rintro e w2 ⟨rfl, hb2⟩
    have HY2 := Lib.hid (bytes_next HY1.out hb2)
    have HF2 := Lib.hid (facts3_keep HF1.out hb2)
    have HB2 := Lib.hid (bt HB1.out hb2)
    clear hb2
    go_wp2_with fail
    refine (specFormat_any n _).mono ?_
    rintro e w3 ⟨rfl, hb3⟩
    have HY3 := Lib.hid (bytes_next HY2.out hb3)
    have HF3 := Lib.hid (facts3_keep HF2.out hb3)
    have HB3 := Lib.hid (bt HB2.out hb3)
    clear hb3
    rw [hS]
    generalize (fmI n).2 = ok at HSP
    clear hS
    go_wp2_with fail
    refine (drawParse_any a len cap _ HY3.out hl).mono ?_
    rintro e w4 ⟨t, rfl, ht, hb4⟩
    have HY4 := Lib.hid (bytes_next HY3.out hb4)
    have HF4 := Lib.hid (facts3_keep HF3.out hb4)
    have HB4 := Lib.hid (bt HB3.out hb4)
    clear hb4
    go_wp2_with fail
    refine (implParseInt_any t _ (by omega) HF4.out).mono ?_
    rintro e w5 ⟨rfl, hb5⟩
    have HY5 := Lib.hid (bytes_next HY4.out hb5)
    have HF5 := Lib.hid (facts3_keep HF4.out hb5)
    have HB5 := Lib.hid (bt HB4.out hb5)
    clear hb5
    go_wp2_with fail
    refine (specParseInt_any t _ (by omega)).mono ?_
    rintro e w6 ⟨rfl, hb6⟩
    have HY6 := Lib.hid (bytes_next HY5.out hb6)
    have HF6 := Lib.hid (facts3_keep HF5.out hb6)
    have HB6 := Lib.hid (bt HB5.out hb6)
    clear hb6
    generalize (piI t.data.toList).1 = m
    generalize (piI t.data.toList).2 = fine
    go_wp2_with fail
    refine (drawAppend_any a len cap _ HY6.out hl).mono ?_
    rintro e w7 ⟨x, rfl, hx, hb7⟩
    have HY7 := Lib.hid (bytes_next HY6.out hb7)
    have HF7 := Lib.hid (facts3_keep HF6.out hb7)
    have HB7 := Lib.hid (bt HB6.out hb7)
    clear hb7
    go_wp2_with fail
    refine (implAppend_any x _ (by omega) HF7.out.1).mono ?_
    rintro e w8 ⟨rfl, hb8⟩
    have HY8 := Lib.hid (bytes_next HY7.out hb8)
    have HF8 := Lib.hid (facts3_keep HF7.out hb8)
    have HB8 := Lib.hid (bt HB7.out hb8)
    clear hb8
    go_wp2_with fail
    refine (specAppend_any x _ (by omega)).mono ?_
    rintro e w9 ⟨rfl, hb9⟩
    have HY9 := Lib.hid (bytes_next HY8.out hb9)
    have HF9 := Lib.hid (facts3_keep HF8.out hb9)
    have HB9 := Lib.hid (bt HB8.out hb9)
    clear hb9
    have HAC := Lib.hid (asI_cases x.data.toList)
    rcases HAC.out with hno | ⟨hyes, hfree, hsize⟩
    · rw [hno]
      clear HAC hno
      go_wp2_with fail
      refine (implParseInt_any S _ (by omega) HF9.out).mono ?_
      rintro e w10 ⟨rfl, hb10⟩
      have HB10 := Lib.hid (bt HB9.out hb10)
      clear hb10
      cases ok with
      | true =>
        rw [HSP.out rfl]
        go_wp2
        go_ret
        exact ⟨by simp, HB10.out⟩
      | false =>
        go_wp2
        go_ret
        exact ⟨by simp, HB10.out⟩
    · have HV1 : Hid (∀ w, Facts3 w → Calls Tryd.prog 22 #[.string ⟨(slg x.data.toList).toArray⟩] w fun e w' => e = .returned (.tuple #[.string x, .bool true]) ∧ Below w.heap.size w w') := Lib.hid (fun w hf => by
        have h := implVerify_any ⟨(slg x.data.toList).toArray⟩ w (by show (slg x.data.toList).toArray.size ≤ _; simp; omega) hf.1
        rw [show (ByteArray.mk (slg x.data.toList).toArray).data.toList = slg x.data.toList by simp, vfI_slg _ hfree hsize] at h
        simpa only [mk_list] using h)
      have HV2 : Hid (∀ (k : Nat) (c : UInt8) (w : World), Facts3 w → k < (slg x.data.toList).length → (slg x.data.toList)[k]? ≠ some c → Calls Tryd.prog 22 #[.string ⟨((slg x.data.toList).set k c).toArray⟩] w fun e w' => ∃ z : ByteArray, e = .returned (.tuple #[.string z, .bool false]) ∧ Below w.heap.size w w') := Lib.hid (fun k c w hf hk hc => by
        refine (implVerify_any ⟨((slg x.data.toList).set k c).toArray⟩ w (by show ((slg x.data.toList).set k c).toArray.size ≤ _; simp; omega) hf.1).mono ?_
        rw [show (ByteArray.mk ((slg x.data.toList).set k c).toArray).data.toList = (slg x.data.toList).set k c by simp, vfI_one _ hfree k hk c hc]
        rintro e w' ⟨he, hb⟩
        exact ⟨_, he, hb⟩)
      have hpos : 0 < (slg x.data.toList).length := by have := slg_len x.data.toList; omega
      rw [hyes]
      clear HAC hyes hfree
      generalize slg x.data.toList = q at HV1 HV2 hpos hsize ⊢
      have hts : (ByteArray.mk q.toArray).size = q.length := by show q.toArray.size = _; simp
      have hne : (q.length : Int) ≠ 0 := by omega
      have hsz2 : ((ByteArray.mk q.toArray).size : Int) = (q.length : Int) := by rw [hts]
      go_wp2_with fail
      refine (implParseInt_any S _ (by omega) HF9.out).mono ?_
      rintro e w10 ⟨rfl, hb10⟩
      have HY10 := Lib.hid (bytes_next HY9.out hb10)
      have HF10 := Lib.hid (facts3_keep HF9.out hb10)
      have HB10 := Lib.hid (bt HB9.out hb10)
      clear hb10
      have hgo : ∃ m2 fine2, (piI S.data.toList).1 = m2 ∧ (piI S.data.toList).2 = fine2 ∧ (ok = true → m2 = n ∧ fine2 = true) := ⟨_, _, rfl, rfl, fun h => by rw [HSP.out h]; exact ⟨rfl, rfl⟩⟩
      obtain ⟨m2, fine2, e1, e2, hgo⟩ := hgo
      rw [e1, e2]
      clear e1 e2 HSP
      have hgo2 : ok = false ∨ (ok = true ∧ m2 = n ∧ fine2 = true) := by cases ok; exact .inl rfl; exact .inr ⟨rfl, hgo rfl⟩
      clear hgo
      rcases hgo2 with rfl | ⟨rfl, rfl, rfl⟩
      all_goals
        go_wp2_with fail
        refine (HV1.out _ HF10.out).mono ?_
        rintro e w11 ⟨rfl, hb11⟩
        have HY11 := Lib.hid (bytes_next HY10.out hb11)
        have HF11 := Lib.hid (facts3_keep HF10.out hb11)
        have HB11 := Lib.hid (bt HB10.out hb11)
        clear hb11
        obtain ⟨w12, cap2, hcv, hb12, hc12, hf12, hs12⟩ := bytesW q w11
        have HY12 := Lib.hid (bytes_next HY11.out hb12)
        have HF12 := Lib.hid (facts3_keep HF11.out hb12)
        have HB12 := Lib.hid (bt HB11.out hb12)
        have HC12 := Lib.hid hc12
        have HFR12 := Lib.hid hf12
        clear hb12 hc12 hf12
        go_wp2_with fail
        refine (vAt_any a len cap 9 w12 HY12.out hl (by omega)).mono ?_
        rintro e w13 ⟨z9, rfl, z0, z1, rfl⟩
        obtain ⟨zn, rfl⟩ := Int.eq_ofNat_of_zero_le z0
        have hm : (zn : Int) % (q.length : Int) = ((zn % q.length : Nat) : Int) := by simp
        have hk : zn % q.length < q.length := Nat.mod_lt _ hpos
        have hqp : (0 : Int) < (q.length : Int) := by omega
        obtain ⟨b0, hqb, hcb⟩ := HC12.out _ hk
        have hfb := HFR12.out _ hk
        have HCB := Lib.hid hcb
        generalize zn % q.length = k at hm hk hqb hcb hfb HCB
        have HQB := Lib.hid hqb
        have hkI : (k : Int) < (q.length : Int) := by omega
        have hk0 : (0 : Int) ≤ (k : Int) := by omega
        clear hqb
        obtain ⟨z10, y0, y1, hv10⟩ := vAt_ex a len cap 10 w12 HY12.out hl (by omega)
        obtain ⟨c0, hx0, hcne⟩ := xorB b0 z10 y0 y1
        have HV10 := Lib.hid hv10
        clear hv10
        go_wp2_with fail
        rw [hm]
        refine wp_region_still_tail 13 (by kernel_rfl) (by kernel_rfl) ?_
        simp only [List.take_succ_cons, List.take_zero, List.drop_succ_cons, List.drop_zero]
        clear hm z0 z1 hsz2 hts hne hcv hs12
        still_step
        still_step
        still_step
        still_step
        still_step
        still_step
        still_step
        still_call (HV10.out _ rfl)
        still_step
        still_step
        still_step
        still_step
        still_step
        refine wpStill_nil ?_
        change wpList _ _ _ _ _ w12.drew
        have hbd : Below w12.heap.size w12 w12.drew := ⟨rfl, rfl, rfl, Nat.le_refl _, fun _ _ => rfl⟩
        have hcd : ∀ j, j < q.length → ∃ b : UInt8, q[j]? = some b ∧ w12.drew.cell? ⟨w11.heap.size, j, none⟩ = some (.int .u8 (b.toNat : Int)) := fun j hj => by
          obtain ⟨b, g1, g2⟩ := HC12.out j hj
          exact ⟨b, g1, g2⟩
        have hfd : w12.drew.frozen? ⟨w11.heap.size, k, none⟩ = false := hfb
        have hcbd : w12.drew.cell? ⟨w11.heap.size, k, none⟩ = some (.int .u8 (b0.toNat : Int)) := hcb
        have HB13 := Lib.hid (bt HB12.out hbd)
        have HF13 := Lib.hid (facts3_keep HF12.out hbd)
        clear hbd hfb hcb
        generalize w12.drew = wd at hcd hfd hcbd HB13 HF13 ⊢
        have hcv2 := bytesBack q k c0 wd w11.heap.size cap2 hcd hk
        have HB14 : Hid (Below w0.heap.size w0 (wd.setCell ⟨w11.heap.size, k, none⟩ (.int .u8 (c0.toNat : Int)))) := Lib.hid (HB13.out.setCell HB11.out.size _)
        have HF14 : Hid (Facts3 (wd.setCell ⟨w11.heap.size, k, none⟩ (.int .u8 (c0.toNat : Int)))) := Lib.hid (facts3_keep HF0.out HB14.out)
        clear hcd
        go_wp2_with fail
        refine (HV2.out k c0 _ HF14.out hk (by rw [HQB.out]; intro e; exact hcne (Option.some.inj e).symm)).mono ?_
        rintro e w16 ⟨z, rfl, hb16⟩
        have HB16 := Lib.hid (HB14.out.trans (hb16.mono HB14.out.size))
        clear hb16
        go_wp2
        go_ret
        exact ⟨by simp, HB16.out⟩
  · clear hb0 hF ha
    go_enter Tryd.func8, Tryd.ntmps8
    go_wp2_with ((go_at_call 23; refine (vBigS_yes a len cap _ hl hml).mono ?_; rintro e w1 ⟨rfl, rfl⟩))
    go_ret
    exact ⟨rfl, Below.refl _ _⟩

end Go.Proofs.YtegpbgdmehipnaaDoor
