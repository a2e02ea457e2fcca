/-
  Contracts: a text with its checksum (the reference and the program). Condition: at most 2^20 bytes; the table of the powers of ten lies as the program lays it.
-/
import Derived.Test.YtegpbgdmehipnaaDoorSealP
import Derived.Test.YtegpbgdmehipnaaDoorFmt
import Derived.Test.YtegpbgdmehipnaaDoorJoinC
import Derived.Test.YtegpbgdmehipnaaDoorSum
import Derived.Test.YtegpbgdmehipnaaDoorSplitC
namespace Go.Proofs.YtegpbgdmehipnaaDoor
open Go.RowKit
set_option linter.unusedVariables false


theorem ck_nat (l : List UInt8) : ck l = ((ck l).toNat : Int) := by have := ck_rng l; omega
theorem itoa_ck (l : List UInt8) : Lib.itoa (ck l) = Lib.decDigits (ck l).toNat := by
  have h := itoa_pos (ck l).toNat
  rw [← ck_nat l] at h
  exact h
theorem slg_bytes (s : ByteArray) : s ++ ⟨#[35]⟩ ++ ⟨(Lib.decDigits (ck s.data.toList).toNat).toArray⟩ = ⟨(slg s.data.toList).toArray⟩ := by
  refine ba_ext ?_
  simp [slg]
theorem sz_list (s : ByteArray) : s.data.toList.length = s.size := by rw [Array.length_toList]; rfl

set_option maxHeartbeats 1000000 in
theorem l1Seal_any (s : ByteArray) (w : World) (hs : s.size ≤ 1048576) :
    Calls Tryd.prog 45 #[.string s] w fun e w' => e = .returned (.string ⟨(slg s.data.toList).toArray⟩) ∧ Below w.heap.size w w' := by
  have H1 := Lib.hid (fun w => l1Sum_any s w hs)
  have hr := ck_rng s.data.toList
  have H2 := Lib.hid (fun w => l1Num_any (ck s.data.toList) w (by omega) (by omega))
  rw [itoa_ck] at H2
  have HF := Lib.hid (slg_bytes s)
  have hdl := dd_l 5 (ck s.data.toList).toNat (by simp; omega)
  generalize Lib.decDigits (ck s.data.toList).toNat = d at H2 HF hdl
  generalize ck s.data.toList = c at H1 H2 hr
  go_enter Tryd.func45, Tryd.ntmps45
  go_wp2_with (first | (go_at_call 59; refine (H1.out _).mono ?_; rintro e w1 ⟨rfl, rfl⟩) | (go_at_call 36; refine (H2.out _).mono ?_; rintro e w2 ⟨rfl, hb2⟩))
  go_ret
  exact ⟨by rw [← HF.out]; rfl, hb2⟩

def asB (l : List UInt8) : ByteArray × Bool := (⟨(asI l).1.toArray⟩, (asI l).2)
set_option maxHeartbeats 2000000 in
theorem specAppend_any (s : ByteArray) (w : World) (hs : s.size ≤ 1048576) :
    Calls Tryd.prog 19 #[.string s] w fun e w' => e = .returned (.tuple #[.string ⟨(asI s.data.toList).1.toArray⟩, .bool (asI s.data.toList).2]) ∧ Below w.heap.size w w' := by
  have hl := sz_list s
  have H1 := Lib.hid (fun w => l1Stands_any s 35 w hs)
  have H2 := Lib.hid (fun w => l1Seal_any s w hs)
  have hsl := slg_len s.data.toList
  have HM := Lib.hid (asI_mem s.data.toList)
  have HO := Lib.hid (asI_over s.data.toList)
  have HY := Lib.hid (asI_yes s.data.toList)
  have HB := Lib.hid (stB_mem s.data.toList 35)
  rw [hl] at hsl
  by_cases h4 : s.size ≤ 4000
  · have HL4 : Hid (s.data.toList.length ≤ 4000) := Lib.hid (by omega)
    cases hst : stB s.data.toList 35 with
    | true =>
      have HR := Lib.hid (HM.out (HB.out.1 hst))
      rw [hst] at H1
      rw [HR.out]
      clear hl hst hsl
      go_enter Tryd.func19, Tryd.ntmps19
      go_wp2_with ((go_at_call 44; refine (H1.out _).mono ?_; rintro e w1 ⟨rfl, q, rfl⟩))
      go_ret2
      exact ⟨rfl, belowQ _ _⟩
    | false =>
      have HN : Hid (35 ∉ s.data.toList) := Lib.hid (fun hm => by rw [HB.out.2 hm] at hst; cases hst)
      rw [hst] at H1
      by_cases h5 : (slg s.data.toList).length ≤ 4000
      · have HR := Lib.hid (HY.out HL4.out HN.out h5)
        rw [HR.out]
        generalize slg s.data.toList = z at H2 h5 hsl ⊢
        clear hl hst HR HY HO
        go_enter Tryd.func19, Tryd.ntmps19
        go_wp2_with fail
        refine (H1.out _).mono ?_
        rintro e w1 ⟨rfl, q, rfl⟩
        go_wp2_with fail
        refine (H2.out _).mono ?_
        rintro e w2 ⟨rfl, hb2⟩
        go_wp2_with fail
        refine (H2.out _).mono ?_
        rintro e w3 ⟨rfl, hb3⟩
        go_wp2
        go_ret2
        exact ⟨rfl, bt (bt (belowQ _ _) hb2) hb3⟩
      · have HR := Lib.hid (HO.out h5)
        rw [HR.out]
        generalize slg s.data.toList = z at H2 h5 hsl
        clear hl hst HR HY HO
        go_enter Tryd.func19, Tryd.ntmps19
        go_wp2_with ((go_at_call 44; refine (H1.out _).mono ?_; rintro e w1 ⟨rfl, q, rfl⟩))
        go_wp2_with ((go_at_call 45; refine (H2.out _).mono ?_; rintro e w2 ⟨rfl, hb2⟩))
        go_ret2
        exact ⟨rfl, bt (belowQ _ _) hb2⟩
  · have HR := Lib.hid (asI_long s.data.toList (by omega))
    rw [HR.out]
    clear hl hsl
    go_enter Tryd.func19, Tryd.ntmps19
    go_wp2
    go_ret2
    exact ⟨rfl, Below.refl _ _⟩

set_option maxHeartbeats 2000000 in
theorem implAppend_any (s : ByteArray) (w : World) (hs : s.size ≤ 1048576) (hF : Facts w) :
    Calls Tryd.prog 20 #[.string s] w fun e w' => e = .returned (.tuple #[.string ⟨(asI s.data.toList).1.toArray⟩, .bool (asI s.data.toList).2]) ∧ Below w.heap.size w w' := by
  have hl := sz_list s
  have HCo := Lib.hid (Tryd.strings_Contains_one s 35)
  have H1 := Lib.hid (fun w => checksum_any s w hs)
  have hr := ck_rng s.data.toList
  have H2 := Lib.hid (itoaL_any (ck s.data.toList) w (by omega) (by omega) hF)
  rw [itoa_ck] at H2
  have HF := Lib.hid (slg_bytes s)
  have hdl := dd_l 5 (ck s.data.toList).toNat (by simp; omega)
  have hsl : (slg s.data.toList).length = s.size + 1 + (Lib.decDigits (ck s.data.toList).toNat).length := by
    unfold slg; rw [List.length_append, List.length_append, hl]; rfl
  have HM := Lib.hid (asI_mem s.data.toList)
  have HO := Lib.hid (asI_over s.data.toList)
  have HY := Lib.hid (asI_yes s.data.toList)
  have HB := Lib.hid (stB_mem s.data.toList 35)
  rw [hsl] at HO HY
  clear hF
  by_cases h4 : s.size ≤ 4000
  · have HL4 : Hid (s.data.toList.length ≤ 4000) := Lib.hid (by omega)
    cases hst : stB s.data.toList 35 with
    | true =>
      have HR := Lib.hid (HM.out (HB.out.1 hst))
      have HST : Hid (decide (0 ≤ Lib.indexByte s.data.toList 35) = true) := Lib.hid hst
      rw [HR.out]
      clear hl hst hsl hr hdl
      go_enter Tryd.func20, Tryd.ntmps20
      go_wp2_with ((go_at_call 46; refine (HCo.out _).mono ?_; rintro e w1 ⟨rfl, rfl⟩; rw [HST.out]))
      go_ret2
      exact ⟨rfl, Below.refl _ _⟩
    | false =>
      have HN : Hid (35 ∉ s.data.toList) := Lib.hid (fun hm => by rw [HB.out.2 hm] at hst; cases hst)
      have HST : Hid (decide (0 ≤ Lib.indexByte s.data.toList 35) = false) := Lib.hid hst
      generalize Lib.decDigits (ck s.data.toList).toNat = d at H2 HF hdl hsl HO HY
      generalize ck s.data.toList = c at H1 H2 hr
      by_cases h5 : s.size + 1 + d.length ≤ 4000
      · have HR := Lib.hid (HY.out HL4.out HN.out h5)
        rw [HR.out]
        clear hl hst hsl HR HY HO
        go_enter Tryd.func20, Tryd.ntmps20
        go_wp2_with (first | (go_at_call 46; refine (HCo.out _).mono ?_; rintro e w1 ⟨rfl, rfl⟩; rw [HST.out]) | (go_at_call 47; refine (H1.out _).mono ?_; rintro e w1 ⟨rfl, rfl⟩) | (go_at_call 38; refine H2.out.mono ?_; rintro e w2 ⟨rfl, hb2⟩))
        go_ret2
        exact ⟨(by rw [← HF.out] <;> first | done | rfl), hb2⟩
      · have HR := Lib.hid (HO.out h5)
        rw [HR.out]
        clear hl hst hsl HR HY HO
        go_enter Tryd.func20, Tryd.ntmps20
        go_wp2_with (first | (go_at_call 46; refine (HCo.out _).mono ?_; rintro e w1 ⟨rfl, rfl⟩; rw [HST.out]) | (go_at_call 47; refine (H1.out _).mono ?_; rintro e w1 ⟨rfl, rfl⟩) | (go_at_call 38; refine H2.out.mono ?_; rintro e w2 ⟨rfl, hb2⟩))
        go_ret2
        exact ⟨rfl, hb2⟩
  · have HR := Lib.hid (asI_long s.data.toList (by omega))
    rw [HR.out]
    clear hl hsl hr hdl
    go_enter Tryd.func20, Tryd.ntmps20
    go_wp2
    go_ret2
    exact ⟨rfl, Below.refl _ _⟩

end Go.Proofs.YtegpbgdmehipnaaDoor
