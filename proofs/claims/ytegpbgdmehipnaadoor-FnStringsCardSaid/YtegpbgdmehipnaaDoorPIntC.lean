/-
  Contract: the number of a text (the reference). Condition: at most 2^20 bytes.
-/
import Derived.Test.YtegpbgdmehipnaaDoorPIntP
import Derived.Test.YtegpbgdmehipnaaDoorFmt
import Derived.Test.YtegpbgdmehipnaaDoorIn
import Derived.Test.YtegpbgdmehipnaaDoorSum
import Derived.Test.YtegpbgdmehipnaaDoorNumT
namespace Go.Proofs.YtegpbgdmehipnaaDoor
open Go.RowKit
set_option linter.unusedVariables false


theorem head_at (s : ByteArray) (h : 0 < s.size) : s.data.toList.head? = some (s[0]) := by
  rw [List.head?_eq_getElem?]
  exact (List.getElem?_eq_getElem (by simpa using h)).trans rfl
theorem tail_is (s : ByteArray) : (s.extract 1 s.size).data.toList = s.data.toList.tail := by
  rw [ByteArray.data_extract, Array.toList_extract]
  show (s.data.toList.drop 1).take (s.size - 1) = _
  rw [List.drop_one, List.take_of_length_le]
  rw [List.length_tail, Array.length_toList]
  exact Nat.le_refl _
set_option maxHeartbeats 8000000 in
theorem l1Read_any (s : ByteArray) (w : World) (hs : s.size ≤ 1048576) :
    Calls Tryd.prog 39 #[.string s] w fun e w' => e = .returned (.tuple #[.int .i64 (piI s.data.toList).1, .bool (piI s.data.toList).2]) ∧ Below w.heap.size w w' := by
  have hll : s.data.toList.length = s.size := by rw [Array.length_toList]; rfl
  by_cases h1 : 1 < s.size
  · have h01 : 0 < s.size := Nat.lt_trans (by decide) h1
    by_cases h45 : (s[0]'h01) = 45
    · have hcond : 1 < s.data.toList.length ∧ s.data.toList.head? = some 45 := ⟨by omega, by rw [head_at s h01, h45]⟩
      obtain ⟨T, hT⟩ : ∃ T, s.extract 1 s.size = T := ⟨_, rfl⟩
      have HT := Lib.hid hT
      have HMT : Hid (T.data.toList = magT s.data.toList) := Lib.hid (by rw [← hT, tail_is]; unfold magT; rw [if_pos hcond])
      have HSG : Hid (sgV s.data.toList = -((dv 0 T.data.toList : Nat) : Int)) := Lib.hid (by rw [HMT.out]; unfold sgV; rw [if_pos hcond])
      have hTs : T.size + 1 = s.size := by rw [← hT, ByteArray.size_extract]; omega
      have hb : ((((s[0]'h01).toNat : Nat) : Int) == 45) = true := by rw [h45]; rfl
      clear hcond hll h45
      go_enter Tryd.func39, Tryd.ntmps39
      go_wp2_with fail
      clear hT
      have hn0 : T.data.toList = magT s.data.toList := HMT.out
      have htl : T.data.toList.length = T.size := by rw [Array.length_toList]; rfl
      have HTL := Lib.hid htl
      have HM := Lib.hid hn0
      by_cases hr : 1 ≤ T.size ∧ T.size ≤ 6
      · obtain ⟨hr1, hr6⟩ := hr
        have HI := Lib.hid (l1In_any (T.size : Int) 1 6)
        rw [show inB (T.size : Int) 1 6 = true by unfold inB; rw [decide_eq_true (by omega), decide_eq_true (by omega)]; rfl] at HI
        have HREAD := Lib.hid (piI_read s.data.toList)
        have HND := Lib.hid (piI_nodig s.data.toList)
        rw [← hn0] at HREAD HND
        clear htl hn0
        refine (HI.out _).mono ?_
        rintro e w1 ⟨rfl, rfl⟩
        go_wp2
        go_loop [5, 6] (fun nv iv => ∃ k : Nat, k ≤ T.size ∧ iv = .int .i64 k ∧ nv = .int .i64 (dv 0 (T.data.toList.take k) : Nat) ∧ (T.data.toList.take k).all isDg = true) (fun _ iv => T.size - (intOf iv).toNat)
        case atStart => exact ⟨0, by omega, rfl, rfl, rfl⟩
        case round =>
          obtain ⟨k, hk, rfl, rfl, hall⟩ := hrel
          have hdl := dv_lt _ 0 hall
          rw [List.length_take] at hdl
          have hp6 : 10 ^ min k T.data.toList.length ≤ 10 ^ 6 := Nat.pow_le_pow_right (by decide) (by omega)
          have h10 : (10 : Nat) ^ 6 = 1000000 := rfl
          by_cases hlt : k < T.size
          · have hst : dv 0 (T.data.toList.take (k + 1)) = 10 * dv 0 (T.data.toList.take k) + ((T[k]).toNat - 48) := by
              rw [take_snoc T k hlt]
              unfold dv
              rw [List.foldl_append]
              rfl
            have hsa : (T.data.toList.take (k + 1)).all isDg = isDg (T[k]) := by
              rw [take_snoc T k hlt, List.all_append, hall, Bool.true_and, List.all_cons, List.all_nil, Bool.and_true]
            have hmem : (T[k]) ∈ T.data.toList := List.mem_of_getElem? (i := k) ((List.getElem?_eq_getElem (by simpa using hlt)).trans rfl)
            have hc := (T[k]).toNat_lt
            have HST := Lib.hid hst
            have HSA := Lib.hid hsa
            have HBADD : Hid (isDg (T[k]) = false → piI s.data.toList = (0, false)) := Lib.hid (fun h => HND.out (by
              cases ha : T.data.toList.all isDg with
              | false => rfl
              | true => rw [List.all_eq_true.1 ha _ hmem] at h; cases h))
            have HDG : Hid (isDg (T[k]) = decide (48 ≤ (T[k]).toNat ∧ (T[k]).toNat ≤ 57)) := Lib.hid rfl
            generalize dv 0 (T.data.toList.take k) = q at hdl HST ⊢
            have hq : q ≤ 999999 := by omega
            clear hst hsa hmem hall hdl hp6 h10
            by_cases h48 : (T[k]).toNat < 48
            · have HR := Lib.hid (HBADD.out (by rw [HDG.out]; exact decide_eq_false (by omega)))
              go_wp2
              go_ret2
              exact ⟨(by rw [HR.out] <;> first | done | rfl), Below.refl _ _⟩
            · by_cases h57 : 57 < (T[k]).toNat
              · have HR := Lib.hid (HBADD.out (by rw [HDG.out]; exact decide_eq_false (by omega)))
                go_wp2
                go_ret2
                exact ⟨(by rw [HR.out] <;> first | done | rfl), Below.refl _ _⟩
              · have HY : Hid (isDg (T[k]) = true) := Lib.hid (by rw [HDG.out]; exact decide_eq_true (by omega))
                have hsub : IntKind.u8.wrap ((((T[k]).toNat : Nat) : Int) - 48) = (((T[k]).toNat : Nat) : Int) - 48 := by
                  rw [show IntKind.u8.wrap ((((T[k]).toNat : Nat) : Int) - 48) = ((((T[k]).toNat : Nat) : Int) - 48) % 256 from rfl]; omega
                go_wp2
                go_round
                case rel => exact ⟨k + 1, by omega, by go_num, by rw [HST.out]; go_num, by rw [HSA.out]; exact HY.out⟩
                case measure => simp [intOf]; omega
          · obtain rfl : k = T.size := by omega
            have he : T.data.toList.take T.size = T.data.toList := List.take_of_length_le (by rw [HTL.out]; exact Nat.le_refl _)
            rw [he] at hall hdl ⊢
            have HR := Lib.hid (HREAD.out (by rw [HTL.out]; exact hr1) (by rw [HTL.out]; exact hr6) hall)
            have hsv : sgV s.data.toList = -((dv 0 T.data.toList : Nat) : Int) := HSG.out
            rw [hsv] at HR
            have hq : dv 0 T.data.toList ≤ 999999 := by omega
            have HNU := Lib.hid (fun w => l1Num_any (-((dv 0 T.data.toList : Nat) : Int)) w (by omega) (by omega))
            generalize dv 0 T.data.toList = q at HNU HR hq ⊢
            clear hall hdl hp6 h10 he hsv
            have hlts : (T.size : Int) < (s.size : Int) := by omega
            have hwq : IntKind.i64.wrap (-(q : Int)) = -(q : Int) := wrapN _ (by omega) (by omega)
            by_cases hz : Lib.itoa (-(q : Int)) = s.data.toList
            · rw [if_pos hz] at HR
              generalize Lib.itoa (-(q : Int)) = z at HNU hz
              have hb3 : (z == s.toList) = true := by rw [ByteArray.toList_eq]; simp [hz]
              clear hz
              go_wp2_with ((go_at_call 36; refine (HNU.out _).mono ?_; rintro e w2 ⟨rfl, hb2⟩))
              go_ret2
              exact ⟨(by rw [HR.out] <;> first | done | rfl), hb2⟩
            · rw [if_neg hz] at HR
              generalize Lib.itoa (-(q : Int)) = z at HNU hz
              have hb3 : (z == s.toList) = false := by rw [ByteArray.toList_eq]; simpa using hz
              clear hz
              go_wp2_with ((go_at_call 36; refine (HNU.out _).mono ?_; rintro e w2 ⟨rfl, hb2⟩))
              go_ret2
              exact ⟨(by rw [HR.out] <;> first | done | rfl), hb2⟩
      · have HR := Lib.hid (piI_short s.data.toList (by rw [← hn0, htl]; exact hr))
        have HI := Lib.hid (l1In_any (T.size : Int) 1 6)
        rw [show inB (T.size : Int) 1 6 = false by
          unfold inB
          by_cases h1 : 1 ≤ T.size
          · rw [decide_eq_false (show ¬ (T.size : Int) ≤ 6 by omega), Bool.and_false]
          · rw [decide_eq_false (show ¬ (1 : Int) ≤ (T.size : Int) by omega)]; rfl] at HI
        clear htl hn0
        refine (HI.out _).mono ?_
        rintro e w1 ⟨rfl, rfl⟩
        go_wp2
        go_ret2
        exact ⟨(by rw [HR.out] <;> first | done | rfl), Below.refl _ _⟩
    · have hnc : ¬ (1 < s.data.toList.length ∧ s.data.toList.head? = some 45) := fun h => h45 (by have := h.2; rw [head_at s h01] at this; injection this)
      have HMT : Hid (s.data.toList = magT s.data.toList) := Lib.hid (by unfold magT; rw [if_neg hnc])
      have HSG : Hid (sgV s.data.toList = ((dv 0 s.data.toList : Nat) : Int)) := Lib.hid (by unfold sgV; rw [if_neg hnc, ← HMT.out])
      have hb : ((((s[0]'h01).toNat : Nat) : Int) == 45) = false := by
        rw [beq_eq_false_iff_ne]
        intro h
        exact h45 (UInt8.toNat_inj.1 (by have : (45 : UInt8).toNat = 45 := rfl; omega))
      clear hnc hll h45
      go_enter Tryd.func39, Tryd.ntmps39
      go_wp2_with fail
      have hn0 : s.data.toList = magT s.data.toList := HMT.out
      have htl : s.data.toList.length = s.size := by rw [Array.length_toList]; rfl
      have HTL := Lib.hid htl
      have HM := Lib.hid hn0
      by_cases hr : 1 ≤ s.size ∧ s.size ≤ 6
      · obtain ⟨hr1, hr6⟩ := hr
        have HI := Lib.hid (l1In_any (s.size : Int) 1 6)
        rw [show inB (s.size : Int) 1 6 = true by unfold inB; rw [decide_eq_true (by omega), decide_eq_true (by omega)]; rfl] at HI
        have HREAD := Lib.hid (piI_read s.data.toList)
        have HND := Lib.hid (piI_nodig s.data.toList)
        rw [← hn0] at HREAD HND
        clear htl hn0
        refine (HI.out _).mono ?_
        rintro e w1 ⟨rfl, rfl⟩
        go_wp2
        go_loop [5, 6] (fun nv iv => ∃ k : Nat, k ≤ s.size ∧ iv = .int .i64 k ∧ nv = .int .i64 (dv 0 (s.data.toList.take k) : Nat) ∧ (s.data.toList.take k).all isDg = true) (fun _ iv => s.size - (intOf iv).toNat)
        case atStart => exact ⟨0, by omega, rfl, rfl, rfl⟩
        case round =>
          obtain ⟨k, hk, rfl, rfl, hall⟩ := hrel
          have hdl := dv_lt _ 0 hall
          rw [List.length_take] at hdl
          have hp6 : 10 ^ min k s.data.toList.length ≤ 10 ^ 6 := Nat.pow_le_pow_right (by decide) (by omega)
          have h10 : (10 : Nat) ^ 6 = 1000000 := rfl
          by_cases hlt : k < s.size
          · have hst : dv 0 (s.data.toList.take (k + 1)) = 10 * dv 0 (s.data.toList.take k) + ((s[k]).toNat - 48) := by
              rw [take_snoc s k hlt]
              unfold dv
              rw [List.foldl_append]
              rfl
            have hsa : (s.data.toList.take (k + 1)).all isDg = isDg (s[k]) := by
              rw [take_snoc s k hlt, List.all_append, hall, Bool.true_and, List.all_cons, List.all_nil, Bool.and_true]
            have hmem : (s[k]) ∈ s.data.toList := List.mem_of_getElem? (i := k) ((List.getElem?_eq_getElem (by simpa using hlt)).trans rfl)
            have hc := (s[k]).toNat_lt
            have HST := Lib.hid hst
            have HSA := Lib.hid hsa
            have HBADD : Hid (isDg (s[k]) = false → piI s.data.toList = (0, false)) := Lib.hid (fun h => HND.out (by
              cases ha : s.data.toList.all isDg with
              | false => rfl
              | true => rw [List.all_eq_true.1 ha _ hmem] at h; cases h))
            have HDG : Hid (isDg (s[k]) = decide (48 ≤ (s[k]).toNat ∧ (s[k]).toNat ≤ 57)) := Lib.hid rfl
            generalize dv 0 (s.data.toList.take k) = q at hdl HST ⊢
            have hq : q ≤ 999999 := by omega
            clear hst hsa hmem hall hdl hp6 h10
            by_cases h48 : (s[k]).toNat < 48
            · have HR := Lib.hid (HBADD.out (by rw [HDG.out]; exact decide_eq_false (by omega)))
              go_wp2
              go_ret2
              exact ⟨(by rw [HR.out] <;> first | done | rfl), Below.refl _ _⟩
            · by_cases h57 : 57 < (s[k]).toNat
              · have HR := Lib.hid (HBADD.out (by rw [HDG.out]; exact decide_eq_false (by omega)))
                go_wp2
                go_ret2
                exact ⟨(by rw [HR.out] <;> first | done | rfl), Below.refl _ _⟩
              · have HY : Hid (isDg (s[k]) = true) := Lib.hid (by rw [HDG.out]; exact decide_eq_true (by omega))
                have hsub : IntKind.u8.wrap ((((s[k]).toNat : Nat) : Int) - 48) = (((s[k]).toNat : Nat) : Int) - 48 := by
                  rw [show IntKind.u8.wrap ((((s[k]).toNat : Nat) : Int) - 48) = ((((s[k]).toNat : Nat) : Int) - 48) % 256 from rfl]; omega
                go_wp2
                go_round
                case rel => exact ⟨k + 1, by omega, by go_num, by rw [HST.out]; go_num, by rw [HSA.out]; exact HY.out⟩
                case measure => simp [intOf]; omega
          · obtain rfl : k = s.size := by omega
            have he : s.data.toList.take s.size = s.data.toList := List.take_of_length_le (by rw [HTL.out]; exact Nat.le_refl _)
            rw [he] at hall hdl ⊢
            have HR := Lib.hid (HREAD.out (by rw [HTL.out]; exact hr1) (by rw [HTL.out]; exact hr6) hall)
            have hsv : sgV s.data.toList = ((dv 0 s.data.toList : Nat) : Int) := HSG.out
            rw [hsv] at HR
            have hq : dv 0 s.data.toList ≤ 999999 := by omega
            have HNU := Lib.hid (fun w => l1Num_any (((dv 0 s.data.toList : Nat) : Int)) w (by omega) (by omega))
            generalize dv 0 s.data.toList = q at HNU HR hq ⊢
            clear hall hdl hp6 h10 he hsv

            by_cases hz : Lib.itoa ((q : Int)) = s.data.toList
            · rw [if_pos hz] at HR
              generalize Lib.itoa ((q : Int)) = z at HNU hz
              have hb3 : (z == s.toList) = true := by rw [ByteArray.toList_eq]; simp [hz]
              clear hz
              go_wp2_with ((go_at_call 36; refine (HNU.out _).mono ?_; rintro e w2 ⟨rfl, hb2⟩))
              go_ret2
              exact ⟨(by rw [HR.out] <;> first | done | rfl), hb2⟩
            · rw [if_neg hz] at HR
              generalize Lib.itoa ((q : Int)) = z at HNU hz
              have hb3 : (z == s.toList) = false := by rw [ByteArray.toList_eq]; simpa using hz
              clear hz
              go_wp2_with ((go_at_call 36; refine (HNU.out _).mono ?_; rintro e w2 ⟨rfl, hb2⟩))
              go_ret2
              exact ⟨(by rw [HR.out] <;> first | done | rfl), hb2⟩
      · have HR := Lib.hid (piI_short s.data.toList (by rw [← hn0, htl]; exact hr))
        have HI := Lib.hid (l1In_any (s.size : Int) 1 6)
        rw [show inB (s.size : Int) 1 6 = false by
          unfold inB
          by_cases h1 : 1 ≤ s.size
          · rw [decide_eq_false (show ¬ (s.size : Int) ≤ 6 by omega), Bool.and_false]
          · rw [decide_eq_false (show ¬ (1 : Int) ≤ (s.size : Int) by omega)]; rfl] at HI
        clear htl hn0
        refine (HI.out _).mono ?_
        rintro e w1 ⟨rfl, rfl⟩
        go_wp2
        go_ret2
        exact ⟨(by rw [HR.out] <;> first | done | rfl), Below.refl _ _⟩
  · have hnc : ¬ (1 < s.data.toList.length ∧ s.data.toList.head? = some 45) := fun h => h1 (by omega)
    have HMT : Hid (s.data.toList = magT s.data.toList) := Lib.hid (by unfold magT; rw [if_neg hnc])
    have HSG : Hid (sgV s.data.toList = ((dv 0 s.data.toList : Nat) : Int)) := Lib.hid (by unfold sgV; rw [if_neg hnc, ← HMT.out])
    clear hnc hll
    go_enter Tryd.func39, Tryd.ntmps39
    go_wp2_with fail
    have hn0 : s.data.toList = magT s.data.toList := HMT.out
    have htl : s.data.toList.length = s.size := by rw [Array.length_toList]; rfl
    have HTL := Lib.hid htl
    have HM := Lib.hid hn0
    by_cases hr : 1 ≤ s.size ∧ s.size ≤ 6
    · obtain ⟨hr1, hr6⟩ := hr
      have HI := Lib.hid (l1In_any (s.size : Int) 1 6)
      rw [show inB (s.size : Int) 1 6 = true by unfold inB; rw [decide_eq_true (by omega), decide_eq_true (by omega)]; rfl] at HI
      have HREAD := Lib.hid (piI_read s.data.toList)
      have HND := Lib.hid (piI_nodig s.data.toList)
      rw [← hn0] at HREAD HND
      clear htl hn0
      refine (HI.out _).mono ?_
      rintro e w1 ⟨rfl, rfl⟩
      go_wp2
      go_loop [5, 6] (fun nv iv => ∃ k : Nat, k ≤ s.size ∧ iv = .int .i64 k ∧ nv = .int .i64 (dv 0 (s.data.toList.take k) : Nat) ∧ (s.data.toList.take k).all isDg = true) (fun _ iv => s.size - (intOf iv).toNat)
      case atStart => exact ⟨0, by omega, rfl, rfl, rfl⟩
      case round =>
        obtain ⟨k, hk, rfl, rfl, hall⟩ := hrel
        have hdl := dv_lt _ 0 hall
        rw [List.length_take] at hdl
        have hp6 : 10 ^ min k s.data.toList.length ≤ 10 ^ 6 := Nat.pow_le_pow_right (by decide) (by omega)
        have h10 : (10 : Nat) ^ 6 = 1000000 := rfl
        by_cases hlt : k < s.size
        · have hst : dv 0 (s.data.toList.take (k + 1)) = 10 * dv 0 (s.data.toList.take k) + ((s[k]).toNat - 48) := by
            rw [take_snoc s k hlt]
            unfold dv
            rw [List.foldl_append]
            rfl
          have hsa : (s.data.toList.take (k + 1)).all isDg = isDg (s[k]) := by
            rw [take_snoc s k hlt, List.all_append, hall, Bool.true_and, List.all_cons, List.all_nil, Bool.and_true]
          have hmem : (s[k]) ∈ s.data.toList := List.mem_of_getElem? (i := k) ((List.getElem?_eq_getElem (by simpa using hlt)).trans rfl)
          have hc := (s[k]).toNat_lt
          have HST := Lib.hid hst
          have HSA := Lib.hid hsa
          have HBADD : Hid (isDg (s[k]) = false → piI s.data.toList = (0, false)) := Lib.hid (fun h => HND.out (by
            cases ha : s.data.toList.all isDg with
            | false => rfl
            | true => rw [List.all_eq_true.1 ha _ hmem] at h; cases h))
          have HDG : Hid (isDg (s[k]) = decide (48 ≤ (s[k]).toNat ∧ (s[k]).toNat ≤ 57)) := Lib.hid rfl
          generalize dv 0 (s.data.toList.take k) = q at hdl HST ⊢
          have hq : q ≤ 999999 := by omega
          clear hst hsa hmem hall hdl hp6 h10
          by_cases h48 : (s[k]).toNat < 48
          · have HR := Lib.hid (HBADD.out (by rw [HDG.out]; exact decide_eq_false (by omega)))
            go_wp2
            go_ret2
            exact ⟨(by rw [HR.out] <;> first | done | rfl), Below.refl _ _⟩
          · by_cases h57 : 57 < (s[k]).toNat
            · have HR := Lib.hid (HBADD.out (by rw [HDG.out]; exact decide_eq_false (by omega)))
              go_wp2
              go_ret2
              exact ⟨(by rw [HR.out] <;> first | done | rfl), Below.refl _ _⟩
            · have HY : Hid (isDg (s[k]) = true) := Lib.hid (by rw [HDG.out]; exact decide_eq_true (by omega))
              have hsub : IntKind.u8.wrap ((((s[k]).toNat : Nat) : Int) - 48) = (((s[k]).toNat : Nat) : Int) - 48 := by
                rw [show IntKind.u8.wrap ((((s[k]).toNat : Nat) : Int) - 48) = ((((s[k]).toNat : Nat) : Int) - 48) % 256 from rfl]; omega
              go_wp2
              go_round
              case rel => exact ⟨k + 1, by omega, by go_num, by rw [HST.out]; go_num, by rw [HSA.out]; exact HY.out⟩
              case measure => simp [intOf]; omega
        · obtain rfl : k = s.size := by omega
          have he : s.data.toList.take s.size = s.data.toList := List.take_of_length_le (by rw [HTL.out]; exact Nat.le_refl _)
          rw [he] at hall hdl ⊢
          have HR := Lib.hid (HREAD.out (by rw [HTL.out]; exact hr1) (by rw [HTL.out]; exact hr6) hall)
          have hsv : sgV s.data.toList = ((dv 0 s.data.toList : Nat) : Int) := HSG.out
          rw [hsv] at HR
          have hq : dv 0 s.data.toList ≤ 999999 := by omega
          have HNU := Lib.hid (fun w => l1Num_any (((dv 0 s.data.toList : Nat) : Int)) w (by omega) (by omega))
          generalize dv 0 s.data.toList = q at HNU HR hq ⊢
          clear hall hdl hp6 h10 he hsv

          by_cases hz : Lib.itoa ((q : Int)) = s.data.toList
          · rw [if_pos hz] at HR
            generalize Lib.itoa ((q : Int)) = z at HNU hz
            have hb3 : (z == s.toList) = true := by rw [ByteArray.toList_eq]; simp [hz]
            clear hz
            go_wp2_with ((go_at_call 36; refine (HNU.out _).mono ?_; rintro e w2 ⟨rfl, hb2⟩))
            go_ret2
            exact ⟨(by rw [HR.out] <;> first | done | rfl), hb2⟩
          · rw [if_neg hz] at HR
            generalize Lib.itoa ((q : Int)) = z at HNU hz
            have hb3 : (z == s.toList) = false := by rw [ByteArray.toList_eq]; simpa using hz
            clear hz
            go_wp2_with ((go_at_call 36; refine (HNU.out _).mono ?_; rintro e w2 ⟨rfl, hb2⟩))
            go_ret2
            exact ⟨(by rw [HR.out] <;> first | done | rfl), hb2⟩
    · have HR := Lib.hid (piI_short s.data.toList (by rw [← hn0, htl]; exact hr))
      have HI := Lib.hid (l1In_any (s.size : Int) 1 6)
      rw [show inB (s.size : Int) 1 6 = false by
        unfold inB
        by_cases h1 : 1 ≤ s.size
        · rw [decide_eq_false (show ¬ (s.size : Int) ≤ 6 by omega), Bool.and_false]
        · rw [decide_eq_false (show ¬ (1 : Int) ≤ (s.size : Int) by omega)]; rfl] at HI
      clear htl hn0
      refine (HI.out _).mono ?_
      rintro e w1 ⟨rfl, rfl⟩
      go_wp2
      go_ret2
      exact ⟨(by rw [HR.out] <;> first | done | rfl), Below.refl _ _⟩

end Go.Proofs.YtegpbgdmehipnaaDoor
