/-
  Contracts of the text of a row (the reference and the program). Condition: a row that the call owns.
-/
import Derived.Test.YthgjghgkjhkbbaaGreatDoorRow
import Derived.Test.YthgjghgkjhkbbaaGreatDoorBarC
import Derived.Test.YthgjghgkjhkbbaaGreatDoorStr
import Derived.Test.YthgjghgkjhkbbaaGreatDoorTextP
import Derived.Test.YthgjghgkjhkbbaaGreatDoorTo
namespace Go.Proofs.YthgjghgkjhkbbaaGreatDoor
open Go.RowKit
set_option linter.unusedVariables false
set_option maxRecDepth 20000


set_option maxHeartbeats 2000000 in
theorem l2Text_any {A : Nat} (v : Value) (xs : List Int) (w : World) (hv : Own A w v xs) (hr : isRow xs = true) :
    Calls Tryz.prog 57 #[v] w fun e w' => e = .returned (.string ⟨(txt xs).toArray⟩) ∧ w = w' := by
  have hl6 := isRow_len xs hr
  have HCe := Lib.hid (isRow_cell xs hr)
  clear hr
  rcases own_cases hv with ⟨rfl, rfl⟩ | ⟨g, cap, rfl, hg1, hg2, hg3, hg4, hgc, hgf⟩
  · go_enter Tryz.func57, Tryz.ntmps57
    go_wp2
    refine wp_loop_rounds 1 ?_
    rw [rounds_succ]
    go_wp2
    go_ret
    exact ⟨rfl, rfl⟩
  · generalize hn : xs.length = n at *
    have HN := Lib.hid hn
    have HC := Lib.hid hgc
    clear hgc hgf hn hv hg1 hg2 hg3 hg4
    go_enter Tryz.func57, Tryz.ntmps57
    go_wp2
    go_loop [3, 4] (fun sv iv => ∃ k : Nat, k ≤ n ∧ iv = .int .i64 k ∧ sv = .string ⟨(txt (xs.take k)).toArray⟩) (fun _ iv => n - (intOf iv).toNat)
    case atStart => exact ⟨0, by omega, rfl, rfl⟩
    case round =>
      obtain ⟨k, hk, rfl, rfl⟩ := hrel
      by_cases hlt : k < n
      · have hcell := HC.out k hlt
        have hcr := HCe.out k hlt
        have hln := txt_len (xs.take k)
        rw [List.length_take] at hln
        have hln : (txt (xs.take k)).length ≤ 48 := by omega
        obtain ⟨x, hx⟩ : ∃ x, xs.getD k 0 = x := ⟨_, rfl⟩
        rw [hx] at hcell hcr
        have hc2 : ∃ c : Nat, x = (c : Int) := Int.eq_ofNat_of_zero_le hcr.1
        obtain ⟨c, rfl⟩ := hc2
        have hc : c < 128 := by omega
        have HB := Lib.hid (l2Bars_any c)
        have hbl := bars_len c 7
        have HW := Lib.hid (wordC_nat c)
        have HK : Hid (k < xs.length) := Lib.hid (by rw [HN.out]; exact hlt)
        have HXX := Lib.hid hx
        clear hx hcr
        by_cases hk0 : k = 0
        · subst hk0
          by_cases hc0 : c = 0
          · subst hc0
            have HF : Hid (ByteArray.mk #[] ++ ByteArray.mk #[45] ++ ByteArray.mk (bars 0 7).toArray = ⟨(txt (xs.take (0 + 1))).toArray⟩) := Lib.hid (by rw [txt_first xs _ HK.out HXX.out, HW.out, if_pos rfl]; rfl)
            have HE : Hid ((txt (xs.take 0)).toArray = #[]) := Lib.hid rfl
            rw [HE.out]
            go_wp2_with ((go_at_call 80; refine (HB.out _ (by omega)).mono ?_; rintro e w2 ⟨rfl, rfl⟩))
            go_round
            case rel => exact ⟨0 + 1, by omega, by go_num, congrArg Value.string HF.out⟩
            case measure => simp [intOf]; omega
          · have hb1 : ((c : Int) == 0) = false := by simpa using hc0
            have HF : Hid (ByteArray.mk #[] ++ ByteArray.mk (bars c 7).toArray = ⟨(txt (xs.take (0 + 1))).toArray⟩) := Lib.hid (by rw [txt_first xs _ HK.out HXX.out, HW.out, if_neg hc0]; exact ByteArray.empty_append)
            have HE : Hid ((txt (xs.take 0)).toArray = #[]) := Lib.hid rfl
            rw [HE.out]
            clear hc0
            generalize bars c 7 = t at HB hbl HF
            go_wp2_with ((go_at_call 80; refine (HB.out _ (by omega)).mono ?_; rintro e w2 ⟨rfl, rfl⟩))
            go_round
            case rel => exact ⟨0 + 1, by omega, by go_num, congrArg Value.string HF.out⟩
            case measure => simp [intOf]; omega
        · have hk1 : (0 : Int) < (k : Int) := by omega
          have hk2 : 0 < k := by omega
          by_cases hc0 : c = 0
          · subst hc0
            have HF : Hid (ByteArray.mk (txt (xs.take k)).toArray ++ ByteArray.mk #[32] ++ ByteArray.mk #[45] ++ ByteArray.mk (bars 0 7).toArray = ⟨(txt (xs.take (k + 1))).toArray⟩) := Lib.hid (by
              rw [txt_step xs k _ hk2 HK.out HXX.out, HW.out, if_pos rfl, show bars 0 7 = [] from rfl, ← mk_app, ← mk_app]
              rw [show ByteArray.mk ([] : List UInt8).toArray = ByteArray.empty from rfl, ByteArray.append_empty])
            generalize txt (xs.take k) = s at hln HF ⊢
            go_wp2_with ((go_at_call 80; refine (HB.out _ (by omega)).mono ?_; rintro e w2 ⟨rfl, rfl⟩))
            go_round
            case rel => exact ⟨k + 1, by omega, by go_num, congrArg Value.string HF.out⟩
            case measure => simp [intOf]; omega
          · have hb1 : ((c : Int) == 0) = false := by simpa using hc0
            have HF : Hid (ByteArray.mk (txt (xs.take k)).toArray ++ ByteArray.mk #[32] ++ ByteArray.mk (bars c 7).toArray = ⟨(txt (xs.take (k + 1))).toArray⟩) := Lib.hid (by
              rw [txt_step xs k _ hk2 HK.out HXX.out, HW.out, if_neg hc0, ← mk_app, ← mk_app])
            clear hc0
            generalize bars c 7 = t at HB hbl HF
            generalize txt (xs.take k) = s at hln HF ⊢
            go_wp2_with ((go_at_call 80; refine (HB.out _ (by omega)).mono ?_; rintro e w2 ⟨rfl, rfl⟩))
            go_round
            case rel => exact ⟨k + 1, by omega, by go_num, congrArg Value.string HF.out⟩
            case measure => simp [intOf]; omega
      · obtain rfl : k = n := by omega
        have he : xs.take k = xs := List.take_of_length_le (by rw [HN.out]; exact Nat.le_refl _)
        rw [he]
        go_wp2
        go_ret
        exact ⟨rfl, rfl⟩

end Go.Proofs.YthgjghgkjhkbbaaGreatDoor
