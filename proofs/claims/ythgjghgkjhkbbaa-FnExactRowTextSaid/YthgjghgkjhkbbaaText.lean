/-
  Contracts of the text of a row (the reference and the program). Condition: a row that the call owns.
-/
import Derived.Test.YthgjghgkjhkbbaaRow
import Derived.Test.YthgjghgkjhkbbaaBarC
import Derived.Test.YthgjghgkjhkbbaaStr
import Derived.Test.YthgjghgkjhkbbaaJoinP
import Derived.Test.YthgjghgkjhkbbaaTo
namespace Go.Proofs.Ythgjghgkjhkbbaa
open Go.RowKit
set_option linter.unusedVariables false


/-- A cell's word, a row's words, its text. -/
def wordC (c : Int) : List UInt8 := if c = 0 then [45] else bars c.toNat 7
theorem wordC_len (c : Int) : (wordC c).length ≤ 7 := by
  unfold wordC; split
  · simp
  · exact bars_len _ 7
theorem wordC_nat (c : Nat) : wordC (c : Int) = if c = 0 then [45] else bars c 7 := by
  unfold wordC
  by_cases h : c = 0
  · subst h; rfl
  · rw [if_neg h, if_neg (by omega), Int.toNat_natCast]
def txt (xs : List Int) : List UInt8 := Lib.join (xs.map wordC) [32]
def wds (xs : List Int) : List ByteArray := xs.map fun c => ByteArray.mk (wordC c).toArray
theorem wds_txt (xs : List Int) : Lib.join ((wds xs).map (·.data.toList)) [32] = txt xs := by
  unfold wds txt
  rw [List.map_map]
  congr 1
theorem at_map (xs : List Int) (k : Nat) (x : Int) (hk : k < xs.length) (hx : xs.getD k 0 = x) : (xs.map wordC)[k]? = some (wordC x) := by
  rw [List.getElem?_map, List.getElem?_eq_getElem hk]
  rw [← hx]
  simp [List.getD, List.getElem?_eq_getElem hk]
theorem txt_first (xs : List Int) (x : Int) (hk : 0 < xs.length) (hx : xs.getD 0 0 = x) : txt (xs.take 1) = wordC x := by
  unfold txt
  rw [List.map_take]
  exact join_first _ _ (at_map xs 0 x hk hx) _
theorem txt_step (xs : List Int) (k : Nat) (x : Int) (h0 : 0 < k) (hk : k < xs.length) (hx : xs.getD k 0 = x) : txt (xs.take (k + 1)) = txt (xs.take k) ++ [32] ++ wordC x := by
  unfold txt
  rw [List.map_take, List.map_take]
  exact join_step _ k _ (at_map xs k x hk hx) h0 _
theorem txt_len (xs : List Int) : (txt xs).length ≤ 8 * xs.length := by
  have h : ∀ (l : List (List UInt8)), (∀ s ∈ l, s.length ≤ 7) → (Lib.joinTail [32] l).length ≤ 8 * l.length := by
    intro l
    induction l with
    | nil => simp [Lib.joinTail]
    | cons a t ih =>
      intro hl
      have h1 := ih (fun s hs => hl s (by simp [hs]))
      have h2 := hl a (by simp)
      have e : Lib.joinTail [32] (a :: t) = [32] ++ a ++ Lib.joinTail [32] t := by simp [Lib.joinTail]
      rw [e, List.length_append, List.length_append, List.length_cons]
      simp; omega
  cases xs with
  | nil => simp [txt, Lib.join_nil]
  | cons a t =>
    have h1 := h (t.map wordC) (fun s hs => by rw [List.mem_map] at hs; obtain ⟨c, _, rfl⟩ := hs; exact wordC_len c)
    have h2 := wordC_len a
    rw [List.length_map] at h1
    unfold txt
    rw [List.map_cons, Lib.join_cons, List.length_append, List.length_cons]
    omega
theorem wds_step (xs : List Int) (k : Nat) (x : Int) (hk : k < xs.length) (hx : xs.getD k 0 = x) : wds (xs.take (k + 1)) = wds (xs.take k) ++ [ByteArray.mk (wordC x).toArray] := by
  have h2 : xs[k] = x := by simpa [List.getD, List.getElem?_eq_getElem hk] using hx
  rw [List.take_succ_eq_append_getElem hk, h2]
  unfold wds
  rw [List.map_append]
  rfl
theorem wds_len (xs : List Int) : (wds xs).length = xs.length := by simp [wds]
theorem mk_app (a b : List UInt8) : ByteArray.mk a.toArray ++ ByteArray.mk b.toArray = ByteArray.mk (a ++ b).toArray := ByteArray.mk_append_mk a b

set_option maxHeartbeats 2000000 in
theorem l2Text_any {A : Nat} (v : Value) (xs : List Int) (w : World) (hv : Own A w v xs) (hr : isRow xs = true) :
    Calls Try.prog 59 #[v] w fun e w' => e = .returned (.string ⟨(txt xs).toArray⟩) ∧ w = w' := by
  have hl6 := isRow_len xs hr
  have HCe := Lib.hid (isRow_cell xs hr)
  clear hr
  rcases own_cases hv with ⟨rfl, rfl⟩ | ⟨g, cap, rfl, hg1, hg2, hg3, hg4, hgc, hgf⟩
  · go_enter Try.func59, Try.ntmps59
    go_wp2
    refine wp_loop_rounds 1 ?_
    rw [rounds_succ]
    go_wp2
    go_ret
    exact ⟨rfl, rfl⟩
  · generalize hn : xs.length = n at *
    have HN := Lib.hid hn
    have HC := Lib.hid hgc
    clear hgc hgf hn hv hg1 hg2 hg3 hg4
    go_enter Try.func59, Try.ntmps59
    go_wp2
    go_loop [3, 4] (fun sv iv => ∃ k : Nat, k ≤ n ∧ iv = .int .i64 k ∧ sv = .string ⟨(txt (xs.take k)).toArray⟩) (fun _ iv => n - (intOf iv).toNat)
    case atStart => exact ⟨0, by omega, rfl, rfl⟩
    case round =>
      obtain ⟨k, hk, rfl, rfl⟩ := hrel
      by_cases hlt : k < n
      · have hcell := HC.out k hlt
        have hcr := HCe.out k hlt
        have hln := txt_len (xs.take k)
        rw [List.length_take] at hln
        have hln : (txt (xs.take k)).length ≤ 48 := by omega
        obtain ⟨x, hx⟩ : ∃ x, xs.getD k 0 = x := ⟨_, rfl⟩
        rw [hx] at hcell hcr
        have hc2 : ∃ c : Nat, x = (c : Int) := Int.eq_ofNat_of_zero_le hcr.1
        obtain ⟨c, rfl⟩ := hc2
        have hc : c < 128 := by omega
        have HB := Lib.hid (l2Bars_any c)
        have hbl := bars_len c 7
        have HW := Lib.hid (wordC_nat c)
        have HK : Hid (k < xs.length) := Lib.hid (by rw [HN.out]; exact hlt)
        have HXX := Lib.hid hx
        clear hx hcr
        by_cases hk0 : k = 0
        · subst hk0
          by_cases hc0 : c = 0
          · subst hc0
            have HF : Hid (ByteArray.mk #[] ++ ByteArray.mk #[45] ++ ByteArray.mk (bars 0 7).toArray = ⟨(txt (xs.take (0 + 1))).toArray⟩) := Lib.hid (by rw [txt_first xs _ HK.out HXX.out, HW.out, if_pos rfl]; rfl)
            have HE : Hid ((txt (xs.take 0)).toArray = #[]) := Lib.hid rfl
            rw [HE.out]
            go_wp2_with ((go_at_call 74; refine (HB.out _ (by omega)).mono ?_; rintro e w2 ⟨rfl, rfl⟩))
            go_round
            case rel => exact ⟨0 + 1, by omega, by go_num, congrArg Value.string HF.out⟩
            case measure => simp [intOf]; omega
          · have hb1 : ((c : Int) == 0) = false := by simpa using hc0
            have HF : Hid (ByteArray.mk #[] ++ ByteArray.mk (bars c 7).toArray = ⟨(txt (xs.take (0 + 1))).toArray⟩) := Lib.hid (by rw [txt_first xs _ HK.out HXX.out, HW.out, if_neg hc0]; exact ByteArray.empty_append)
            have HE : Hid ((txt (xs.take 0)).toArray = #[]) := Lib.hid rfl
            rw [HE.out]
            clear hc0
            generalize bars c 7 = t at HB hbl HF
            go_wp2_with ((go_at_call 74; refine (HB.out _ (by omega)).mono ?_; rintro e w2 ⟨rfl, rfl⟩))
            go_round
            case rel => exact ⟨0 + 1, by omega, by go_num, congrArg Value.string HF.out⟩
            case measure => simp [intOf]; omega
        · have hk1 : (0 : Int) < (k : Int) := by omega
          have hk2 : 0 < k := by omega
          by_cases hc0 : c = 0
          · subst hc0
            have HF : Hid (ByteArray.mk (txt (xs.take k)).toArray ++ ByteArray.mk #[32] ++ ByteArray.mk #[45] ++ ByteArray.mk (bars 0 7).toArray = ⟨(txt (xs.take (k + 1))).toArray⟩) := Lib.hid (by
              rw [txt_step xs k _ hk2 HK.out HXX.out, HW.out, if_pos rfl, show bars 0 7 = [] from rfl, ← mk_app, ← mk_app]
              rw [show ByteArray.mk ([] : List UInt8).toArray = ByteArray.empty from rfl, ByteArray.append_empty])
            generalize txt (xs.take k) = s at hln HF ⊢
            go_wp2_with ((go_at_call 74; refine (HB.out _ (by omega)).mono ?_; rintro e w2 ⟨rfl, rfl⟩))
            go_round
            case rel => exact ⟨k + 1, by omega, by go_num, congrArg Value.string HF.out⟩
            case measure => simp [intOf]; omega
          · have hb1 : ((c : Int) == 0) = false := by simpa using hc0
            have HF : Hid (ByteArray.mk (txt (xs.take k)).toArray ++ ByteArray.mk #[32] ++ ByteArray.mk (bars c 7).toArray = ⟨(txt (xs.take (k + 1))).toArray⟩) := Lib.hid (by
              rw [txt_step xs k _ hk2 HK.out HXX.out, HW.out, if_neg hc0, ← mk_app, ← mk_app])
            clear hc0
            generalize bars c 7 = t at HB hbl HF
            generalize txt (xs.take k) = s at hln HF ⊢
            go_wp2_with ((go_at_call 74; refine (HB.out _ (by omega)).mono ?_; rintro e w2 ⟨rfl, rfl⟩))
            go_round
            case rel => exact ⟨k + 1, by omega, by go_num, congrArg Value.string HF.out⟩
            case measure => simp [intOf]; omega
      · obtain rfl : k = n := by omega
        have he : xs.take k = xs := List.take_of_length_le (by rw [HN.out]; exact Nat.le_refl _)
        rw [he]
        go_wp2
        go_ret
        exact ⟨rfl, rfl⟩

end Go.Proofs.Ythgjghgkjhkbbaa
