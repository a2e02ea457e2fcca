/-
  The law FnExactJoinStrings returns true. Condition: none but that the arguments are a slice of strings that came in and a string.
-/
import Derived.Test.YtegpbgdmehipnaaJoinD
namespace Go.Proofs.Ytegpbgdmehipnaa
open Go.RowKit
set_option linter.unusedVariables false


theorem joinS_len (xs : List ByteArray) (sep : ByteArray) : (joinS xs sep).1.size ≤ 4000 := by
  unfold joinS
  split
  · unfold joinI
    split
    · next h h2 =>
      obtain ⟨h0, h3⟩ := h2
      unfold joinOk at h3
      have h4 := (of_decide_eq_true h3).2
      have hp : 0 < (bsL xs).length := by
        rw [bsL_len]
        cases xs with
        | nil => exact absurd rfl h0
        | cons _ _ => simp
      have h5 := join_len (bsL xs) (bsL xs).length hp (Nat.le_refl _) (sep[0]'(by omega))
      rw [List.take_of_length_le (Nat.le_refl _)] at h5
      simp only [ByteArray.size, List.size_toArray]
      omega
    · simp [ByteArray.size]
  · simp [ByteArray.size]
set_option maxHeartbeats 2000000 in
theorem walkFnExactJoinStrings (a : Option Addr) (len cap : Nat) (zs : List ByteArray) (sep : ByteArray) (w : World) (ha : InStrs w a len cap zs) (wsep : sep.size ≤ maxLen) :
    Calls Try.prog 6 #[.slice a len cap, .string sep] w fun e w' => e = .returned (.bool true) ∧ Below w.heap.size w w' := by
  unfold maxLen at wsep
  by_cases hsep : sep.size ≤ 1048576
  · have HZ := Lib.hid (szStringS_any a len cap zs w ha)
    have HT : Hid (∀ w1, len ≤ 1048576 → Below w.heap.size w w1 → Calls Try.prog 13 #[.slice a len cap] w1 fun e w' => ∃ v, e = .returned v ∧ OwnS w1.heap.size w' v (zs.take len) ∧ Below w1.heap.size w1 w') := Lib.hid (fun w1 h hw => toStringS_any a len cap zs w1 w ha h hw)
    have hzl : (zs.take len).length ≤ len := by rw [List.length_take]; omega
    have H1 : Hid (∀ (A : Nat) v w1, len ≤ 1048576 → (∀ x ∈ zs.take len, x.size ≤ 1048576) → OwnS A w1 v (zs.take len) → Calls Try.prog 12 #[v, .string sep] w1 fun e w' => e = .returned (.tuple #[.string (joinS (zs.take len) sep).1, .bool (joinS (zs.take len) sep).2]) ∧ Below w1.heap.size w1 w') := Lib.hid (fun A v w1 h1 h2 h3 => specJoin_any v _ sep w1 h3 (by omega) h2 hsep)
    have H2 : Hid (∀ (A : Nat) v w1, len ≤ 1048576 → (∀ x ∈ zs.take len, x.size ≤ 1048576) → OwnS A w1 v (zs.take len) → Calls Try.prog 14 #[v, .string sep] w1 fun e w' => e = .returned (.tuple #[.string (joinS (zs.take len) sep).1, .bool (joinS (zs.take len) sep).2]) ∧ Below w1.heap.size w1 w') := Lib.hid (fun A v w1 h1 h2 h3 => implJoin_any v _ sep w1 h3 (by omega) h2 hsep)
    have hr := joinS_len (zs.take len) sep
    generalize (joinS (zs.take len) sep).1 = r1 at H1 H2 hr
    generalize (joinS (zs.take len) sep).2 = r2 at H1 H2
    generalize zs.take len = xs at HZ HT hzl H1 H2
    clear ha
    go_enter Try.func6, Try.ntmps6
    go_wp2_with fail
    refine HZ.out.mono ?_
    rintro e w1 ⟨r, rfl, rfl, hr0, hr1, hrs⟩
    by_cases hneg : 0 ≤ r
    · obtain ⟨hl, hsx⟩ := hrs hneg
      have HSX := Lib.hid hsx
      have HLL := Lib.hid hl
      have HXL : Hid (xs.length ≤ 1073741824) := Lib.hid (by omega)
      clear hrs hsx hl hzl
      go_wp2_with fail
      refine (HT.out _ HLL.out (Below.refl _ _)).mono ?_
      rintro e w1 ⟨v1, rfl, ho1, hb1⟩
      go_wp2_with fail
      refine (H1.out _ _ _ HLL.out HSX.out ho1).mono ?_
      rintro e w2 ⟨rfl, hb2⟩
      go_wp2_with fail
      refine (HT.out _ HLL.out (bt hb1 hb2)).mono ?_
      rintro e w3 ⟨x0, rfl, ho3, hb3⟩
      go_wp2_with fail
      refine (H2.out _ _ _ HLL.out HSX.out ho3).mono ?_
      rintro e w4 ⟨rfl, hb4⟩
      go_wp2_with fail
      refine (HT.out _ HLL.out (bt (bt hb1 hb2) (bt hb3 hb4))).mono ?_
      rintro e w5 ⟨x1, rfl, ho5, hb5⟩
      go_wp2_with fail
      refine (eqStringS_same _ _ _ _ (ownS_keep (ownS_keep ho3 hb4) hb5) ho5 HXL.out).mono ?_
      rintro e w6 ⟨rfl, hb6⟩
      go_wp2
      go_ret
      exact ⟨rfl, bt (bt (bt hb1 hb2) (bt hb3 hb4)) (bt hb5 hb6)⟩
    · clear hrs
      go_wp2
      go_ret
      exact ⟨rfl, Below.refl _ _⟩
  · go_enter Try.func6, Try.ntmps6
    go_wp2
    go_ret
    exact ⟨rfl, Below.refl _ _⟩

end Go.Proofs.Ytegpbgdmehipnaa
