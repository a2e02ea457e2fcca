/-
  The law FnCells returns true. No condition.
-/
import Derived.Test.YthgjghgkjhkbbaaCellsP
import Derived.Deep.RegionWith
namespace Go.Proofs.Ythgjghgkjhkbbaa
open Go.RowKit
set_option linter.unusedVariables false


theorem rBig_no (a : Option Addr) (len cap : Nat) (w : World) (h : len ≤ 65536) :
    Calls Try.prog 26 #[.slice a len cap] w fun e w' => e = .returned (.bool false) ∧ w = w' := by
  have hd : decide ((65536 : Int) < (len : Int)) = false := decide_eq_false (by omega)
  go_enter Try.func26, Try.ntmps26
  go_wp2
  go_ret
  exact ⟨rfl, rfl⟩
theorem rBig_yes (a : Option Addr) (len cap : Nat) (w : World) (h : ¬ len ≤ 65536) (hml : len ≤ maxLen) :
    Calls Try.prog 26 #[.slice a len cap] w fun e w' => e = .returned (.bool true) ∧ w = w' := by
  have hd : decide ((65536 : Int) < (len : Int)) = true := decide_eq_true (by omega)
  go_enter Try.func26, Try.ntmps26
  go_wp2
  go_ret
  exact ⟨rfl, rfl⟩
theorem keepB {P : Program} {f : FuncId} {args : Array Value} {R : Value} {w0 : World} (h : ∀ w, Calls P f args w fun e w' => e = .returned R ∧ Below w.heap.size w w') : Hid (∀ w, Below w0.heap.size w0 w → Calls P f args w fun e w' => e = .returned R ∧ Below w0.heap.size w0 w') := Lib.hid (fun w hB => (h w).mono fun e w' ⟨h1, h2⟩ => ⟨h1, bt hB h2⟩)

set_option maxRecDepth 20000 in
set_option maxHeartbeats 16000000 in
theorem walkFnCells (a : Option Addr) (len cap : Nat) (zs : List Int) (w0 : World) (ha : InRow .u8 w0 a len cap zs) :
    Calls Try.prog 9 #[.slice a len cap] w0 fun e w' => e = .returned (.bool true) ∧ Below w0.heap.size w0 w' := by
  have hb0 := bytes_of ha
  have hml : len ≤ maxLen := by
    rcases ha with ⟨rfl, rfl, rfl, rfl⟩ | ⟨x, rfl, hlc, hmx, hz, hc, hw⟩
    · exact Nat.zero_le _
    · omega
  by_cases hl : len ≤ 65536
  · have HY0 := Lib.hid hb0
    have HB0 := Lib.hid (Below.refl w0.heap.size w0)
    clear hb0 ha hml
    go_enter Try.func9, Try.ntmps9
    go_wp2_with ((go_at_call 26; refine (rBig_no a len cap _ hl).mono ?_; rintro e w1 ⟨rfl, rfl⟩))
    refine (drawCellOf_any a len cap _ HY0.out hl).mono ?_
    rintro e w1 ⟨d, rfl, hb⟩
    have HY1 := Lib.hid (bytes_go HY0.out hb)
    have HB1 := Lib.hid (bt HB0.out hb)
    clear hb
    go_wp2_with fail
    refine (implCellOf_c d _).mono ?_
    rintro e w2 ⟨rfl, hb⟩
    have HY2 := Lib.hid (bytes_go HY1.out hb)
    have HB2 := Lib.hid (bt HB1.out hb)
    clear hb
    go_wp2_with fail
    refine (specCellOf_c d _).mono ?_
    rintro e w3 ⟨rfl, hb⟩
    have HY3 := Lib.hid (bytes_go HY2.out hb)
    have HB3 := Lib.hid (bt HB2.out hb)
    clear hb
    have HOK := Lib.hid (co_do d)
    obtain ⟨cell, hcell⟩ : ∃ x, (coR d).1 = x := ⟨_, rfl⟩
    obtain ⟨ok, hok⟩ : ∃ x, (coR d).2 = x := ⟨_, rfl⟩
    rw [hcell, hok] at HOK ⊢
    clear hcell hok
    go_wp2_with fail
    refine (drawTurnCell_any a len cap _ HY3.out hl).mono ?_
    rintro e w4 ⟨c, rfl, hb⟩
    have HY4 := Lib.hid (bytes_go HY3.out hb)
    have HB4 := Lib.hid (bt HB3.out hb)
    clear hb
    obtain ⟨b, t, m, k, s, e1, e2, e3, e4, e5, hs7, hfacts⟩ := cellFacts c
    have K1 := keepB (w0 := w0) (implTurn_c c)
    have K2 := keepB (w0 := w0) (specTurn_c c)
    have K3 := keepB (w0 := w0) (implMirror_c c)
    have K4 := keepB (w0 := w0) (specMirror_c c)
    have K5 := keepB (w0 := w0) (implCount_c c)
    have K6 := keepB (w0 := w0) (specCount_c c)
    have K7 := keepB (w0 := w0) (implBars_c c)
    have K8 := keepB (w0 := w0) (specBars_c c)
    have K9 := Lib.hid (implIsCell_any c)
    rw [e1] at K1 K2
    rw [e2] at K3 K4
    rw [e3] at K5 K6
    rw [e4] at K7 K8
    rw [e5] at K9
    have K10 := keepB (w0 := w0) (implDigitOf_c c)
    have K11 := keepB (w0 := w0) (specDigitOf_c c)
    generalize (doR c).1 = digit at K10 K11
    generalize (doR c).2 = three at K10 K11
    clear e1 e2 e3 e4 e5
    have HFC := Lib.hid hfacts
    clear hfacts
    have hB := HB4.out
    have K12 : Hid (∀ w, Below w0.heap.size w0 w → Bytes w.heap.size w a len) := Lib.hid (fun w h => bytes_go HY0.out h)
    clear HY0 HY1 HY2 HY3 HY4 HB0 HB1 HB2 HB3 HB4
    cases b with
    | false =>
      go_wp2_with (first | (go_at_call 31; refine (K1.out _ hB).mono ?_; rintro e w5 ⟨rfl, hB⟩) | (go_at_call 32; refine (K2.out _ hB).mono ?_; rintro e w6 ⟨rfl, hB⟩) | (go_at_call 33; refine (K9.out _).mono ?_; rintro e w7 ⟨rfl, rfl⟩) | (go_at_call 34; refine (K3.out _ hB).mono ?_; rintro e w8 ⟨rfl, hB⟩) | (go_at_call 35; refine (K4.out _ hB).mono ?_; rintro e w9 ⟨rfl, hB⟩) | (go_at_call 36; refine (K10.out _ hB).mono ?_; rintro e w10 ⟨rfl, hB⟩) | (go_at_call 37; refine (K11.out _ hB).mono ?_; rintro e w11 ⟨rfl, hB⟩) | (go_at_call 38; refine (K5.out _ hB).mono ?_; rintro e w12 ⟨rfl, hB⟩) | (go_at_call 39; refine (K6.out _ hB).mono ?_; rintro e w13 ⟨rfl, hB⟩) | (go_at_call 40; refine (K7.out _ hB).mono ?_; rintro e w14 ⟨rfl, hB⟩) | (go_at_call 41; refine (K8.out _ hB).mono ?_; rintro e w15 ⟨rfl, hB⟩))
      refine (drawParseB_any a len cap _ (K12.out _ hB) hl).mono ?_
      rintro e w16 ⟨s2, rfl, hs2, hb⟩
      have hB := bt hB hb
      clear hb K1 K2 K3 K4 K5 K6 K7 K8 K9 K10 K11
      obtain ⟨r, six, e6, h6⟩ := parseFacts s2
      have L1 := keepB (w0 := w0) (fun w => implParse_c s2 w (by omega))
      have L2 := keepB (w0 := w0) (fun w => specParse_c s2 w (by omega))
      rw [e6] at L1 L2
      clear e6
      have h6' : six = false ∨ (six = true ∧ Hid (∀ w, Below w0.heap.size w0 w → Calls Try.prog 40 #[.int .i64 r] w fun e w' => e = .returned (.tuple #[.string s2, .bool true]) ∧ Below w0.heap.size w0 w')) := by
        cases six
        · exact .inl rfl
        · refine .inr ⟨rfl, ?_⟩
          have := keepB (w0 := w0) (implBars_c r)
          rw [h6 rfl] at this
          exact this
      clear h6
      go_wp2_with (first | (go_at_call 43; refine (L1.out _ hB).mono ?_; rintro e w16 ⟨rfl, hB⟩) | (go_at_call 44; refine (L2.out _ hB).mono ?_; rintro e w17 ⟨rfl, hB⟩))
      refine (drawFar_any a len cap _ (K12.out _ hB) hl).mono ?_
      rintro e w17 ⟨x1, x2, rfl, hb⟩
      have hB := bt hB hb
      clear hb
      obtain ⟨f, seven, e7, h7⟩ := farFacts x1 x2
      have L3 := keepB (w0 := w0) (implFar_c x1 x2)
      have L4 := keepB (w0 := w0) (specFar_c x1 x2)
      rw [e7] at L3 L4
      clear e7
      cases seven with
      | false =>
        clear h7
        rcases h6' with rfl | ⟨rfl, L11⟩ <;> cases ok
        case' inl.true => (have L12 := keepB (w0 := w0) (implDigitOf_c cell); rw [HOK.out rfl] at L12)
        case' inr.true => (have L12 := keepB (w0 := w0) (implDigitOf_c cell); rw [HOK.out rfl] at L12)
        all_goals
          go_wp2_with (first | (go_at_call_of 46 (Value.int IntKind.i64 x1); refine (L3.out _ hB).mono ?_; rintro e w18 ⟨rfl, hB⟩) | (go_at_call 47; refine (L4.out _ hB).mono ?_; rintro e w19 ⟨rfl, hB⟩) | (go_at_call_of 31 (Value.int IntKind.i64 x1); refine (L5.out _ hB).mono ?_; rintro e w20 ⟨rfl, hB⟩) | (go_at_call_of 31 (Value.int IntKind.i64 x2); refine (L6.out _ hB).mono ?_; rintro e w21 ⟨rfl, hB⟩) | (go_at_call_of 46 (Value.int IntKind.i64 x); refine (L7.out _ hB).mono ?_; rintro e w22 ⟨rfl, hB⟩) | (go_at_call_of 34 (Value.int IntKind.i64 x1); refine (L8.out _ hB).mono ?_; rintro e w23 ⟨rfl, hB⟩) | (go_at_call_of 34 (Value.int IntKind.i64 x2); refine (L9.out _ hB).mono ?_; rintro e w24 ⟨rfl, hB⟩) | (go_at_call_of 46 (Value.int IntKind.i64 v); refine (L10.out _ hB).mono ?_; rintro e w25 ⟨rfl, hB⟩) | (go_at_call 40; refine (L11.out _ hB).mono ?_; rintro e w26 ⟨rfl, hB⟩) | (go_at_call 36; refine (L12.out _ hB).mono ?_; rintro e w27 ⟨rfl, hB⟩) | (go_at_call_of 31 (Value.int IntKind.i64 t); refine (L13.out _ hB).mono ?_; rintro e w28 ⟨rfl, hB⟩) | (go_at_call_of 34 (Value.int IntKind.i64 m); refine (L14.out _ hB).mono ?_; rintro e w29 ⟨rfl, hB⟩) | (go_at_call 43; refine (L15.out _ hB).mono ?_; rintro e w30 ⟨rfl, hB⟩))
          go_ret
          exact ⟨by first | rfl | simp, hB⟩
      | true =>
        obtain ⟨x, y, v, u, f1, f2, f3, f4, f5, f6⟩ := h7 rfl
        have L5 := keepB (w0 := w0) (implTurn_c x1)
        have L6 := keepB (w0 := w0) (implTurn_c x2)
        have L7 := keepB (w0 := w0) (implFar_c x y)
        have L8 := keepB (w0 := w0) (implMirror_c x1)
        have L9 := keepB (w0 := w0) (implMirror_c x2)
        have L10 := keepB (w0 := w0) (implFar_c v u)
        rw [f1] at L5
        rw [f2] at L6
        rw [f3] at L7
        rw [f4] at L8
        rw [f5] at L9
        rw [f6] at L10
        clear f1 f2 f3 f4 f5 f6 h7
        rcases h6' with rfl | ⟨rfl, L11⟩ <;> cases ok
        case' inl.true => (have L12 := keepB (w0 := w0) (implDigitOf_c cell); rw [HOK.out rfl] at L12)
        case' inr.true => (have L12 := keepB (w0 := w0) (implDigitOf_c cell); rw [HOK.out rfl] at L12)
        all_goals
          go_wp2_with (first | (go_at_call_of 46 (Value.int IntKind.i64 x1); refine (L3.out _ hB).mono ?_; rintro e w18 ⟨rfl, hB⟩) | (go_at_call 47; refine (L4.out _ hB).mono ?_; rintro e w19 ⟨rfl, hB⟩) | (go_at_call_of 31 (Value.int IntKind.i64 x1); refine (L5.out _ hB).mono ?_; rintro e w20 ⟨rfl, hB⟩) | (go_at_call_of 31 (Value.int IntKind.i64 x2); refine (L6.out _ hB).mono ?_; rintro e w21 ⟨rfl, hB⟩) | (go_at_call_of 46 (Value.int IntKind.i64 x); refine (L7.out _ hB).mono ?_; rintro e w22 ⟨rfl, hB⟩) | (go_at_call_of 34 (Value.int IntKind.i64 x1); refine (L8.out _ hB).mono ?_; rintro e w23 ⟨rfl, hB⟩) | (go_at_call_of 34 (Value.int IntKind.i64 x2); refine (L9.out _ hB).mono ?_; rintro e w24 ⟨rfl, hB⟩) | (go_at_call_of 46 (Value.int IntKind.i64 v); refine (L10.out _ hB).mono ?_; rintro e w25 ⟨rfl, hB⟩) | (go_at_call 40; refine (L11.out _ hB).mono ?_; rintro e w26 ⟨rfl, hB⟩) | (go_at_call 36; refine (L12.out _ hB).mono ?_; rintro e w27 ⟨rfl, hB⟩) | (go_at_call_of 31 (Value.int IntKind.i64 t); refine (L13.out _ hB).mono ?_; rintro e w28 ⟨rfl, hB⟩) | (go_at_call_of 34 (Value.int IntKind.i64 m); refine (L14.out _ hB).mono ?_; rintro e w29 ⟨rfl, hB⟩) | (go_at_call 43; refine (L15.out _ hB).mono ?_; rintro e w30 ⟨rfl, hB⟩))
          go_ret
          exact ⟨by first | rfl | simp, hB⟩
    | true =>
      obtain ⟨hk, ht2, hm2, hp2⟩ := HFC.out rfl
      subst hk
      have L13 := keepB (w0 := w0) (implTurn_c t)
      have L14 := keepB (w0 := w0) (implMirror_c m)
      have L15 := keepB (w0 := w0) (fun w => implParse_c s w (by omega))
      rw [ht2] at L13
      rw [hm2] at L14
      rw [hp2] at L15
      clear ht2 hm2 hp2
      go_wp2_with (first | (go_at_call 31; refine (K1.out _ hB).mono ?_; rintro e w5 ⟨rfl, hB⟩) | (go_at_call 32; refine (K2.out _ hB).mono ?_; rintro e w6 ⟨rfl, hB⟩) | (go_at_call 33; refine (K9.out _).mono ?_; rintro e w7 ⟨rfl, rfl⟩) | (go_at_call 34; refine (K3.out _ hB).mono ?_; rintro e w8 ⟨rfl, hB⟩) | (go_at_call 35; refine (K4.out _ hB).mono ?_; rintro e w9 ⟨rfl, hB⟩) | (go_at_call 36; refine (K10.out _ hB).mono ?_; rintro e w10 ⟨rfl, hB⟩) | (go_at_call 37; refine (K11.out _ hB).mono ?_; rintro e w11 ⟨rfl, hB⟩) | (go_at_call 38; refine (K5.out _ hB).mono ?_; rintro e w12 ⟨rfl, hB⟩) | (go_at_call 39; refine (K6.out _ hB).mono ?_; rintro e w13 ⟨rfl, hB⟩) | (go_at_call 40; refine (K7.out _ hB).mono ?_; rintro e w14 ⟨rfl, hB⟩) | (go_at_call 41; refine (K8.out _ hB).mono ?_; rintro e w15 ⟨rfl, hB⟩))
      refine (drawParseB_any a len cap _ (K12.out _ hB) hl).mono ?_
      rintro e w16 ⟨s2, rfl, hs2, hb⟩
      have hB := bt hB hb
      clear hb K1 K2 K3 K4 K5 K6 K7 K8 K9 K10 K11
      obtain ⟨r, six, e6, h6⟩ := parseFacts s2
      have L1 := keepB (w0 := w0) (fun w => implParse_c s2 w (by omega))
      have L2 := keepB (w0 := w0) (fun w => specParse_c s2 w (by omega))
      rw [e6] at L1 L2
      clear e6
      have h6' : six = false ∨ (six = true ∧ Hid (∀ w, Below w0.heap.size w0 w → Calls Try.prog 40 #[.int .i64 r] w fun e w' => e = .returned (.tuple #[.string s2, .bool true]) ∧ Below w0.heap.size w0 w')) := by
        cases six
        · exact .inl rfl
        · refine .inr ⟨rfl, ?_⟩
          have := keepB (w0 := w0) (implBars_c r)
          rw [h6 rfl] at this
          exact this
      clear h6
      go_wp2_with (first | (go_at_call 43; refine (L1.out _ hB).mono ?_; rintro e w16 ⟨rfl, hB⟩) | (go_at_call 44; refine (L2.out _ hB).mono ?_; rintro e w17 ⟨rfl, hB⟩))
      refine (drawFar_any a len cap _ (K12.out _ hB) hl).mono ?_
      rintro e w17 ⟨x1, x2, rfl, hb⟩
      have hB := bt hB hb
      clear hb
      obtain ⟨f, seven, e7, h7⟩ := farFacts x1 x2
      have L3 := keepB (w0 := w0) (implFar_c x1 x2)
      have L4 := keepB (w0 := w0) (specFar_c x1 x2)
      rw [e7] at L3 L4
      clear e7
      cases seven with
      | false =>
        clear h7
        rcases h6' with rfl | ⟨rfl, L11⟩ <;> cases ok
        case' inl.true => (have L12 := keepB (w0 := w0) (implDigitOf_c cell); rw [HOK.out rfl] at L12)
        case' inr.true => (have L12 := keepB (w0 := w0) (implDigitOf_c cell); rw [HOK.out rfl] at L12)
        all_goals
          go_wp2_with (first | (go_at_call_of 46 (Value.int IntKind.i64 x1); refine (L3.out _ hB).mono ?_; rintro e w18 ⟨rfl, hB⟩) | (go_at_call 47; refine (L4.out _ hB).mono ?_; rintro e w19 ⟨rfl, hB⟩) | (go_at_call_of 31 (Value.int IntKind.i64 x1); refine (L5.out _ hB).mono ?_; rintro e w20 ⟨rfl, hB⟩) | (go_at_call_of 31 (Value.int IntKind.i64 x2); refine (L6.out _ hB).mono ?_; rintro e w21 ⟨rfl, hB⟩) | (go_at_call_of 46 (Value.int IntKind.i64 x); refine (L7.out _ hB).mono ?_; rintro e w22 ⟨rfl, hB⟩) | (go_at_call_of 34 (Value.int IntKind.i64 x1); refine (L8.out _ hB).mono ?_; rintro e w23 ⟨rfl, hB⟩) | (go_at_call_of 34 (Value.int IntKind.i64 x2); refine (L9.out _ hB).mono ?_; rintro e w24 ⟨rfl, hB⟩) | (go_at_call_of 46 (Value.int IntKind.i64 v); refine (L10.out _ hB).mono ?_; rintro e w25 ⟨rfl, hB⟩) | (go_at_call 40; refine (L11.out _ hB).mono ?_; rintro e w26 ⟨rfl, hB⟩) | (go_at_call 36; refine (L12.out _ hB).mono ?_; rintro e w27 ⟨rfl, hB⟩) | (go_at_call_of 31 (Value.int IntKind.i64 t); refine (L13.out _ hB).mono ?_; rintro e w28 ⟨rfl, hB⟩) | (go_at_call_of 34 (Value.int IntKind.i64 m); refine (L14.out _ hB).mono ?_; rintro e w29 ⟨rfl, hB⟩) | (go_at_call 43; refine (L15.out _ hB).mono ?_; rintro e w30 ⟨rfl, hB⟩))
          go_ret
          exact ⟨by first | rfl | simp, hB⟩
      | true =>
        obtain ⟨x, y, v, u, f1, f2, f3, f4, f5, f6⟩ := h7 rfl
        have L5 := keepB (w0 := w0) (implTurn_c x1)
        have L6 := keepB (w0 := w0) (implTurn_c x2)
        have L7 := keepB (w0 := w0) (implFar_c x y)
        have L8 := keepB (w0 := w0) (implMirror_c x1)
        have L9 := keepB (w0 := w0) (implMirror_c x2)
        have L10 := keepB (w0 := w0) (implFar_c v u)
        rw [f1] at L5
        rw [f2] at L6
        rw [f3] at L7
        rw [f4] at L8
        rw [f5] at L9
        rw [f6] at L10
        clear f1 f2 f3 f4 f5 f6 h7
        rcases h6' with rfl | ⟨rfl, L11⟩ <;> cases ok
        case' inl.true => (have L12 := keepB (w0 := w0) (implDigitOf_c cell); rw [HOK.out rfl] at L12)
        case' inr.true => (have L12 := keepB (w0 := w0) (implDigitOf_c cell); rw [HOK.out rfl] at L12)
        all_goals
          go_wp2_with (first | (go_at_call_of 46 (Value.int IntKind.i64 x1); refine (L3.out _ hB).mono ?_; rintro e w18 ⟨rfl, hB⟩) | (go_at_call 47; refine (L4.out _ hB).mono ?_; rintro e w19 ⟨rfl, hB⟩) | (go_at_call_of 31 (Value.int IntKind.i64 x1); refine (L5.out _ hB).mono ?_; rintro e w20 ⟨rfl, hB⟩) | (go_at_call_of 31 (Value.int IntKind.i64 x2); refine (L6.out _ hB).mono ?_; rintro e w21 ⟨rfl, hB⟩) | (go_at_call_of 46 (Value.int IntKind.i64 x); refine (L7.out _ hB).mono ?_; rintro e w22 ⟨rfl, hB⟩) | (go_at_call_of 34 (Value.int IntKind.i64 x1); refine (L8.out _ hB).mono ?_; rintro e w23 ⟨rfl, hB⟩) | (go_at_call_of 34 (Value.int IntKind.i64 x2); refine (L9.out _ hB).mono ?_; rintro e w24 ⟨rfl, hB⟩) | (go_at_call_of 46 (Value.int IntKind.i64 v); refine (L10.out _ hB).mono ?_; rintro e w25 ⟨rfl, hB⟩) | (go_at_call 40; refine (L11.out _ hB).mono ?_; rintro e w26 ⟨rfl, hB⟩) | (go_at_call 36; refine (L12.out _ hB).mono ?_; rintro e w27 ⟨rfl, hB⟩) | (go_at_call_of 31 (Value.int IntKind.i64 t); refine (L13.out _ hB).mono ?_; rintro e w28 ⟨rfl, hB⟩) | (go_at_call_of 34 (Value.int IntKind.i64 m); refine (L14.out _ hB).mono ?_; rintro e w29 ⟨rfl, hB⟩) | (go_at_call 43; refine (L15.out _ hB).mono ?_; rintro e w30 ⟨rfl, hB⟩))
          go_ret
          exact ⟨by first | rfl | simp, hB⟩
  · clear hb0 ha
    go_enter Try.func9, Try.ntmps9
    go_wp2_with ((go_at_call 26; refine (rBig_yes a len cap _ hl hml).mono ?_; rintro e w1 ⟨rfl, rfl⟩))
    go_ret
    exact ⟨rfl, Below.refl _ _⟩

end Go.Proofs.Ythgjghgkjhkbbaa
