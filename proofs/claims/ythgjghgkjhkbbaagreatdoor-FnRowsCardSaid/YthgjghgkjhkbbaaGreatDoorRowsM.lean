/-
  The law FnRows returns true. Condition: the tables as the program lays them.
-/
import Derived.Test.YthgjghgkjhkbbaaGreatDoorNumB
import Derived.Test.YthgjghgkjhkbbaaGreatDoorTurnP
import Derived.Test.YthgjghgkjhkbbaaGreatDoorTurn
import Derived.Test.YthgjghgkjhkbbaaGreatDoorMirror
import Derived.Test.YthgjghgkjhkbbaaGreatDoorLit
import Derived.Test.YthgjghgkjhkbbaaGreatDoorParRowP
import Derived.Test.YthgjghgkjhkbbaaGreatDoorTextP
import Derived.Test.YthgjghgkjhkbbaaGreatDoorRowText
import Derived.Test.YthgjghgkjhkbbaaGreatDoorRowOf
import Derived.Test.YthgjghgkjhkbbaaGreatDoorTurnedN
import Derived.Test.YthgjghgkjhkbbaaGreatDoorTurnRow
import Derived.Test.YthgjghgkjhkbbaaGreatDoorDrawM
import Derived.Test.YthgjghgkjhkbbaaGreatDoorRInt
import Derived.Test.YthgjghgkjhkbbaaGreatDoorFacts
import Derived.Test.YthgjghgkjhkbbaaGreatDoorAlike
import Derived.Test.YthgjghgkjhkbbaaGreatDoorNum
import Derived.Test.YthgjghgkjhkbbaaGreatDoorParRow
namespace Go.Proofs.YthgjghgkjhkbbaaGreatDoor
open Go.RowKit
set_option linter.unusedVariables false
set_option maxRecDepth 20000

theorem rowBack (n : Int) (h : (roI n).2 = true) : numI (roI n).1 = (n, true) := by
  unfold roI at h ⊢
  split at h
  · rename_i hin
    rw [if_pos hin]
    obtain ⟨m, rfl, hm⟩ := inB_nat hin
    simp only [Int.toNat_natCast]
    have hr := isRow_c m
    have hn := numF_row m (nd m) 0
    rw [Nat.mod_eq_of_lt (nd_lt m hm)] at hn
    have h1 := (nd_rng m).1
    unfold numI
    rw [if_pos hr]
    unfold numV
    rw [hn, cRow_len]
    simp
    omega
  · cases h
theorem word_val : ∀ n : Nat, n < 128 → val (wordC (n : Int)) = ((n : Int), true) ∧ okW (wordC (n : Int)) = true ∧ (32 : UInt8) ∉ wordC (n : Int) := by decide +kernel
theorem spl_of_join (b : UInt8) : ∀ ws : List (List UInt8), ws ≠ [] → (∀ x ∈ ws, b ∉ x) → spl b (Lib.join ws [b]) = ws
  | [], h, _ => absurd rfl h
  | [x], _, h => by
    rw [Lib.join_one]
    have hx := h x (by simp)
    exact spl_miss b x (index_no b x (fun j hj => hx (List.mem_of_getElem? hj)))
  | x :: y :: r, _, h => by
    have hx := h x (by simp)
    have ih := spl_of_join b (y :: r) (by simp) (fun z hz => h z (by simp at hz ⊢; exact .inr hz))
    have e : Lib.join (x :: y :: r) [b] = x ++ b :: Lib.join (y :: r) [b] := by
      simp [Lib.join, List.intercalate]
    have hi : Lib.indexByte (x ++ b :: Lib.join (y :: r) [b]) b = (x.length : Int) := index_at b _ x.length (by simp) (fun j hj e2 => by
      rw [List.getElem?_append_left hj] at e2
      exact hx (List.mem_of_getElem? e2))
    rw [e, spl_hit b _ x.length hi]
    have e1 : (x ++ b :: Lib.join (y :: r) [b]).take x.length = x := by simp
    have e2 : (x ++ b :: Lib.join (y :: r) [b]).drop (x.length + 1) = Lib.join (y :: r) [b] := by
      rw [← List.drop_drop]; simp
    rw [e1, e2, ih]
theorem row_nat (xs : List Int) (h : isRow xs = true) (c : Int) (hc : c ∈ xs) : ∃ n : Nat, c = n ∧ n < 128 := by
  obtain ⟨i, hi⟩ := List.mem_iff_getElem?.1 hc
  obtain ⟨h1, h2⟩ := List.getElem?_eq_some_iff.1 hi
  have h3 := isRow_cell xs h i h1
  rw [show xs.getD i 0 = c by simp [List.getD, hi]] at h3
  obtain ⟨n, rfl⟩ := Int.eq_ofNat_of_zero_le h3.1
  exact ⟨n, rfl, by omega⟩
theorem textBack (xs : List Int) (h : isRow xs = true) : prow (txt xs) = (xs, true) := by
  cases hx : xs with
  | nil => exact prow_nil
  | cons c r =>
    rw [← hx]
    have hw : ∀ x ∈ xs.map wordC, (32 : UInt8) ∉ x ∧ okW x = true := fun x hm => by
      obtain ⟨c, hc, rfl⟩ := List.mem_map.1 hm
      obtain ⟨n, rfl, hn⟩ := row_nat xs h c hc
      exact ⟨(word_val n hn).2.2, (word_val n hn).2.1⟩
    have hs : spl 32 (txt xs) = xs.map wordC := spl_of_join 32 (xs.map wordC) (by rw [hx]; simp) (fun x hm => (hw x hm).1)
    have hall : (spl 32 (txt xs)).all okW = true := by
      rw [hs, List.all_eq_true]; exact fun x hm => (hw x hm).2
    have h0 : txt xs ≠ [] := fun e => by
      rw [e] at hall
      have : spl 32 ([] : List UInt8) = [[]] := spl_miss 32 [] (index_no 32 [] (by simp))
      rw [this] at hall
      revert hall; decide
    rw [prow_yes (txt xs) h0 hall (by rw [hs, List.length_map]; exact isRow_len xs h), hs]
    refine Prod.ext ?_ rfl
    show vals (xs.map wordC) = xs
    unfold vals
    rw [List.map_map]
    conv => rhs; rw [← List.map_id xs]
    refine List.map_congr_left fun c hc => ?_
    obtain ⟨n, rfl, hn⟩ := row_nat xs h c hc
    simp [(word_val n hn).1]
theorem twiceRow (f : Nat → Nat → Nat) (hf : ∀ n : Nat, n < 128 → f (f n 7) 7 = n) (xs : List Int) (h : isRow xs = true) : tRow f (tRow f xs) = xs := by
  unfold tRow
  rw [List.map_reverse, List.reverse_reverse, List.map_map]
  conv => rhs; rw [← List.map_id xs]
  refine List.map_congr_left fun c hc => ?_
  obtain ⟨n, rfl, hn⟩ := row_nat xs h c hc
  simp [hf n hn]
theorem turn_two : ∀ n : Nat, n < 128 → turnFrom (turnFrom n 7) 7 = n := by decide +kernel
theorem mir_two : ∀ n : Nat, n < 128 → mirFrom (mirFrom n 7) 7 = n ∧ mirFrom n 7 < 128 := by decide +kernel
theorem turn_cnt : ∀ n : Nat, n < 128 → cnt (turnFrom n 7) 7 = cnt n 7 := by decide +kernel
theorem isRow_mir (xs : List Int) (h : isRow xs = true) : isRow (tRow mirFrom xs) = true := by
  have hl := isRow_len xs h
  have hlen : (tRow mirFrom xs).length = xs.length := by simp [tRow]
  unfold isRow
  rw [hlen, decide_eq_true hl, Bool.true_and, List.all_eq_true]
  intro c hc
  unfold tRow at hc
  rw [List.mem_reverse, List.mem_map] at hc
  obtain ⟨x, hx, rfl⟩ := hc
  obtain ⟨n, rfl, hn⟩ := row_nat xs h x hx
  have := (mir_two n hn).2
  exact decide_eq_true (by rw [Int.toNat_natCast]; omega)
theorem litF_append (a b : List Int) : litF (a ++ b) = litF a + litF b := by
  induction a with
  | nil => simp [litF]
  | cons c t ih => simp only [List.cons_append, litF, ih]; omega
theorem litF_reverse (a : List Int) : litF a.reverse = litF a := by
  induction a with
  | nil => rfl
  | cons c t ih => rw [List.reverse_cons, litF_append, ih]; simp only [litF]; omega
theorem litF_turn (xs : List Int) (h : ∀ c ∈ xs, ∃ n : Nat, c = n ∧ n < 128) : litF (tRow turnFrom xs) = litF xs := by
  unfold tRow
  rw [litF_reverse]
  induction xs with
  | nil => rfl
  | cons c t ih =>
    obtain ⟨n, rfl, hn⟩ := h c (by simp)
    simp only [List.map_cons, litF]
    rw [ih (fun x hx => h x (by simp [hx]))]
    simp [turn_cnt n hn]
theorem turnFacts (r : List Int) (h : isRow r = true) : turnFromR (turnFromR r) = r ∧ isRow (turnFromR r) = true ∧ mirFromR (mirFromR r) = r ∧ isRow (mirFromR r) = true ∧ litI (turnFromR r) = litI r := by
  have e1 : turnFromR r = tRow turnFrom r := if_pos h
  have e2 : mirFromR r = tRow mirFrom r := if_pos h
  have h1 := isRow_turn r h
  have h2 := isRow_mir r h
  rw [e1, e2]
  refine ⟨?_, h1, ?_, h2, ?_⟩
  · unfold turnFromR; rw [if_pos h1]; exact twiceRow turnFrom turn_two r h
  · unfold mirFromR; rw [if_pos h2]; exact twiceRow mirFrom (fun n hn => (mir_two n hn).1) r h
  · unfold litI; rw [if_pos h, if_pos h1, litF_turn r (fun c hc => row_nat r h c hc)]
theorem digOf_back (c : Int) (h : ¬ digOf c < 0) : ∃ d : Nat, d < 10 ∧ digOf c = (d : Int) ∧ c = dg d := by
  unfold digOf at h ⊢
  by_cases c0 : c = 63
  · exact ⟨0, by omega, by rw [if_pos c0]; rfl, by rw [c0]; rfl⟩
  by_cases c1 : c = 6
  · exact ⟨1, by omega, by rw [c1]; rfl, by rw [c1]; rfl⟩
  by_cases c2 : c = 91
  · exact ⟨2, by omega, by rw [c2]; rfl, by rw [c2]; rfl⟩
  by_cases c3 : c = 79
  · exact ⟨3, by omega, by rw [c3]; rfl, by rw [c3]; rfl⟩
  by_cases c4 : c = 102
  · exact ⟨4, by omega, by rw [c4]; rfl, by rw [c4]; rfl⟩
  by_cases c5 : c = 109
  · exact ⟨5, by omega, by rw [c5]; rfl, by rw [c5]; rfl⟩
  by_cases c6 : c = 125
  · exact ⟨6, by omega, by rw [c6]; rfl, by rw [c6]; rfl⟩
  by_cases c7 : c = 7
  · exact ⟨7, by omega, by rw [c7]; rfl, by rw [c7]; rfl⟩
  by_cases c8 : c = 127
  · exact ⟨8, by omega, by rw [c8]; rfl, by rw [c8]; rfl⟩
  by_cases c9 : c = 111
  · exact ⟨9, by omega, by rw [c9]; rfl, by rw [c9]; rfl⟩
  rw [if_neg c0, if_neg c1, if_neg c2, if_neg c3, if_neg c4, if_neg c5, if_neg c6, if_neg c7, if_neg c8, if_neg c9] at h
  exact absurd (by decide) h
theorem pw_pos' (k : Nat) : 0 < pw k := pw_pos k
theorem numF_back : ∀ (ys : List Int) (a : Nat) (v : Int), numF (a : Int) ys = (v, true) → ∃ r : Nat, r < pw ys.length ∧ v = ((a * pw ys.length + r : Nat) : Int) ∧ ys = cRow r ys.length
  | [], a, v, h => by
    cases h
    exact ⟨0, by decide, by simp [pw], rfl⟩
  | c :: t, a, v, h => by
    rw [numF] at h
    split at h
    · cases h
    · rename_i hc
      obtain ⟨d, hd, e1, e2⟩ := digOf_back c hc
      rw [e1, show (10 * (a : Int) + (d : Int)) = ((10 * a + d : Nat) : Int) by omega] at h
      obtain ⟨r, h1, h2, h3⟩ := numF_back t (10 * a + d) v h
      have hp := pw_pos' t.length
      have hr : (d * pw t.length + r) / pw t.length = d := by
        rw [Nat.mul_comm, Nat.mul_add_div hp, Nat.div_eq_of_lt h1, Nat.add_zero]
      have hm : (d * pw t.length + r) % pw t.length = r := by
        rw [Nat.mul_comm, Nat.mul_add_mod, Nat.mod_eq_of_lt h1]
      refine ⟨d * pw t.length + r, ?_, ?_, ?_⟩
      · rw [List.length_cons, pw_succ]
        have : d * pw t.length ≤ 9 * pw t.length := Nat.mul_le_mul_right _ (by omega)
        omega
      · rw [h2, List.length_cons, pw_succ]
        have : (10 * a + d) * pw t.length + r = a * (10 * pw t.length) + (d * pw t.length + r) := by
          rw [Nat.add_mul, Nat.mul_comm 10 a, Nat.mul_assoc, Nat.add_assoc]
        rw [this]
      · rw [List.length_cons, cRow, hr, Nat.mod_eq_of_lt hd, ← e2]
        congr 1
        rw [← cRow_mod _ t.length t.length (Nat.le_refl _), hm]
        exact h3
theorem turn_digit : ∀ d : Nat, d < 10 → d ≠ 0 → ((turnFrom (dg d).toNat 7 : Nat) : Int) ≠ 63 := by decide +kernel
theorem dg_zero : dg 0 = 63 := rfl
theorem numBack (m : Int) (other : Int) (h : tnI m = (other, true)) (hm : m % 10 ≠ 0) : tnI other = (m, true) := by
  unfold tnI at h
  split at h
  · rename_i hin
    obtain ⟨n, rfl, hn⟩ := inB_nat hin
    simp only [Int.toNat_natCast] at h
    have hl := nd_lt n hn
    obtain ⟨k, hk⟩ : ∃ k, nd n = k + 1 := ⟨nd n - 1, by have := (nd_rng n).1; omega⟩
    have hk6 : k ≤ 5 := by have := (nd_rng n).2; omega
    have hrow := isRow_c n
    have hts := twiceRow turnFrom turn_two _ hrow
    have hlen : (tRow turnFrom (cRow n (nd n))).length = nd n := by rw [tRow_len, cRow_len]
    have hhead : ∃ t, tRow turnFrom (cRow n (nd n)) = ((turnFrom (dg (n % 10)).toNat 7 : Nat) : Int) :: t := by
      rw [hk, cRow_snoc]
      unfold tRow
      rw [List.map_append, List.reverse_append]
      exact ⟨_, rfl⟩
    unfold numV at h
    cases hq : numF 0 (tRow turnFrom (cRow n (nd n))) with
    | mk v b =>
      rw [hq] at h
      have hb : b = true := by
        cases b
        · simp at h
        · rfl
      subst hb
      have hv : v = other := by
        have := congrArg Prod.fst h
        simpa using this
      subst hv
      obtain ⟨r, h1, h2, h3⟩ := numF_back _ 0 v hq
      rw [hlen] at h1 h2 h3
      have h2' : v = (r : Int) := by rw [h2]; simp
      subst h2'
      have hr6 : r < 1000000 := by
        have := (pw_le (nd n) (nd_rng n).2).2
        omega
      have hnr : nd r = nd n := by
        rw [hk] at h1 h3 hhead ⊢
        refine nd_of r k hk6 h1 ?_
        by_cases hk0 : k = 0
        · exact .inl hk0
        · right
          obtain ⟨t, ht⟩ := hhead
          rw [h3, cRow] at ht
          have hc := (List.cons.inj ht).1
          have hd := turn_digit (n % 10) (Nat.mod_lt _ (by decide)) (by omega)
          rw [← hc] at hd
          apply Nat.le_of_not_lt
          intro hlt
          rw [Nat.div_eq_of_lt hlt] at hd
          exact hd dg_zero
      have hin2 : inB (r : Int) 0 999999 = true := by
        unfold inB
        rw [decide_eq_true (by omega), decide_eq_true (by omega)]; rfl
      unfold tnI
      rw [if_pos hin2]
      simp only [Int.toNat_natCast]
      rw [hnr, ← h3, hts]
      have hnn := numF_row n (nd n) 0
      rw [Nat.mod_eq_of_lt hl] at hnn
      unfold numV
      rw [hnn, cRow_len]
      have := (nd_rng n).1
      simp
      omega
  · cases h

theorem rBig_no (a : Option Addr) (len cap : Nat) (w : World) (h : len ≤ 65536) :
    Calls Tryz.prog 4 #[.slice a len cap] w fun e w' => e = .returned (.bool false) ∧ w = w' := by
  have hd : decide ((65536 : Int) < (len : Int)) = false := decide_eq_false (by omega)
  go_enter Tryz.func4, Tryz.ntmps4
  go_wp2
  go_ret
  exact ⟨rfl, rfl⟩
theorem rBig_yes (a : Option Addr) (len cap : Nat) (w : World) (h : ¬ len ≤ 65536) (hml : len ≤ maxLen) :
    Calls Tryz.prog 4 #[.slice a len cap] w fun e w' => e = .returned (.bool true) ∧ w = w' := by
  have hd : decide ((65536 : Int) < (len : Int)) = true := decide_eq_true (by omega)
  go_enter Tryz.func4, Tryz.ntmps4
  go_wp2
  go_ret
  exact ⟨rfl, rfl⟩
theorem facts_five {W : World} {a b c d : String × DataW Unit} (h : laidMet Tryz.prog [a, b, ("internal/strconv.uint64pow10", Rows.laid_internal_strconv_uint64pow10), c, d] W) : Facts W := by
  have h3 := h.tail.tail
  rw [pow_is] at h3
  exact Lib.tabIs_of_head (rest := [c, d]) gPow gPowType Tryz.underlying101 Tryz.underlying40 cellsU cellsP h3
theorem facts_fr {W : World} (hL : laidMetH Tryz.prog Rows.fnRowsRow.laid W) (hS : W.ShapedOpen Tryz.prog) : Facts W ∧ ∃ m, W.cell? ⟨0, 0, none⟩ = some (.int .i64 m) :=
  ⟨facts_five hL, cell_of_shapedOpen_int (t := 3) (zero := #[.int .i64 0]) hS (of_decide_eq_true (by kernel_rfl)) (by kernel_rfl) rfl (by kernel_rfl) (by kernel_rfl) Tryz.underlying3⟩
theorem maxlen_keep2 {w w' : World} {m : Int} (h : w.cell? ⟨0, 0, none⟩ = some (.int .i64 m)) (hb : Below w.heap.size w w') : w'.cell? ⟨0, 0, none⟩ = some (.int .i64 m) :=
  (hb.cell (p := ⟨0, 0, none⟩) (World.block_lt_of_cell? w _ h)).trans h
theorem rowOfAll (n : Int) : ∃ (xs : List Int) (ok : Bool), roI n = (xs, ok) ∧ xs.length ≤ 1073741824 ∧ (ok = true → numI xs = (n, true)) := ⟨(roI n).1, (roI n).2, rfl, roI_len n, fun h => rowBack n h⟩
theorem rowAll (rs : List Int) : ∃ (one : Bool) (tr mr : List Int) (num : Int) (three : Bool), isRow rs = one ∧ turnFromR rs = tr ∧ mirFromR rs = mr ∧ numI rs = (num, three) ∧ tr.length ≤ 6 ∧ mr.length ≤ 6 ∧ (one = true → isRow tr = true ∧ turnFromR tr = rs ∧ isRow mr = true ∧ mirFromR mr = rs ∧ ∃ lr, litI tr = (lr, true) ∧ litI rs = (lr, true)) :=
  ⟨isRow rs, turnFromR rs, mirFromR rs, (numI rs).1, (numI rs).2, rfl, rfl, rfl, rfl, turnFromR_len rs, mirFromR_len rs, fun h => by
    obtain ⟨h1, h2, h3, h4, h5⟩ := turnFacts rs h
    have h6 : litI rs = ((litI rs).1, true) := by unfold litI; rw [if_pos h]
    exact ⟨h2, h1, h4, h3, (litI rs).1, h5.trans h6, h6⟩⟩
theorem turnedAll (m : Int) : ∃ (other : Int) (four : Bool), tnI m = (other, four) ∧ (four = true → ∃ n : Nat, m = n ∧ (¬ (n : Int) % 10 = 0 → tnI other = ((n : Int), true))) := by
  refine ⟨(tnI m).1, (tnI m).2, rfl, fun h => ?_⟩
  have h0 : 0 ≤ m := by
    unfold tnI at h
    split at h
    · rename_i hin; obtain ⟨k, rfl, _⟩ := inB_nat hin; omega
    · cases h
  obtain ⟨n, rfl⟩ := Int.eq_ofNat_of_zero_le h0
  exact ⟨n, rfl, fun h1 => numBack _ _ (Prod.ext rfl h) h1⟩
theorem textAll (xs : List Int) : ∃ (lit : Int) (six : Bool) (text : ByteArray), litI xs = (lit, six) ∧ txI xs = (text, six) ∧ isRow xs = six ∧ text.size ≤ 1000 ∧ (six = true → prow text.data.toList = (xs, true)) := by
  refine ⟨(litI xs).1, isRow xs, (txI xs).1, ?_, ?_, rfl, txI_len xs, fun h => ?_⟩
  · unfold litI; split <;> simp_all
  · unfold txI; split <;> simp_all
  · have : (txI xs).1 = ⟨(txt xs).toArray⟩ := by unfold txI; rw [if_pos h]
    rw [this]
    exact textBack xs h
theorem parseAll (s : ByteArray) : ∃ (ps : List Int) (eight : Bool), prow s.data.toList = (ps, eight) ∧ ps.length ≤ 6 := ⟨_, _, rfl, prow_len _⟩

set_option maxHeartbeats 16000000 in
theorem walkFnRows (a : Option Addr) (len cap : Nat) (zs : List Int) (w0 : World) (ha : InRow .u8 w0 a len cap zs) (hFM : Facts w0 ∧ ∃ m, w0.cell? ⟨0, 0, none⟩ = some (.int .i64 m)) :
    Calls Tryz.prog 3 #[.slice a len cap] w0 fun e w' => e = .returned (.bool true) ∧ Below w0.heap.size w0 w' := by
  have hb0 := bytes_of ha
  have hml : len ≤ maxLen := by
    rcases ha with ⟨rfl, rfl, rfl, rfl⟩ | ⟨x, rfl, hlc, hmx, hz, hc, hw⟩
    · exact Nat.zero_le _
    · omega
  by_cases hl : len ≤ 65536
  · have HY0 := Lib.hid hb0
    have HB := Lib.hid (Below.refl w0.heap.size w0)
    have KY : Hid (∀ w, Below w0.heap.size w0 w → Bytes w.heap.size w a len) := Lib.hid (fun w h => bytes_go hb0 h)
    have KF : Hid (∀ w, Below w0.heap.size w0 w → Facts w) := Lib.hid (fun w h => facts_keep hFM.1 h)
    obtain ⟨mx, hmx⟩ := hFM.2
    have KM : Hid (∀ w, Below w0.heap.size w0 w → w.cell? ⟨0, 0, none⟩ = some (.int .i64 mx)) := Lib.hid (fun w h => maxlen_keep2 hmx h)
    clear hb0 ha hml hFM hmx
    go_enter Tryz.func3, Tryz.ntmps3
    go_wp2_with ((go_at_call 4; refine (rBig_no a len cap _ hl).mono ?_; rintro e w1 ⟨rfl, rfl⟩))
    refine (drawRowOf_any a len cap _ HY0.out hl).mono ?_
    rintro e w1 ⟨n, rfl, _, hb⟩
    have HB := Lib.hid (bt HB.out hb)
    clear hb HY0
    obtain ⟨xs0, ok, e1, h6, hback⟩ := rowOfAll n
    have K1 := Lib.hid (fun w hF => implRowOf_any n w hF)
    have K2 := Lib.hid (fun w => specRowOf_any n w)
    rw [e1] at K1 K2
    have HX0 := Lib.hid h6
    have HBACK := Lib.hid hback
    clear e1 h6 hback
    go_wp2_with fail
    refine (K1.out _ (KF.out _ HB.out)).mono ?_
    rintro e w2 ⟨row, rfl, hr, hb⟩
    have HB := Lib.hid (bt HB.out hb)
    have R0 := Lib.hid hr
    clear hb hr
    go_wp2_with fail
    refine (K2.out _).mono ?_
    rintro e w3 ⟨want, rfl, hr, hb⟩
    have HB := Lib.hid (bt HB.out hb)
    have R0 := Lib.hid (own_keep R0.out hb)
    have S := Lib.hid hr
    clear hb hr
    go_wp2_with fail
    refine (rInts_any _ _ xs0 xs0 _ R0.out S.out HX0.out HX0.out).mono ?_
    rintro e w4 ⟨rfl, hb⟩
    have HB := Lib.hid (bt HB.out hb)
    have R0 := Lib.hid (own_keep R0.out hb)
    rw [decide_eq_true (rfl : xs0 = xs0)]
    clear hb
    clear S K1 K2
    go_wp2_with fail
    refine (drawTurnRow_any a len cap _ (KY.out _ HB.out) hl).mono ?_
    rintro e w5 ⟨r, rs, rfl, hrl, ho, hb⟩
    have HB := Lib.hid (bt HB.out hb)
    have R0 := Lib.hid (own_keep R0.out hb)
    have R1 := Lib.hid ho
    clear ho
    clear hb
    obtain ⟨one, tr, mr, num, three, e1, e2, e3, e4, htl, hml, hone⟩ := rowAll rs
    have HRL : Hid (rs.length ≤ 1073741824) := Lib.hid (by omega)
    have HTL : Hid (tr.length ≤ 1073741824) := Lib.hid (by omega)
    have HML : Hid (mr.length ≤ 1073741824) := Lib.hid (by omega)
    have HONE := Lib.hid hone
    have K1 := Lib.hid (fun A v w (hv : Own A w v rs) => implTurnRow_any v rs w hv HRL.out)
    have K2 := Lib.hid (fun A v w (hv : Own A w v rs) => specTurnRow_any v rs w hv HRL.out)
    have K3 := Lib.hid (fun A v w (hv : Own A w v rs) => implIsRow_any v rs w hv HRL.out)
    have K4 := Lib.hid (fun A v w (hv : Own A w v rs) => implMirrorRow_any v rs w hv HRL.out)
    have K5 := Lib.hid (fun A v w (hv : Own A w v rs) => specMirrorRow_any v rs w hv HRL.out)
    have K6 := Lib.hid (fun A v w (hv : Own A w v rs) => implNumberOf_any v rs w hv HRL.out)
    have K7 := Lib.hid (fun A v w (hv : Own A w v rs) => specNumberOf_any v rs w hv HRL.out)
    rw [e1, e2] at K1 K2
    rw [e1] at K3
    rw [e1, e3] at K4 K5
    rw [e4] at K6 K7
    clear e1 e2 e3 e4 htl hml hrl hone
    go_wp2_with fail
    refine (K1.out _ _ _ R1.out).mono ?_
    rintro e w6 ⟨turned, rfl, hr, hb⟩
    have HB := Lib.hid (bt HB.out hb)
    have R0 := Lib.hid (own_keep R0.out hb)
    have R1 := Lib.hid (own_keep R1.out hb)
    have R2 := Lib.hid hr
    clear hb hr
    go_wp2_with fail
    refine (K2.out _ _ _ R1.out).mono ?_
    rintro e w7 ⟨want2, rfl, hr, hb⟩
    have HB := Lib.hid (bt HB.out hb)
    have R0 := Lib.hid (own_keep R0.out hb)
    have R1 := Lib.hid (own_keep R1.out hb)
    have R2 := Lib.hid (own_keep R2.out hb)
    have S := Lib.hid hr
    clear hb hr
    go_wp2_with fail
    refine (K3.out _ _ _ R1.out).mono ?_
    rintro e w8 ⟨rfl, hb⟩
    have HB := Lib.hid (bt HB.out hb)
    have R0 := Lib.hid (own_keep R0.out hb)
    have R1 := Lib.hid (own_keep R1.out hb)
    have R2 := Lib.hid (own_keep R2.out hb)
    have S := Lib.hid (own_keep S.out hb)
    clear hb
    go_wp2_with fail
    refine (rInts_any _ _ tr tr _ R2.out S.out HTL.out HTL.out).mono ?_
    rintro e w9 ⟨rfl, hb⟩
    have HB := Lib.hid (bt HB.out hb)
    have R0 := Lib.hid (own_keep R0.out hb)
    have R1 := Lib.hid (own_keep R1.out hb)
    have R2 := Lib.hid (own_keep R2.out hb)
    rw [decide_eq_true (rfl : tr = tr)]
    clear hb
    clear S
    go_wp2_with fail
    refine (K4.out _ _ _ R1.out).mono ?_
    rintro e w10 ⟨mirrored, rfl, hr, hb⟩
    have HB := Lib.hid (bt HB.out hb)
    have R0 := Lib.hid (own_keep R0.out hb)
    have R1 := Lib.hid (own_keep R1.out hb)
    have R2 := Lib.hid (own_keep R2.out hb)
    have R3 := Lib.hid hr
    clear hb hr
    go_wp2_with fail
    refine (K5.out _ _ _ R1.out).mono ?_
    rintro e w11 ⟨want3, rfl, hr, hb⟩
    have HB := Lib.hid (bt HB.out hb)
    have R0 := Lib.hid (own_keep R0.out hb)
    have R1 := Lib.hid (own_keep R1.out hb)
    have R2 := Lib.hid (own_keep R2.out hb)
    have R3 := Lib.hid (own_keep R3.out hb)
    have S := Lib.hid hr
    clear hb hr
    go_wp2_with fail
    refine (rInts_any _ _ mr mr _ R3.out S.out HML.out HML.out).mono ?_
    rintro e w12 ⟨rfl, hb⟩
    have HB := Lib.hid (bt HB.out hb)
    have R0 := Lib.hid (own_keep R0.out hb)
    have R1 := Lib.hid (own_keep R1.out hb)
    have R2 := Lib.hid (own_keep R2.out hb)
    have R3 := Lib.hid (own_keep R3.out hb)
    rw [decide_eq_true (rfl : mr = mr)]
    clear hb
    clear S
    go_wp2_with fail
    refine (K6.out _ _ _ R1.out).mono ?_
    rintro e w13 ⟨rfl, hb⟩
    have HB := Lib.hid (bt HB.out hb)
    have R0 := Lib.hid (own_keep R0.out hb)
    have R1 := Lib.hid (own_keep R1.out hb)
    have R2 := Lib.hid (own_keep R2.out hb)
    have R3 := Lib.hid (own_keep R3.out hb)
    clear hb
    go_wp2_with fail
    refine (K7.out _ _ _ R1.out).mono ?_
    rintro e w14 ⟨rfl, hb⟩
    have HB := Lib.hid (bt HB.out hb)
    have R0 := Lib.hid (own_keep R0.out hb)
    have R1 := Lib.hid (own_keep R1.out hb)
    have R2 := Lib.hid (own_keep R2.out hb)
    have R3 := Lib.hid (own_keep R3.out hb)
    clear hb
    clear K1 K2 K3 K4 K5 K6 K7
    go_wp2_with fail
    refine (drawTurned_any a len cap _ (KY.out _ HB.out) hl).mono ?_
    rintro e w15 ⟨m, rfl, hm01, hb⟩
    have HB := Lib.hid (bt HB.out hb)
    have R0 := Lib.hid (own_keep R0.out hb)
    have R1 := Lib.hid (own_keep R1.out hb)
    have R2 := Lib.hid (own_keep R2.out hb)
    have R3 := Lib.hid (own_keep R3.out hb)
    clear hb
    obtain ⟨other, four, e1, hfour⟩ := turnedAll m
    have K1 := Lib.hid (fun w hF => implTurned_any m w hF)
    have K2 := Lib.hid (fun w => specTurned_any m w)
    rw [e1] at K1 K2
    have HFOUR := Lib.hid hfour
    have HM := Lib.hid hm01
    clear e1 hfour hm01
    go_wp2_with fail
    refine (K1.out _ (KF.out _ HB.out)).mono ?_
    rintro e w16 ⟨rfl, hb⟩
    have HB := Lib.hid (bt HB.out hb)
    have R0 := Lib.hid (own_keep R0.out hb)
    have R1 := Lib.hid (own_keep R1.out hb)
    have R2 := Lib.hid (own_keep R2.out hb)
    have R3 := Lib.hid (own_keep R3.out hb)
    clear hb
    go_wp2_with fail
    refine (K2.out _).mono ?_
    rintro e w17 ⟨rfl, hb⟩
    have HB := Lib.hid (bt HB.out hb)
    have R0 := Lib.hid (own_keep R0.out hb)
    have R1 := Lib.hid (own_keep R1.out hb)
    have R2 := Lib.hid (own_keep R2.out hb)
    have R3 := Lib.hid (own_keep R3.out hb)
    clear hb
    clear K1 K2
    go_wp2_with fail
    refine (drawAlike_any a len cap _ (KY.out _ HB.out) hl).mono ?_
    rintro e w18 ⟨top, rfl, _, hb⟩
    have HB := Lib.hid (bt HB.out hb)
    have R0 := Lib.hid (own_keep R0.out hb)
    have R1 := Lib.hid (own_keep R1.out hb)
    have R2 := Lib.hid (own_keep R2.out hb)
    have R3 := Lib.hid (own_keep R3.out hb)
    clear hb
    have K1 := Lib.hid (fun w hF => implAlike_any top w hF)
    have K2 := Lib.hid (fun w => specAlike_any top w)
    generalize (caI top).1 = alike at K1 K2
    generalize (caI top).2 = five at K1 K2
    go_wp2_with fail
    refine (K1.out _ (KF.out _ HB.out)).mono ?_
    rintro e w19 ⟨rfl, hb⟩
    have HB := Lib.hid (bt HB.out hb)
    have R0 := Lib.hid (own_keep R0.out hb)
    have R1 := Lib.hid (own_keep R1.out hb)
    have R2 := Lib.hid (own_keep R2.out hb)
    have R3 := Lib.hid (own_keep R3.out hb)
    clear hb
    go_wp2_with fail
    refine (K2.out _).mono ?_
    rintro e w20 ⟨rfl, hb⟩
    have HB := Lib.hid (bt HB.out hb)
    have R0 := Lib.hid (own_keep R0.out hb)
    have R1 := Lib.hid (own_keep R1.out hb)
    have R2 := Lib.hid (own_keep R2.out hb)
    have R3 := Lib.hid (own_keep R3.out hb)
    clear hb
    clear K1 K2
    go_wp2_with fail
    refine (drawLitOf_any a len cap _ (KY.out _ HB.out) hl).mono ?_
    rintro e w21 ⟨x, xs, rfl, hxl, ho, hb⟩
    have HB := Lib.hid (bt HB.out hb)
    have R0 := Lib.hid (own_keep R0.out hb)
    have R1 := Lib.hid (own_keep R1.out hb)
    have R2 := Lib.hid (own_keep R2.out hb)
    have R3 := Lib.hid (own_keep R3.out hb)
    have R4 := Lib.hid ho
    clear ho
    clear hb
    obtain ⟨lit, six, text, e1, e2, e3, hts, hsix⟩ := textAll xs
    have HXL : Hid (xs.length ≤ 1073741824) := Lib.hid (by omega)
    have HSIX := Lib.hid hsix
    have HTS := Lib.hid hts
    have K1 := Lib.hid (fun A v w (hv : Own A w v xs) => implLitOf_any v xs w hv HXL.out)
    have K2 := Lib.hid (fun A v w (hv : Own A w v xs) => specLitOf_any v xs w hv HXL.out)
    have K3 := Lib.hid (fun A v w (hv : Own A w v xs) => implIsRow_any v xs w hv HXL.out)
    have K4 := Lib.hid (fun A v w (hv : Own A w v xs) => implRowText_any v xs w hv HXL.out)
    have K5 := Lib.hid (fun A v w (hv : Own A w v xs) => specRowText_any v xs w hv HXL.out)
    rw [e1] at K1 K2
    rw [e3] at K3
    rw [e2] at K4 K5
    clear e1 e2 e3 hts hsix hxl
    go_wp2_with fail
    refine (K1.out _ _ _ R4.out).mono ?_
    rintro e w22 ⟨rfl, hb⟩
    have HB := Lib.hid (bt HB.out hb)
    have R0 := Lib.hid (own_keep R0.out hb)
    have R1 := Lib.hid (own_keep R1.out hb)
    have R2 := Lib.hid (own_keep R2.out hb)
    have R3 := Lib.hid (own_keep R3.out hb)
    have R4 := Lib.hid (own_keep R4.out hb)
    clear hb
    go_wp2_with fail
    refine (K2.out _ _ _ R4.out).mono ?_
    rintro e w23 ⟨rfl, hb⟩
    have HB := Lib.hid (bt HB.out hb)
    have R0 := Lib.hid (own_keep R0.out hb)
    have R1 := Lib.hid (own_keep R1.out hb)
    have R2 := Lib.hid (own_keep R2.out hb)
    have R3 := Lib.hid (own_keep R3.out hb)
    have R4 := Lib.hid (own_keep R4.out hb)
    clear hb
    go_wp2_with fail
    refine (K3.out _ _ _ R4.out).mono ?_
    rintro e w24 ⟨rfl, hb⟩
    have HB := Lib.hid (bt HB.out hb)
    have R0 := Lib.hid (own_keep R0.out hb)
    have R1 := Lib.hid (own_keep R1.out hb)
    have R2 := Lib.hid (own_keep R2.out hb)
    have R3 := Lib.hid (own_keep R3.out hb)
    have R4 := Lib.hid (own_keep R4.out hb)
    clear hb
    go_wp2_with fail
    refine (K4.out _ _ _ R4.out).mono ?_
    rintro e w25 ⟨rfl, hb⟩
    have HB := Lib.hid (bt HB.out hb)
    have R0 := Lib.hid (own_keep R0.out hb)
    have R1 := Lib.hid (own_keep R1.out hb)
    have R2 := Lib.hid (own_keep R2.out hb)
    have R3 := Lib.hid (own_keep R3.out hb)
    have R4 := Lib.hid (own_keep R4.out hb)
    clear hb
    go_wp2_with fail
    refine (K5.out _ _ _ R4.out).mono ?_
    rintro e w26 ⟨rfl, hb⟩
    have HB := Lib.hid (bt HB.out hb)
    have R0 := Lib.hid (own_keep R0.out hb)
    have R1 := Lib.hid (own_keep R1.out hb)
    have R2 := Lib.hid (own_keep R2.out hb)
    have R3 := Lib.hid (own_keep R3.out hb)
    have R4 := Lib.hid (own_keep R4.out hb)
    clear hb
    clear K1 K2 K3 K4 K5
    go_wp2_with fail
    refine (drawParse_any a len cap _ (KY.out _ HB.out) hl).mono ?_
    rintro e w27 ⟨s, rfl, hs, hb⟩
    have HB := Lib.hid (bt HB.out hb)
    have R0 := Lib.hid (own_keep R0.out hb)
    have R1 := Lib.hid (own_keep R1.out hb)
    have R2 := Lib.hid (own_keep R2.out hb)
    have R3 := Lib.hid (own_keep R3.out hb)
    have R4 := Lib.hid (own_keep R4.out hb)
    clear hb
    obtain ⟨ps, eight, e1, hpl⟩ := parseAll s
    have HPL : Hid (ps.length ≤ 1073741824) := Lib.hid (by omega)
    have K1 := Lib.hid (fun w hm => implParseRow_any s mx w (by omega) hm)
    have K2 := Lib.hid (fun w => specParRow_any s w (by omega))
    rw [e1] at K1 K2
    clear e1 hpl hs
    go_wp2_with fail
    refine (K1.out _ (KM.out _ HB.out)).mono ?_
    rintro e w28 ⟨read, rfl, hr, hb⟩
    have HB := Lib.hid (bt HB.out hb)
    have R0 := Lib.hid (own_keep R0.out hb)
    have R1 := Lib.hid (own_keep R1.out hb)
    have R2 := Lib.hid (own_keep R2.out hb)
    have R3 := Lib.hid (own_keep R3.out hb)
    have R4 := Lib.hid (own_keep R4.out hb)
    have R5 := Lib.hid hr
    clear hb hr
    go_wp2_with fail
    refine (K2.out _).mono ?_
    rintro e w29 ⟨want4, rfl, hr, hb⟩
    have HB := Lib.hid (bt HB.out hb)
    have R0 := Lib.hid (own_keep R0.out hb)
    have R1 := Lib.hid (own_keep R1.out hb)
    have R2 := Lib.hid (own_keep R2.out hb)
    have R3 := Lib.hid (own_keep R3.out hb)
    have R4 := Lib.hid (own_keep R4.out hb)
    have R5 := Lib.hid (own_keep R5.out hb)
    have S := Lib.hid hr
    clear hb hr
    go_wp2_with fail
    refine (rInts_any _ _ ps ps _ R5.out S.out HPL.out HPL.out).mono ?_
    rintro e w30 ⟨rfl, hb⟩
    have HB := Lib.hid (bt HB.out hb)
    have R0 := Lib.hid (own_keep R0.out hb)
    have R1 := Lib.hid (own_keep R1.out hb)
    have R2 := Lib.hid (own_keep R2.out hb)
    have R3 := Lib.hid (own_keep R3.out hb)
    have R4 := Lib.hid (own_keep R4.out hb)
    rw [decide_eq_true (rfl : ps = ps)]
    clear hb
    clear S R5 K1 K2
    cases ok with
    | false =>
      cases six with
      | false =>
        cases four with
        | false =>
          cases one with
          | false =>
            go_wp2
            go_ret
            exact ⟨rfl, HB.out⟩
          | true =>
            obtain ⟨q1, q2, q3, q4, lr, q5, q6⟩ := HONE.out (by first | rfl | trivial)
            go_wp2_with fail
            refine (implTurnRow_any _ tr _ R2.out HTL.out).mono ?_
            rintro e v1 ⟨twice, rfl, hr, hb⟩
            rw [q1]
            rw [q2] at hr
            have HB := Lib.hid (bt HB.out hb)
            have R1 := Lib.hid (own_keep R1.out hb)
            have R2 := Lib.hid (own_keep R2.out hb)
            have R3 := Lib.hid (own_keep R3.out hb)
            have RA := Lib.hid hr
            clear hb hr
            go_wp2_with fail
            refine (implMirrorRow_any _ mr _ R3.out HML.out).mono ?_
            rintro e v2 ⟨again, rfl, hr, hb⟩
            rw [q3]
            rw [q4] at hr
            have HB := Lib.hid (bt HB.out hb)
            have R1 := Lib.hid (own_keep R1.out hb)
            have R2 := Lib.hid (own_keep R2.out hb)
            have RA := Lib.hid (own_keep RA.out hb)
            have RB := Lib.hid hr
            clear hb hr
            go_wp2_with fail
            refine (implLitOf_any _ rs _ R1.out HRL.out).mono ?_
            rintro e v3 ⟨rfl, hb⟩
            rw [q6]
            have HB := Lib.hid (bt HB.out hb)
            have R1 := Lib.hid (own_keep R1.out hb)
            have R2 := Lib.hid (own_keep R2.out hb)
            have RA := Lib.hid (own_keep RA.out hb)
            have RB := Lib.hid (own_keep RB.out hb)
            clear hb
            go_wp2_with fail
            refine (implLitOf_any _ tr _ R2.out HTL.out).mono ?_
            rintro e v4 ⟨rfl, hb⟩
            rw [q5]
            have HB := Lib.hid (bt HB.out hb)
            have R1 := Lib.hid (own_keep R1.out hb)
            have RA := Lib.hid (own_keep RA.out hb)
            have RB := Lib.hid (own_keep RB.out hb)
            clear hb q1 q2 q3 q4 q5 q6
            go_wp2_with fail
            refine (rInts_any _ _ rs rs _ RA.out R1.out HRL.out HRL.out).mono ?_
            rintro e v5 ⟨rfl, hb⟩
            rw [decide_eq_true (rfl : rs = rs)]
            have HB := Lib.hid (bt HB.out hb)
            have R1 := Lib.hid (own_keep R1.out hb)
            have RB := Lib.hid (own_keep RB.out hb)
            clear hb
            go_wp2_with fail
            refine (rInts_any _ _ rs rs _ RB.out R1.out HRL.out HRL.out).mono ?_
            rintro e v6 ⟨rfl, hb⟩
            rw [decide_eq_true (rfl : rs = rs)]
            have HB := Lib.hid (bt HB.out hb)
            clear hb
            go_wp2
            go_ret
            exact ⟨by first | rfl | simp, HB.out⟩
        | true =>
          obtain ⟨mn, hmn, hback4⟩ := HFOUR.out (by first | rfl | trivial)
          subst hmn
          by_cases h10 : mn % 10 = 0
          · have h10' : ((mn : Int) % 10) = 0 := by omega
            have hm6 := HM.out
            clear h10 hback4
            cases one with
            | false =>
              go_wp2
              go_ret
              exact ⟨rfl, HB.out⟩
            | true =>
              obtain ⟨q1, q2, q3, q4, lr, q5, q6⟩ := HONE.out (by first | rfl | trivial)
              go_wp2_with fail
              refine (implTurnRow_any _ tr _ R2.out HTL.out).mono ?_
              rintro e v1 ⟨twice, rfl, hr, hb⟩
              rw [q1]
              rw [q2] at hr
              have HB := Lib.hid (bt HB.out hb)
              have R1 := Lib.hid (own_keep R1.out hb)
              have R2 := Lib.hid (own_keep R2.out hb)
              have R3 := Lib.hid (own_keep R3.out hb)
              have RA := Lib.hid hr
              clear hb hr
              go_wp2_with fail
              refine (implMirrorRow_any _ mr _ R3.out HML.out).mono ?_
              rintro e v2 ⟨again, rfl, hr, hb⟩
              rw [q3]
              rw [q4] at hr
              have HB := Lib.hid (bt HB.out hb)
              have R1 := Lib.hid (own_keep R1.out hb)
              have R2 := Lib.hid (own_keep R2.out hb)
              have RA := Lib.hid (own_keep RA.out hb)
              have RB := Lib.hid hr
              clear hb hr
              go_wp2_with fail
              refine (implLitOf_any _ rs _ R1.out HRL.out).mono ?_
              rintro e v3 ⟨rfl, hb⟩
              rw [q6]
              have HB := Lib.hid (bt HB.out hb)
              have R1 := Lib.hid (own_keep R1.out hb)
              have R2 := Lib.hid (own_keep R2.out hb)
              have RA := Lib.hid (own_keep RA.out hb)
              have RB := Lib.hid (own_keep RB.out hb)
              clear hb
              go_wp2_with fail
              refine (implLitOf_any _ tr _ R2.out HTL.out).mono ?_
              rintro e v4 ⟨rfl, hb⟩
              rw [q5]
              have HB := Lib.hid (bt HB.out hb)
              have R1 := Lib.hid (own_keep R1.out hb)
              have RA := Lib.hid (own_keep RA.out hb)
              have RB := Lib.hid (own_keep RB.out hb)
              clear hb q1 q2 q3 q4 q5 q6
              go_wp2_with fail
              refine (rInts_any _ _ rs rs _ RA.out R1.out HRL.out HRL.out).mono ?_
              rintro e v5 ⟨rfl, hb⟩
              rw [decide_eq_true (rfl : rs = rs)]
              have HB := Lib.hid (bt HB.out hb)
              have R1 := Lib.hid (own_keep R1.out hb)
              have RB := Lib.hid (own_keep RB.out hb)
              clear hb
              go_wp2_with fail
              refine (rInts_any _ _ rs rs _ RB.out R1.out HRL.out HRL.out).mono ?_
              rintro e v6 ⟨rfl, hb⟩
              rw [decide_eq_true (rfl : rs = rs)]
              have HB := Lib.hid (bt HB.out hb)
              clear hb
              go_wp2
              go_ret
              exact ⟨by first | rfl | simp, HB.out⟩
          · have h10' : ¬ ((mn : Int) % 10) = 0 := by omega
            have h10b : (((mn : Int) % 10) == 0) = false := by simp [h10']
            have L1 := hback4 h10'
            have hm6 := HM.out
            have HL1 := Lib.hid L1
            clear hback4 h10 h10' L1
            go_wp2_with fail
            refine (implTurned_any other _ (KF.out _ HB.out)).mono ?_
            rintro e t1 ⟨rfl, hb⟩
            rw [HL1.out]
            have HB := Lib.hid (bt HB.out hb)
            have R1 := Lib.hid (own_keep R1.out hb)
            have R2 := Lib.hid (own_keep R2.out hb)
            have R3 := Lib.hid (own_keep R3.out hb)
            have R4 := Lib.hid (own_keep R4.out hb)
            clear hb
            cases one with
            | false =>
              go_wp2
              go_ret
              exact ⟨rfl, HB.out⟩
            | true =>
              obtain ⟨q1, q2, q3, q4, lr, q5, q6⟩ := HONE.out (by first | rfl | trivial)
              go_wp2_with fail
              refine (implTurnRow_any _ tr _ R2.out HTL.out).mono ?_
              rintro e v1 ⟨twice, rfl, hr, hb⟩
              rw [q1]
              rw [q2] at hr
              have HB := Lib.hid (bt HB.out hb)
              have R1 := Lib.hid (own_keep R1.out hb)
              have R2 := Lib.hid (own_keep R2.out hb)
              have R3 := Lib.hid (own_keep R3.out hb)
              have RA := Lib.hid hr
              clear hb hr
              go_wp2_with fail
              refine (implMirrorRow_any _ mr _ R3.out HML.out).mono ?_
              rintro e v2 ⟨again, rfl, hr, hb⟩
              rw [q3]
              rw [q4] at hr
              have HB := Lib.hid (bt HB.out hb)
              have R1 := Lib.hid (own_keep R1.out hb)
              have R2 := Lib.hid (own_keep R2.out hb)
              have RA := Lib.hid (own_keep RA.out hb)
              have RB := Lib.hid hr
              clear hb hr
              go_wp2_with fail
              refine (implLitOf_any _ rs _ R1.out HRL.out).mono ?_
              rintro e v3 ⟨rfl, hb⟩
              rw [q6]
              have HB := Lib.hid (bt HB.out hb)
              have R1 := Lib.hid (own_keep R1.out hb)
              have R2 := Lib.hid (own_keep R2.out hb)
              have RA := Lib.hid (own_keep RA.out hb)
              have RB := Lib.hid (own_keep RB.out hb)
              clear hb
              go_wp2_with fail
              refine (implLitOf_any _ tr _ R2.out HTL.out).mono ?_
              rintro e v4 ⟨rfl, hb⟩
              rw [q5]
              have HB := Lib.hid (bt HB.out hb)
              have R1 := Lib.hid (own_keep R1.out hb)
              have RA := Lib.hid (own_keep RA.out hb)
              have RB := Lib.hid (own_keep RB.out hb)
              clear hb q1 q2 q3 q4 q5 q6
              go_wp2_with fail
              refine (rInts_any _ _ rs rs _ RA.out R1.out HRL.out HRL.out).mono ?_
              rintro e v5 ⟨rfl, hb⟩
              rw [decide_eq_true (rfl : rs = rs)]
              have HB := Lib.hid (bt HB.out hb)
              have R1 := Lib.hid (own_keep R1.out hb)
              have RB := Lib.hid (own_keep RB.out hb)
              clear hb
              go_wp2_with fail
              refine (rInts_any _ _ rs rs _ RB.out R1.out HRL.out HRL.out).mono ?_
              rintro e v6 ⟨rfl, hb⟩
              rw [decide_eq_true (rfl : rs = rs)]
              have HB := Lib.hid (bt HB.out hb)
              clear hb
              go_wp2
              go_ret
              exact ⟨by first | rfl | simp, HB.out⟩
      | true =>
        have hpr := HSIX.out (by first | rfl | trivial)
        go_wp2_with fail
        refine (implParseRow_any text mx _ (by have := HTS.out; omega) (KM.out _ HB.out)).mono ?_
        rintro e s1 ⟨back, rfl, hr, hb⟩
        rw [hpr] at hr ⊢
        have HB := Lib.hid (bt HB.out hb)
        have R1 := Lib.hid (own_keep R1.out hb)
        have R2 := Lib.hid (own_keep R2.out hb)
        have R3 := Lib.hid (own_keep R3.out hb)
        have R4 := Lib.hid (own_keep R4.out hb)
        have RP := Lib.hid hr
        clear hb hr hpr
        go_wp2_with fail
        refine (rInts_any _ _ xs xs _ RP.out R4.out HXL.out HXL.out).mono ?_
        rintro e w31 ⟨rfl, hb⟩
        have HB := Lib.hid (bt HB.out hb)
        have R1 := Lib.hid (own_keep R1.out hb)
        have R2 := Lib.hid (own_keep R2.out hb)
        have R3 := Lib.hid (own_keep R3.out hb)
        have R4 := Lib.hid (own_keep R4.out hb)
        rw [decide_eq_true (rfl : xs = xs)]
        clear hb
        clear RP
        cases four with
        | false =>
          cases one with
          | false =>
            go_wp2
            go_ret
            exact ⟨rfl, HB.out⟩
          | true =>
            obtain ⟨q1, q2, q3, q4, lr, q5, q6⟩ := HONE.out (by first | rfl | trivial)
            go_wp2_with fail
            refine (implTurnRow_any _ tr _ R2.out HTL.out).mono ?_
            rintro e v1 ⟨twice, rfl, hr, hb⟩
            rw [q1]
            rw [q2] at hr
            have HB := Lib.hid (bt HB.out hb)
            have R1 := Lib.hid (own_keep R1.out hb)
            have R2 := Lib.hid (own_keep R2.out hb)
            have R3 := Lib.hid (own_keep R3.out hb)
            have RA := Lib.hid hr
            clear hb hr
            go_wp2_with fail
            refine (implMirrorRow_any _ mr _ R3.out HML.out).mono ?_
            rintro e v2 ⟨again, rfl, hr, hb⟩
            rw [q3]
            rw [q4] at hr
            have HB := Lib.hid (bt HB.out hb)
            have R1 := Lib.hid (own_keep R1.out hb)
            have R2 := Lib.hid (own_keep R2.out hb)
            have RA := Lib.hid (own_keep RA.out hb)
            have RB := Lib.hid hr
            clear hb hr
            go_wp2_with fail
            refine (implLitOf_any _ rs _ R1.out HRL.out).mono ?_
            rintro e v3 ⟨rfl, hb⟩
            rw [q6]
            have HB := Lib.hid (bt HB.out hb)
            have R1 := Lib.hid (own_keep R1.out hb)
            have R2 := Lib.hid (own_keep R2.out hb)
            have RA := Lib.hid (own_keep RA.out hb)
            have RB := Lib.hid (own_keep RB.out hb)
            clear hb
            go_wp2_with fail
            refine (implLitOf_any _ tr _ R2.out HTL.out).mono ?_
            rintro e v4 ⟨rfl, hb⟩
            rw [q5]
            have HB := Lib.hid (bt HB.out hb)
            have R1 := Lib.hid (own_keep R1.out hb)
            have RA := Lib.hid (own_keep RA.out hb)
            have RB := Lib.hid (own_keep RB.out hb)
            clear hb q1 q2 q3 q4 q5 q6
            go_wp2_with fail
            refine (rInts_any _ _ rs rs _ RA.out R1.out HRL.out HRL.out).mono ?_
            rintro e v5 ⟨rfl, hb⟩
            rw [decide_eq_true (rfl : rs = rs)]
            have HB := Lib.hid (bt HB.out hb)
            have R1 := Lib.hid (own_keep R1.out hb)
            have RB := Lib.hid (own_keep RB.out hb)
            clear hb
            go_wp2_with fail
            refine (rInts_any _ _ rs rs _ RB.out R1.out HRL.out HRL.out).mono ?_
            rintro e v6 ⟨rfl, hb⟩
            rw [decide_eq_true (rfl : rs = rs)]
            have HB := Lib.hid (bt HB.out hb)
            clear hb
            go_wp2
            go_ret
            exact ⟨by first | rfl | simp, HB.out⟩
        | true =>
          obtain ⟨mn, hmn, hback4⟩ := HFOUR.out (by first | rfl | trivial)
          subst hmn
          by_cases h10 : mn % 10 = 0
          · have h10' : ((mn : Int) % 10) = 0 := by omega
            have hm6 := HM.out
            clear h10 hback4
            cases one with
            | false =>
              go_wp2
              go_ret
              exact ⟨rfl, HB.out⟩
            | true =>
              obtain ⟨q1, q2, q3, q4, lr, q5, q6⟩ := HONE.out (by first | rfl | trivial)
              go_wp2_with fail
              refine (implTurnRow_any _ tr _ R2.out HTL.out).mono ?_
              rintro e v1 ⟨twice, rfl, hr, hb⟩
              rw [q1]
              rw [q2] at hr
              have HB := Lib.hid (bt HB.out hb)
              have R1 := Lib.hid (own_keep R1.out hb)
              have R2 := Lib.hid (own_keep R2.out hb)
              have R3 := Lib.hid (own_keep R3.out hb)
              have RA := Lib.hid hr
              clear hb hr
              go_wp2_with fail
              refine (implMirrorRow_any _ mr _ R3.out HML.out).mono ?_
              rintro e v2 ⟨again, rfl, hr, hb⟩
              rw [q3]
              rw [q4] at hr
              have HB := Lib.hid (bt HB.out hb)
              have R1 := Lib.hid (own_keep R1.out hb)
              have R2 := Lib.hid (own_keep R2.out hb)
              have RA := Lib.hid (own_keep RA.out hb)
              have RB := Lib.hid hr
              clear hb hr
              go_wp2_with fail
              refine (implLitOf_any _ rs _ R1.out HRL.out).mono ?_
              rintro e v3 ⟨rfl, hb⟩
              rw [q6]
              have HB := Lib.hid (bt HB.out hb)
              have R1 := Lib.hid (own_keep R1.out hb)
              have R2 := Lib.hid (own_keep R2.out hb)
              have RA := Lib.hid (own_keep RA.out hb)
              have RB := Lib.hid (own_keep RB.out hb)
              clear hb
              go_wp2_with fail
              refine (implLitOf_any _ tr _ R2.out HTL.out).mono ?_
              rintro e v4 ⟨rfl, hb⟩
              rw [q5]
              have HB := Lib.hid (bt HB.out hb)
              have R1 := Lib.hid (own_keep R1.out hb)
              have RA := Lib.hid (own_keep RA.out hb)
              have RB := Lib.hid (own_keep RB.out hb)
              clear hb q1 q2 q3 q4 q5 q6
              go_wp2_with fail
              refine (rInts_any _ _ rs rs _ RA.out R1.out HRL.out HRL.out).mono ?_
              rintro e v5 ⟨rfl, hb⟩
              rw [decide_eq_true (rfl : rs = rs)]
              have HB := Lib.hid (bt HB.out hb)
              have R1 := Lib.hid (own_keep R1.out hb)
              have RB := Lib.hid (own_keep RB.out hb)
              clear hb
              go_wp2_with fail
              refine (rInts_any _ _ rs rs _ RB.out R1.out HRL.out HRL.out).mono ?_
              rintro e v6 ⟨rfl, hb⟩
              rw [decide_eq_true (rfl : rs = rs)]
              have HB := Lib.hid (bt HB.out hb)
              clear hb
              go_wp2
              go_ret
              exact ⟨by first | rfl | simp, HB.out⟩
          · have h10' : ¬ ((mn : Int) % 10) = 0 := by omega
            have h10b : (((mn : Int) % 10) == 0) = false := by simp [h10']
            have L1 := hback4 h10'
            have hm6 := HM.out
            have HL1 := Lib.hid L1
            clear hback4 h10 h10' L1
            go_wp2_with fail
            refine (implTurned_any other _ (KF.out _ HB.out)).mono ?_
            rintro e t1 ⟨rfl, hb⟩
            rw [HL1.out]
            have HB := Lib.hid (bt HB.out hb)
            have R1 := Lib.hid (own_keep R1.out hb)
            have R2 := Lib.hid (own_keep R2.out hb)
            have R3 := Lib.hid (own_keep R3.out hb)
            have R4 := Lib.hid (own_keep R4.out hb)
            clear hb
            cases one with
            | false =>
              go_wp2
              go_ret
              exact ⟨rfl, HB.out⟩
            | true =>
              obtain ⟨q1, q2, q3, q4, lr, q5, q6⟩ := HONE.out (by first | rfl | trivial)
              go_wp2_with fail
              refine (implTurnRow_any _ tr _ R2.out HTL.out).mono ?_
              rintro e v1 ⟨twice, rfl, hr, hb⟩
              rw [q1]
              rw [q2] at hr
              have HB := Lib.hid (bt HB.out hb)
              have R1 := Lib.hid (own_keep R1.out hb)
              have R2 := Lib.hid (own_keep R2.out hb)
              have R3 := Lib.hid (own_keep R3.out hb)
              have RA := Lib.hid hr
              clear hb hr
              go_wp2_with fail
              refine (implMirrorRow_any _ mr _ R3.out HML.out).mono ?_
              rintro e v2 ⟨again, rfl, hr, hb⟩
              rw [q3]
              rw [q4] at hr
              have HB := Lib.hid (bt HB.out hb)
              have R1 := Lib.hid (own_keep R1.out hb)
              have R2 := Lib.hid (own_keep R2.out hb)
              have RA := Lib.hid (own_keep RA.out hb)
              have RB := Lib.hid hr
              clear hb hr
              go_wp2_with fail
              refine (implLitOf_any _ rs _ R1.out HRL.out).mono ?_
              rintro e v3 ⟨rfl, hb⟩
              rw [q6]
              have HB := Lib.hid (bt HB.out hb)
              have R1 := Lib.hid (own_keep R1.out hb)
              have R2 := Lib.hid (own_keep R2.out hb)
              have RA := Lib.hid (own_keep RA.out hb)
              have RB := Lib.hid (own_keep RB.out hb)
              clear hb
              go_wp2_with fail
              refine (implLitOf_any _ tr _ R2.out HTL.out).mono ?_
              rintro e v4 ⟨rfl, hb⟩
              rw [q5]
              have HB := Lib.hid (bt HB.out hb)
              have R1 := Lib.hid (own_keep R1.out hb)
              have RA := Lib.hid (own_keep RA.out hb)
              have RB := Lib.hid (own_keep RB.out hb)
              clear hb q1 q2 q3 q4 q5 q6
              go_wp2_with fail
              refine (rInts_any _ _ rs rs _ RA.out R1.out HRL.out HRL.out).mono ?_
              rintro e v5 ⟨rfl, hb⟩
              rw [decide_eq_true (rfl : rs = rs)]
              have HB := Lib.hid (bt HB.out hb)
              have R1 := Lib.hid (own_keep R1.out hb)
              have RB := Lib.hid (own_keep RB.out hb)
              clear hb
              go_wp2_with fail
              refine (rInts_any _ _ rs rs _ RB.out R1.out HRL.out HRL.out).mono ?_
              rintro e v6 ⟨rfl, hb⟩
              rw [decide_eq_true (rfl : rs = rs)]
              have HB := Lib.hid (bt HB.out hb)
              clear hb
              go_wp2
              go_ret
              exact ⟨by first | rfl | simp, HB.out⟩
    | true =>
      have hnb := HBACK.out (by first | rfl | trivial)
      go_wp2_with fail
      refine (implNumberOf_any _ xs0 _ R0.out HX0.out).mono ?_
      rintro e o1 ⟨rfl, hb⟩
      rw [hnb]
      have HB := Lib.hid (bt HB.out hb)
      have R1 := Lib.hid (own_keep R1.out hb)
      have R2 := Lib.hid (own_keep R2.out hb)
      have R3 := Lib.hid (own_keep R3.out hb)
      have R4 := Lib.hid (own_keep R4.out hb)
      clear hb hnb
      cases six with
      | false =>
        cases four with
        | false =>
          cases one with
          | false =>
            go_wp2
            go_ret
            exact ⟨rfl, HB.out⟩
          | true =>
            obtain ⟨q1, q2, q3, q4, lr, q5, q6⟩ := HONE.out (by first | rfl | trivial)
            go_wp2_with fail
            refine (implTurnRow_any _ tr _ R2.out HTL.out).mono ?_
            rintro e v1 ⟨twice, rfl, hr, hb⟩
            rw [q1]
            rw [q2] at hr
            have HB := Lib.hid (bt HB.out hb)
            have R1 := Lib.hid (own_keep R1.out hb)
            have R2 := Lib.hid (own_keep R2.out hb)
            have R3 := Lib.hid (own_keep R3.out hb)
            have RA := Lib.hid hr
            clear hb hr
            go_wp2_with fail
            refine (implMirrorRow_any _ mr _ R3.out HML.out).mono ?_
            rintro e v2 ⟨again, rfl, hr, hb⟩
            rw [q3]
            rw [q4] at hr
            have HB := Lib.hid (bt HB.out hb)
            have R1 := Lib.hid (own_keep R1.out hb)
            have R2 := Lib.hid (own_keep R2.out hb)
            have RA := Lib.hid (own_keep RA.out hb)
            have RB := Lib.hid hr
            clear hb hr
            go_wp2_with fail
            refine (implLitOf_any _ rs _ R1.out HRL.out).mono ?_
            rintro e v3 ⟨rfl, hb⟩
            rw [q6]
            have HB := Lib.hid (bt HB.out hb)
            have R1 := Lib.hid (own_keep R1.out hb)
            have R2 := Lib.hid (own_keep R2.out hb)
            have RA := Lib.hid (own_keep RA.out hb)
            have RB := Lib.hid (own_keep RB.out hb)
            clear hb
            go_wp2_with fail
            refine (implLitOf_any _ tr _ R2.out HTL.out).mono ?_
            rintro e v4 ⟨rfl, hb⟩
            rw [q5]
            have HB := Lib.hid (bt HB.out hb)
            have R1 := Lib.hid (own_keep R1.out hb)
            have RA := Lib.hid (own_keep RA.out hb)
            have RB := Lib.hid (own_keep RB.out hb)
            clear hb q1 q2 q3 q4 q5 q6
            go_wp2_with fail
            refine (rInts_any _ _ rs rs _ RA.out R1.out HRL.out HRL.out).mono ?_
            rintro e v5 ⟨rfl, hb⟩
            rw [decide_eq_true (rfl : rs = rs)]
            have HB := Lib.hid (bt HB.out hb)
            have R1 := Lib.hid (own_keep R1.out hb)
            have RB := Lib.hid (own_keep RB.out hb)
            clear hb
            go_wp2_with fail
            refine (rInts_any _ _ rs rs _ RB.out R1.out HRL.out HRL.out).mono ?_
            rintro e v6 ⟨rfl, hb⟩
            rw [decide_eq_true (rfl : rs = rs)]
            have HB := Lib.hid (bt HB.out hb)
            clear hb
            go_wp2
            go_ret
            exact ⟨by first | rfl | simp, HB.out⟩
        | true =>
          obtain ⟨mn, hmn, hback4⟩ := HFOUR.out (by first | rfl | trivial)
          subst hmn
          by_cases h10 : mn % 10 = 0
          · have h10' : ((mn : Int) % 10) = 0 := by omega
            have hm6 := HM.out
            clear h10 hback4
            cases one with
            | false =>
              go_wp2
              go_ret
              exact ⟨rfl, HB.out⟩
            | true =>
              obtain ⟨q1, q2, q3, q4, lr, q5, q6⟩ := HONE.out (by first | rfl | trivial)
              go_wp2_with fail
              refine (implTurnRow_any _ tr _ R2.out HTL.out).mono ?_
              rintro e v1 ⟨twice, rfl, hr, hb⟩
              rw [q1]
              rw [q2] at hr
              have HB := Lib.hid (bt HB.out hb)
              have R1 := Lib.hid (own_keep R1.out hb)
              have R2 := Lib.hid (own_keep R2.out hb)
              have R3 := Lib.hid (own_keep R3.out hb)
              have RA := Lib.hid hr
              clear hb hr
              go_wp2_with fail
              refine (implMirrorRow_any _ mr _ R3.out HML.out).mono ?_
              rintro e v2 ⟨again, rfl, hr, hb⟩
              rw [q3]
              rw [q4] at hr
              have HB := Lib.hid (bt HB.out hb)
              have R1 := Lib.hid (own_keep R1.out hb)
              have R2 := Lib.hid (own_keep R2.out hb)
              have RA := Lib.hid (own_keep RA.out hb)
              have RB := Lib.hid hr
              clear hb hr
              go_wp2_with fail
              refine (implLitOf_any _ rs _ R1.out HRL.out).mono ?_
              rintro e v3 ⟨rfl, hb⟩
              rw [q6]
              have HB := Lib.hid (bt HB.out hb)
              have R1 := Lib.hid (own_keep R1.out hb)
              have R2 := Lib.hid (own_keep R2.out hb)
              have RA := Lib.hid (own_keep RA.out hb)
              have RB := Lib.hid (own_keep RB.out hb)
              clear hb
              go_wp2_with fail
              refine (implLitOf_any _ tr _ R2.out HTL.out).mono ?_
              rintro e v4 ⟨rfl, hb⟩
              rw [q5]
              have HB := Lib.hid (bt HB.out hb)
              have R1 := Lib.hid (own_keep R1.out hb)
              have RA := Lib.hid (own_keep RA.out hb)
              have RB := Lib.hid (own_keep RB.out hb)
              clear hb q1 q2 q3 q4 q5 q6
              go_wp2_with fail
              refine (rInts_any _ _ rs rs _ RA.out R1.out HRL.out HRL.out).mono ?_
              rintro e v5 ⟨rfl, hb⟩
              rw [decide_eq_true (rfl : rs = rs)]
              have HB := Lib.hid (bt HB.out hb)
              have R1 := Lib.hid (own_keep R1.out hb)
              have RB := Lib.hid (own_keep RB.out hb)
              clear hb
              go_wp2_with fail
              refine (rInts_any _ _ rs rs _ RB.out R1.out HRL.out HRL.out).mono ?_
              rintro e v6 ⟨rfl, hb⟩
              rw [decide_eq_true (rfl : rs = rs)]
              have HB := Lib.hid (bt HB.out hb)
              clear hb
              go_wp2
              go_ret
              exact ⟨by first | rfl | simp, HB.out⟩
          · have h10' : ¬ ((mn : Int) % 10) = 0 := by omega
            have h10b : (((mn : Int) % 10) == 0) = false := by simp [h10']
            have L1 := hback4 h10'
            have hm6 := HM.out
            have HL1 := Lib.hid L1
            clear hback4 h10 h10' L1
            go_wp2_with fail
            refine (implTurned_any other _ (KF.out _ HB.out)).mono ?_
            rintro e t1 ⟨rfl, hb⟩
            rw [HL1.out]
            have HB := Lib.hid (bt HB.out hb)
            have R1 := Lib.hid (own_keep R1.out hb)
            have R2 := Lib.hid (own_keep R2.out hb)
            have R3 := Lib.hid (own_keep R3.out hb)
            have R4 := Lib.hid (own_keep R4.out hb)
            clear hb
            cases one with
            | false =>
              go_wp2
              go_ret
              exact ⟨rfl, HB.out⟩
            | true =>
              obtain ⟨q1, q2, q3, q4, lr, q5, q6⟩ := HONE.out (by first | rfl | trivial)
              go_wp2_with fail
              refine (implTurnRow_any _ tr _ R2.out HTL.out).mono ?_
              rintro e v1 ⟨twice, rfl, hr, hb⟩
              rw [q1]
              rw [q2] at hr
              have HB := Lib.hid (bt HB.out hb)
              have R1 := Lib.hid (own_keep R1.out hb)
              have R2 := Lib.hid (own_keep R2.out hb)
              have R3 := Lib.hid (own_keep R3.out hb)
              have RA := Lib.hid hr
              clear hb hr
              go_wp2_with fail
              refine (implMirrorRow_any _ mr _ R3.out HML.out).mono ?_
              rintro e v2 ⟨again, rfl, hr, hb⟩
              rw [q3]
              rw [q4] at hr
              have HB := Lib.hid (bt HB.out hb)
              have R1 := Lib.hid (own_keep R1.out hb)
              have R2 := Lib.hid (own_keep R2.out hb)
              have RA := Lib.hid (own_keep RA.out hb)
              have RB := Lib.hid hr
              clear hb hr
              go_wp2_with fail
              refine (implLitOf_any _ rs _ R1.out HRL.out).mono ?_
              rintro e v3 ⟨rfl, hb⟩
              rw [q6]
              have HB := Lib.hid (bt HB.out hb)
              have R1 := Lib.hid (own_keep R1.out hb)
              have R2 := Lib.hid (own_keep R2.out hb)
              have RA := Lib.hid (own_keep RA.out hb)
              have RB := Lib.hid (own_keep RB.out hb)
              clear hb
              go_wp2_with fail
              refine (implLitOf_any _ tr _ R2.out HTL.out).mono ?_
              rintro e v4 ⟨rfl, hb⟩
              rw [q5]
              have HB := Lib.hid (bt HB.out hb)
              have R1 := Lib.hid (own_keep R1.out hb)
              have RA := Lib.hid (own_keep RA.out hb)
              have RB := Lib.hid (own_keep RB.out hb)
              clear hb q1 q2 q3 q4 q5 q6
              go_wp2_with fail
              refine (rInts_any _ _ rs rs _ RA.out R1.out HRL.out HRL.out).mono ?_
              rintro e v5 ⟨rfl, hb⟩
              rw [decide_eq_true (rfl : rs = rs)]
              have HB := Lib.hid (bt HB.out hb)
              have R1 := Lib.hid (own_keep R1.out hb)
              have RB := Lib.hid (own_keep RB.out hb)
              clear hb
              go_wp2_with fail
              refine (rInts_any _ _ rs rs _ RB.out R1.out HRL.out HRL.out).mono ?_
              rintro e v6 ⟨rfl, hb⟩
              rw [decide_eq_true (rfl : rs = rs)]
              have HB := Lib.hid (bt HB.out hb)
              clear hb
              go_wp2
              go_ret
              exact ⟨by first | rfl | simp, HB.out⟩
      | true =>
        have hpr := HSIX.out (by first | rfl | trivial)
        go_wp2_with fail
        refine (implParseRow_any text mx _ (by have := HTS.out; omega) (KM.out _ HB.out)).mono ?_
        rintro e s1 ⟨back, rfl, hr, hb⟩
        rw [hpr] at hr ⊢
        have HB := Lib.hid (bt HB.out hb)
        have R1 := Lib.hid (own_keep R1.out hb)
        have R2 := Lib.hid (own_keep R2.out hb)
        have R3 := Lib.hid (own_keep R3.out hb)
        have R4 := Lib.hid (own_keep R4.out hb)
        have RP := Lib.hid hr
        clear hb hr hpr
        go_wp2_with fail
        refine (rInts_any _ _ xs xs _ RP.out R4.out HXL.out HXL.out).mono ?_
        rintro e w32 ⟨rfl, hb⟩
        have HB := Lib.hid (bt HB.out hb)
        have R1 := Lib.hid (own_keep R1.out hb)
        have R2 := Lib.hid (own_keep R2.out hb)
        have R3 := Lib.hid (own_keep R3.out hb)
        have R4 := Lib.hid (own_keep R4.out hb)
        rw [decide_eq_true (rfl : xs = xs)]
        clear hb
        clear RP
        cases four with
        | false =>
          cases one with
          | false =>
            go_wp2
            go_ret
            exact ⟨rfl, HB.out⟩
          | true =>
            obtain ⟨q1, q2, q3, q4, lr, q5, q6⟩ := HONE.out (by first | rfl | trivial)
            go_wp2_with fail
            refine (implTurnRow_any _ tr _ R2.out HTL.out).mono ?_
            rintro e v1 ⟨twice, rfl, hr, hb⟩
            rw [q1]
            rw [q2] at hr
            have HB := Lib.hid (bt HB.out hb)
            have R1 := Lib.hid (own_keep R1.out hb)
            have R2 := Lib.hid (own_keep R2.out hb)
            have R3 := Lib.hid (own_keep R3.out hb)
            have RA := Lib.hid hr
            clear hb hr
            go_wp2_with fail
            refine (implMirrorRow_any _ mr _ R3.out HML.out).mono ?_
            rintro e v2 ⟨again, rfl, hr, hb⟩
            rw [q3]
            rw [q4] at hr
            have HB := Lib.hid (bt HB.out hb)
            have R1 := Lib.hid (own_keep R1.out hb)
            have R2 := Lib.hid (own_keep R2.out hb)
            have RA := Lib.hid (own_keep RA.out hb)
            have RB := Lib.hid hr
            clear hb hr
            go_wp2_with fail
            refine (implLitOf_any _ rs _ R1.out HRL.out).mono ?_
            rintro e v3 ⟨rfl, hb⟩
            rw [q6]
            have HB := Lib.hid (bt HB.out hb)
            have R1 := Lib.hid (own_keep R1.out hb)
            have R2 := Lib.hid (own_keep R2.out hb)
            have RA := Lib.hid (own_keep RA.out hb)
            have RB := Lib.hid (own_keep RB.out hb)
            clear hb
            go_wp2_with fail
            refine (implLitOf_any _ tr _ R2.out HTL.out).mono ?_
            rintro e v4 ⟨rfl, hb⟩
            rw [q5]
            have HB := Lib.hid (bt HB.out hb)
            have R1 := Lib.hid (own_keep R1.out hb)
            have RA := Lib.hid (own_keep RA.out hb)
            have RB := Lib.hid (own_keep RB.out hb)
            clear hb q1 q2 q3 q4 q5 q6
            go_wp2_with fail
            refine (rInts_any _ _ rs rs _ RA.out R1.out HRL.out HRL.out).mono ?_
            rintro e v5 ⟨rfl, hb⟩
            rw [decide_eq_true (rfl : rs = rs)]
            have HB := Lib.hid (bt HB.out hb)
            have R1 := Lib.hid (own_keep R1.out hb)
            have RB := Lib.hid (own_keep RB.out hb)
            clear hb
            go_wp2_with fail
            refine (rInts_any _ _ rs rs _ RB.out R1.out HRL.out HRL.out).mono ?_
            rintro e v6 ⟨rfl, hb⟩
            rw [decide_eq_true (rfl : rs = rs)]
            have HB := Lib.hid (bt HB.out hb)
            clear hb
            go_wp2
            go_ret
            exact ⟨by first | rfl | simp, HB.out⟩
        | true =>
          obtain ⟨mn, hmn, hback4⟩ := HFOUR.out (by first | rfl | trivial)
          subst hmn
          by_cases h10 : mn % 10 = 0
          · have h10' : ((mn : Int) % 10) = 0 := by omega
            have hm6 := HM.out
            clear h10 hback4
            cases one with
            | false =>
              go_wp2
              go_ret
              exact ⟨rfl, HB.out⟩
            | true =>
              obtain ⟨q1, q2, q3, q4, lr, q5, q6⟩ := HONE.out (by first | rfl | trivial)
              go_wp2_with fail
              refine (implTurnRow_any _ tr _ R2.out HTL.out).mono ?_
              rintro e v1 ⟨twice, rfl, hr, hb⟩
              rw [q1]
              rw [q2] at hr
              have HB := Lib.hid (bt HB.out hb)
              have R1 := Lib.hid (own_keep R1.out hb)
              have R2 := Lib.hid (own_keep R2.out hb)
              have R3 := Lib.hid (own_keep R3.out hb)
              have RA := Lib.hid hr
              clear hb hr
              go_wp2_with fail
              refine (implMirrorRow_any _ mr _ R3.out HML.out).mono ?_
              rintro e v2 ⟨again, rfl, hr, hb⟩
              rw [q3]
              rw [q4] at hr
              have HB := Lib.hid (bt HB.out hb)
              have R1 := Lib.hid (own_keep R1.out hb)
              have R2 := Lib.hid (own_keep R2.out hb)
              have RA := Lib.hid (own_keep RA.out hb)
              have RB := Lib.hid hr
              clear hb hr
              go_wp2_with fail
              refine (implLitOf_any _ rs _ R1.out HRL.out).mono ?_
              rintro e v3 ⟨rfl, hb⟩
              rw [q6]
              have HB := Lib.hid (bt HB.out hb)
              have R1 := Lib.hid (own_keep R1.out hb)
              have R2 := Lib.hid (own_keep R2.out hb)
              have RA := Lib.hid (own_keep RA.out hb)
              have RB := Lib.hid (own_keep RB.out hb)
              clear hb
              go_wp2_with fail
              refine (implLitOf_any _ tr _ R2.out HTL.out).mono ?_
              rintro e v4 ⟨rfl, hb⟩
              rw [q5]
              have HB := Lib.hid (bt HB.out hb)
              have R1 := Lib.hid (own_keep R1.out hb)
              have RA := Lib.hid (own_keep RA.out hb)
              have RB := Lib.hid (own_keep RB.out hb)
              clear hb q1 q2 q3 q4 q5 q6
              go_wp2_with fail
              refine (rInts_any _ _ rs rs _ RA.out R1.out HRL.out HRL.out).mono ?_
              rintro e v5 ⟨rfl, hb⟩
              rw [decide_eq_true (rfl : rs = rs)]
              have HB := Lib.hid (bt HB.out hb)
              have R1 := Lib.hid (own_keep R1.out hb)
              have RB := Lib.hid (own_keep RB.out hb)
              clear hb
              go_wp2_with fail
              refine (rInts_any _ _ rs rs _ RB.out R1.out HRL.out HRL.out).mono ?_
              rintro e v6 ⟨rfl, hb⟩
              rw [decide_eq_true (rfl : rs = rs)]
              have HB := Lib.hid (bt HB.out hb)
              clear hb
              go_wp2
              go_ret
              exact ⟨by first | rfl | simp, HB.out⟩
          · have h10' : ¬ ((mn : Int) % 10) = 0 := by omega
            have h10b : (((mn : Int) % 10) == 0) = false := by simp [h10']
            have L1 := hback4 h10'
            have hm6 := HM.out
            have HL1 := Lib.hid L1
            clear hback4 h10 h10' L1
            go_wp2_with fail
            refine (implTurned_any other _ (KF.out _ HB.out)).mono ?_
            rintro e t1 ⟨rfl, hb⟩
            rw [HL1.out]
            have HB := Lib.hid (bt HB.out hb)
            have R1 := Lib.hid (own_keep R1.out hb)
            have R2 := Lib.hid (own_keep R2.out hb)
            have R3 := Lib.hid (own_keep R3.out hb)
            have R4 := Lib.hid (own_keep R4.out hb)
            clear hb
            cases one with
            | false =>
              go_wp2
              go_ret
              exact ⟨rfl, HB.out⟩
            | true =>
              obtain ⟨q1, q2, q3, q4, lr, q5, q6⟩ := HONE.out (by first | rfl | trivial)
              go_wp2_with fail
              refine (implTurnRow_any _ tr _ R2.out HTL.out).mono ?_
              rintro e v1 ⟨twice, rfl, hr, hb⟩
              rw [q1]
              rw [q2] at hr
              have HB := Lib.hid (bt HB.out hb)
              have R1 := Lib.hid (own_keep R1.out hb)
              have R2 := Lib.hid (own_keep R2.out hb)
              have R3 := Lib.hid (own_keep R3.out hb)
              have RA := Lib.hid hr
              clear hb hr
              go_wp2_with fail
              refine (implMirrorRow_any _ mr _ R3.out HML.out).mono ?_
              rintro e v2 ⟨again, rfl, hr, hb⟩
              rw [q3]
              rw [q4] at hr
              have HB := Lib.hid (bt HB.out hb)
              have R1 := Lib.hid (own_keep R1.out hb)
              have R2 := Lib.hid (own_keep R2.out hb)
              have RA := Lib.hid (own_keep RA.out hb)
              have RB := Lib.hid hr
              clear hb hr
              go_wp2_with fail
              refine (implLitOf_any _ rs _ R1.out HRL.out).mono ?_
              rintro e v3 ⟨rfl, hb⟩
              rw [q6]
              have HB := Lib.hid (bt HB.out hb)
              have R1 := Lib.hid (own_keep R1.out hb)
              have R2 := Lib.hid (own_keep R2.out hb)
              have RA := Lib.hid (own_keep RA.out hb)
              have RB := Lib.hid (own_keep RB.out hb)
              clear hb
              go_wp2_with fail
              refine (implLitOf_any _ tr _ R2.out HTL.out).mono ?_
              rintro e v4 ⟨rfl, hb⟩
              rw [q5]
              have HB := Lib.hid (bt HB.out hb)
              have R1 := Lib.hid (own_keep R1.out hb)
              have RA := Lib.hid (own_keep RA.out hb)
              have RB := Lib.hid (own_keep RB.out hb)
              clear hb q1 q2 q3 q4 q5 q6
              go_wp2_with fail
              refine (rInts_any _ _ rs rs _ RA.out R1.out HRL.out HRL.out).mono ?_
              rintro e v5 ⟨rfl, hb⟩
              rw [decide_eq_true (rfl : rs = rs)]
              have HB := Lib.hid (bt HB.out hb)
              have R1 := Lib.hid (own_keep R1.out hb)
              have RB := Lib.hid (own_keep RB.out hb)
              clear hb
              go_wp2_with fail
              refine (rInts_any _ _ rs rs _ RB.out R1.out HRL.out HRL.out).mono ?_
              rintro e v6 ⟨rfl, hb⟩
              rw [decide_eq_true (rfl : rs = rs)]
              have HB := Lib.hid (bt HB.out hb)
              clear hb
              go_wp2
              go_ret
              exact ⟨by first | rfl | simp, HB.out⟩
  · clear hb0 ha hFM
    go_enter Tryz.func3, Tryz.ntmps3
    go_wp2_with ((go_at_call 4; refine (rBig_yes a len cap _ hl hml).mono ?_; rintro e w1 ⟨rfl, rfl⟩))
    go_ret
    exact ⟨rfl, Below.refl _ _⟩

end Go.Proofs.YthgjghgkjhkbbaaGreatDoor
