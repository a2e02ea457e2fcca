/-
  Contracts of the program's LeastOrder and LeastRing. No condition but the bound on the length.
-/
import Derived.Test.YtfdhmijofpbkjaaLeastI
import Derived.Test.YtfdhmijofpbkjaaTourF
import Derived.Test.YtfdhmijofpbkjaaSrtV
import Derived.Test.YtfdhmijofpbkjaaOrd2
import Derived.Test.YtfdhmijofpbkjaaTabC
import Derived.Deep.MidRow
namespace Go.Proofs.Ytfdhmijofpbkjaa
open Go.RowKit
set_option linter.unusedVariables false


open Go.Maps
def tourC (v0 mp : Value) (k : Int) : Array Value := #[v0] ++ tabC ++ #[mp, .int .i64 k]
theorem tab_at (a b : Nat) (ha : a < 10) (hb : b < 10) : tabC[a * 10 + b]? = some (.int .i64 (farT a b : Int)) := by
  unfold tabC tabL
  rw [List.getElem?_toArray, List.getElem?_map, List.getElem?_map, List.getElem?_range (by omega)]
  simp only [Option.map_some]
  rw [if_pos (by omega), show (a * 10 + b) / 10 = a by omega, show (a * 10 + b) % 10 = b by omega]
theorem tourC_size (v0 mp : Value) (k : Int) : (tourC v0 mp k).size = 103 := by simp [tourC, tabC_size]
theorem tourC_0 (v0 mp : Value) (k : Int) : (tourC v0 mp k)[0]? = some v0 := by
  unfold tourC
  rw [Array.getElem?_append_left (by simp [tabC_size]), Array.getElem?_append_left (by simp)]
  rfl
theorem tourC_tab (v0 mp : Value) (k : Int) (a b : Nat) (ha : a < 10) (hb : b < 10) : (tourC v0 mp k)[1 + a * 10 + b]? = some (.int .i64 (farT a b : Int)) := by
  have h := tab_at a b ha hb
  unfold tourC
  rw [Array.getElem?_append_left (by simp [tabC_size]; omega), Array.getElem?_append_right (by simp; omega)]
  rw [show 1 + a * 10 + b - #[v0].size = a * 10 + b by simp; omega]
  exact h
theorem tourC_101 (v0 mp : Value) (k : Int) : (tourC v0 mp k)[101]? = some mp := by
  unfold tourC
  rw [Array.getElem?_append_right (by simp [tabC_size])]
  simp [tabC_size]
theorem tourC_102 (v0 mp : Value) (k : Int) : (tourC v0 mp k)[102]? = some (.int .i64 k) := by
  unfold tourC
  rw [Array.getElem?_append_right (by simp [tabC_size])]
  simp [tabC_size]
set_option maxRecDepth 100000 in
theorem build_run (q n cap m : Nat) (W : World) : (Instr.build 48 #[(0, .slice (some ⟨q, 0, none⟩) n cap), (1, .agg tabC), (2, .map (some m)), (3, .int .i64 (-1))]).run Try.prog W = .ok (.agg (tourC (.slice (some ⟨q, 0, none⟩) n cap) (.map (some m)) (-1))) W := by kernel_rfl
theorem cell_oth {w : World} {g o g' o' : Nat} {v u : Value} (h : w.cell? ⟨g, o, none⟩ = some u) (hne : g' ≠ g ∨ o' ≠ o) : (w.setCell ⟨g', o', none⟩ v).cell? ⟨g, o, none⟩ = some u := by
  have e : (⟨g', o', none⟩ : Addr) ≠ ⟨g, o, none⟩ := fun e => by
    injection e with e1 e2
    rcases hne with h1 | h1
    · exact h1 e1
    · exact h1 e2
  exact (World.cell?_setCell_other w _ _ v e).trans h
theorem wpList_build_tour {P : Program} (w : World) {ops : Array Oper} {rest : List Oper} {o : Oper} {a : Act} {Q : Exit → Act → World → Prop} (t : TypeId) (p0 p1 p2 p3 : Operand) (hop : o.op = Op.build t #[(0, p0), (1, p1), (2, p2), (3, p3)]) (hg : o.guard = none) (v0 v1 v2 v3 : Value) (h0 : a.eval p0 = v0) (h1 : a.eval p1 = v1) (h2 : a.eval p2 = v2) (h3 : a.eval p3 = v3) (Z : Value) (hrun : (Instr.build t #[(0, v0), (1, v1), (2, v2), (3, v3)]).run P w = .ok Z w)
    (h : wpList P ops Q rest (a.put o.dst Z) w) : wpList P ops Q (o :: rest) a w := by
  refine wpList_plain hg fun K hK' => ?_
  unfold Oper.wp
  simp [execOp, hop, h0, h1, h2, h3, hrun, Result.andThen]
  exact hK' _ _ h
set_option maxRecDepth 100000 in
set_option maxHeartbeats 1000000 in
theorem implLeast_any {A : Nat} (v : Value) (xs : List Int) (ring : Bool) (w : World) (hv : Own A w v xs) (hx : xs.length ≤ 1073741824) :
    Calls Try.prog 18 #[v, .bool ring] w fun e w' => ∃ u, e = .returned (.tuple #[u, .int .i64 (liI xs ring).2.1, .bool (liI xs ring).2.2]) ∧ Own w.heap.size w' u (liI xs ring).1 ∧ Below w.heap.size w w' := by
  have HO := Lib.hid (fun w' (h : Own A w' v xs) => isOrder_any v xs w' h hx)
  obtain ⟨a0, c0, rfl⟩ := own_sl hv
  have HV := Lib.hid hv
  by_cases hc : ordB xs = true
  · have e : liI xs ring = (intL (liAll (setL xs) ring (setL xs).length).1, (liAll (setL xs) ring (setL xs).length).2, true) := if_pos hc
    rw [e]
    rw [hc] at HO
    have hl := ordB_len xs hc
    have HSRT := Lib.hid (sort_is xs hc)
    obtain ⟨d1, d2, d3⟩ := setL_dig xs
    have HD1 := Lib.hid d2
    have HD3 := Lib.hid d3
    obtain ⟨L, hLL⟩ : ∃ L, setL xs = L := ⟨_, rfl⟩
    rw [hLL] at HSRT HD1 HD3 d1 ⊢
    clear e hc hv hx d2 d3 hLL
    have HT := Lib.hid implTab_any
    have HBD := Lib.hid build_run
    have HZ := Lib.hid (fun v0 mp => (⟨tourC_size v0 mp (-1), tourC_0 v0 mp (-1), tourC_tab v0 mp (-1), tourC_101 v0 mp (-1), tourC_102 v0 mp (-1)⟩ : (tourC v0 mp (-1)).size = 103 ∧ (tourC v0 mp (-1))[0]? = some v0 ∧ (∀ a b : Nat, a < 10 → b < 10 → (tourC v0 mp (-1))[1 + a * 10 + b]? = some (.int .i64 (farT a b : Int))) ∧ (tourC v0 mp (-1))[101]? = some mp ∧ (tourC v0 mp (-1))[102]? = some (.int .i64 (-1))))
    have hex : ∃ Z : Value → Value → Array Value, (∀ v0 mp, Z v0 mp = tourC v0 mp (-1)) := ⟨fun v0 mp => tourC v0 mp (-1), fun _ _ => rfl⟩
    obtain ⟨Z, hZ⟩ := hex
    simp only [← hZ] at HBD HZ
    clear hZ
    generalize tabC = C at HT HBD
    go_enter Try.func18, Try.ntmps18
    go_wp2_with ((go_at_call 22; refine (HO.out _ HV.out).mono ?_; rintro e w1 ⟨rfl, rfl⟩))
    refine (values_any a0 xs.length c0 w).mono ?_
    rintro e w1 ⟨rfl, rfl⟩
    go_wp2_with fail
    refine (sorted_any w.heap.size (.slice a0 xs.length c0) xs (w.alloc (.cells #[.slice a0 xs.length c0] 22)) (own_keep HV.out ((Below.refl _ _).alloc (Nat.le_refl _) _)) hl (by simp) (by simp)).mono ?_
    rintro e w2 ⟨u, rfl, hr, hb2⟩
    rw [HSRT.out] at hr
    have HB2 : Hid (Below w.heap.size w w2) := Lib.hid (((Below.refl _ _).alloc (Nat.le_refl _) _).trans (hb2.mono (by simp)))
    have hsz2 := HB2.out.size
    clear hb2
    have hrl : (intL L).length = L.length := intL_len L
    rcases own_cases hr with ⟨rfl, he⟩ | ⟨q, cap, rfl, hq1, hq2, hq3, hq4, hqc, hqf⟩
    · have hL0 : L = [] := by
        rw [he] at hrl
        exact List.eq_nil_of_length_eq_zero hrl.symm
      subst hL0
      clear hr he hrl
      go_wp2
      refine wp_loop_rounds 1 ?_
      rw [rounds_succ]
      go_wp2
      go_ret3
      exact ⟨_, rfl, ⟨rfl, .inl ⟨rfl, rfl⟩⟩, HB2.out⟩
    · have HQC := Lib.hid hqc
      have HQR := Lib.hid hr
      obtain ⟨n, hn⟩ : ∃ n, L.length = n := ⟨_, rfl⟩
      have HNL := Lib.hid hn
      rw [hrl, hn] at hq3 ⊢
      rw [hn] at d1
      clear hr hqc hqf hrl hq4 hn
      go_wp2_with fail
      go_loopw [8, 9, 23] (fun bv lv iv wr => ∃ i : Nat, i ≤ n ∧ iv = .int .i64 i ∧ lv = .int .i64 (liAll L ring i).2 ∧ Own w.heap.size wr bv (intL (liAll L ring i).1) ∧ Below w2.heap.size w2 wr) (fun _ _ iv _ => n - (intOf iv).toNat)
      case atStart => exact ⟨0, by omega, rfl, rfl, ⟨rfl, .inl ⟨rfl, rfl⟩⟩, Below.refl _ _⟩
      case round =>
        obtain ⟨i, hi, rfl, rfl, ho, hb⟩ := hrel
        have HO := Lib.hid ho
        have HB := Lib.hid hb
        have hwb := hb.size
        by_cases hlt : i < n
        · have hiI : (i : Int) < (n : Int) := by omega
          have hci : wr.cell? ⟨q, i, none⟩ = some (.int .i64 (L.getD i 0 : Int)) := by
            rw [hb.cell (p := ⟨q, i, none⟩) hq2, HQC.out i (by rw [intL_len, HNL.out]; exact hlt)]
            have : (intL L).getD i 0 = (L.getD i 0 : Int) := by
              unfold intL
              simp [List.getD, List.getElem?_map, List.getElem?_eq_getElem (show i < L.length by rw [HNL.out]; exact hlt)]
            rw [this]
          have hx10 := HD3.out i (by rw [HNL.out]; exact hlt)
          generalize hxx : L.getD i 0 = x at hci hx10
          have HX := Lib.hid hxx
          have hwq := hb
          clear ho hb hxx
          go_wp2_with fail
          refine (HT.out _).mono ?_
          rintro e w3 ⟨rfl, hb3⟩
          have HB3 := Lib.hid hb3
          clear hb3
          have hmm : ∀ W : World, (Instr.makeMap 46 none).run Try.prog W = .ok (.map (some W.heap.size)) (W.alloc (.map #[] 0)) := fun _ => rfl
          go_upto_if 33 with ((refine wpList_build_tour _ 48 (.tmp 28) (.tmp 29) (.tmp 30) (.const (.int .i64 (-1))) rfl rfl (.slice (some ⟨q, 0, none⟩) n cap) (.agg C) (.map (some w3.heap.size)) (.int .i64 (-1)) rfl rfl rfl rfl (.agg (Z (.slice (some ⟨q, 0, none⟩) n cap) (.map (some w3.heap.size)))) (HBD.out q n cap w3.heap.size _) ?_))
          obtain ⟨z1, z2, z3, z4, z5⟩ := HZ.out (.slice (some ⟨q, 0, none⟩) n cap) (.map (some w3.heap.size))
          have hsm : (w3.alloc (.map #[] 0)).heap.size = w3.heap.size + 1 := by simp
          have k0 : ((w3.alloc (.map #[] 0)).alloc (.cells (Z (.slice (some ⟨q, 0, none⟩) n cap) (.map (some w3.heap.size))) 48)).cell? ⟨w3.heap.size + 1, 0, none⟩ = some (.slice (some ⟨q, 0, none⟩) n cap) := by rw [← hsm, World.cell?_alloc_new]; exact z2
          have k1 : ∀ a b : Nat, a < 10 → b < 10 → ((w3.alloc (.map #[] 0)).alloc (.cells (Z (.slice (some ⟨q, 0, none⟩) n cap) (.map (some w3.heap.size))) 48)).cell? ⟨w3.heap.size + 1, 1 + a * 10 + b, none⟩ = some (.int .i64 (farT a b : Int)) := fun a b ha hb => by rw [← hsm, World.cell?_alloc_new]; exact z3 a b ha hb
          have k2 : ((w3.alloc (.map #[] 0)).alloc (.cells (Z (.slice (some ⟨q, 0, none⟩) n cap) (.map (some w3.heap.size))) 48)).cell? ⟨w3.heap.size + 1, 101, none⟩ = some (.map (some w3.heap.size)) := by rw [← hsm, World.cell?_alloc_new]; exact z4
          have k3 : ((w3.alloc (.map #[] 0)).alloc (.cells (Z (.slice (some ⟨q, 0, none⟩) n cap) (.map (some w3.heap.size))) 48)).cell? ⟨w3.heap.size + 1, 102, none⟩ = some (.int .i64 (-1)) := by rw [← hsm, World.cell?_alloc_new]; exact z5
          have k4 : ((w3.alloc (.map #[] 0)).alloc (.cells (Z (.slice (some ⟨q, 0, none⟩) n cap) (.map (some w3.heap.size))) 48)).frozen? ⟨w3.heap.size + 1, 102, none⟩ = false := by rw [← hsm]; simp
          have k5 : MapOk ((w3.alloc (.map #[] 0)).alloc (.cells (Z (.slice (some ⟨q, 0, none⟩) n cap) (.map (some w3.heap.size))) 48)) w3.heap.size 0 L (backOf L ring i) := ⟨.map [], (World.ownsMap_made w3 Try.prog 59 _).alloc _, goodD_nil _ _⟩
          have k6 : Below wr.heap.size wr ((w3.alloc (.map #[] 0)).alloc (.cells (Z (.slice (some ⟨q, 0, none⟩) n cap) (.map (some w3.heap.size))) 48)) := (HB3.out.alloc HB3.out.size _).alloc (by have := HB3.out.size; simp; omega) _
          have k7 : ((w3.alloc (.map #[] 0)).alloc (.cells (Z (.slice (some ⟨q, 0, none⟩) n cap) (.map (some w3.heap.size))) 48)).heap.size = w3.heap.size + 2 := by simp
          generalize (w3.alloc (.map #[] 0)).alloc (.cells (Z (.slice (some ⟨q, 0, none⟩) n cap) (.map (some w3.heap.size))) 48) = W4 at k0 k1 k2 k3 k4 k5 k6 k7 ⊢
          have hsz3 := HB3.out.size
          generalize w3.heap.size = m at k0 k1 k2 k3 k4 k5 k7 hsz3 ⊢
          have HDL : DigL L := ⟨by rw [HNL.out]; exact d1, HD1.out, HD3.out⟩
          have hq4 : q < W4.heap.size := by omega
          have hqc : ∀ j : Nat, j < L.length → W4.cell? ⟨q, j, none⟩ = some (.int .i64 (L.getD j 0 : Int)) := fun j hj => by
            rw [k6.cell (p := ⟨q, j, none⟩) (by show q < wr.heap.size; omega), hwq.cell (p := ⟨q, j, none⟩) hq2, HQC.out j (by rw [intL_len]; exact hj)]
            have : (intL L).getD j 0 = (L.getD j 0 : Int) := by
              unfold intL
              simp [List.getD, List.getElem?_map, List.getElem?_eq_getElem hj]
            rw [this]
          have HF := Lib.hid (fun (W : World) (hb1 : -1 ≤ backOf L ring i) (hb9 : backOf L ring i ≤ 9) (hT : TourS W (m + 1) m q cap L (backOf L ring i)) (hM : MapOk W m 0 L (backOf L ring i)) => leastFromC (m + 1) m q cap L (backOf L ring i) HDL hb1 hb9 i W (by rw [HNL.out]; exact hlt) hT hM)
          rw [remI_one L i HD1.out (by rw [HNL.out]; exact hlt), HX.out] at HF
          cases ring with
          | true =>
            have hbk : backOf L true i = (x : Int) := by unfold backOf; rw [if_pos rfl, HX.out]
            have HT5 : Hid (TourS (W4.setCell ⟨m + 1, 102, none⟩ (.int .i64 (x : Int))) (m + 1) m q cap L (backOf L true i)) := Lib.hid ⟨by rw [HNL.out]; exact cell_oth k0 (.inr (by omega)), fun a b ha hb => cell_oth (k1 a b ha hb) (.inr (by omega)), cell_oth k2 (.inr (by omega)), by rw [hbk]; exact World.cell?_setCell_same W4 _ _ k3, fun j hj => cell_oth (hqc j hj) (.inl (by omega)), by omega, by omega, by simp; omega⟩
            have HM5 : Hid (MapOk (W4.setCell ⟨m + 1, 102, none⟩ (.int .i64 (x : Int))) m 0 L (backOf L true i)) := Lib.hid (by
              obtain ⟨D, h1, h2⟩ := k5
              exact ⟨D, h1.setCell (by show m ≠ m + 1; omega) _, h2⟩)
            have HB5 : Hid (Below wr.heap.size wr (W4.setCell ⟨m + 1, 102, none⟩ (.int .i64 (x : Int)))) := Lib.hid (k6.setCell (by show wr.heap.size ≤ m + 1; omega) _)
            have HF5 := Lib.hid (HF.out _ (by rw [hbk]; omega) (by rw [hbk]; omega) HT5.out HM5.out)
            have hs5 : (W4.setCell ⟨m + 1, 102, none⟩ (.int .i64 (x : Int))).heap.size = m + 2 := by simp [k7]
            have HS5 := Lib.hid hs5
            clear k0 k1 k2 k5 k6 hqc hbk HF z1 z2 z3 z4 z5 hmm hci hs5
            go_wp2_with fail
            refine HF5.out.mono ?_
            have hs5 := HS5.out
            rintro e w6 ⟨u, rfl, hr6, hg6⟩
            have hbl : Below wr.heap.size wr w6 := HB5.out.grown hg6 (by have := HB5.out.size; omega) (fun k hk => by injection hk with hk; omega)
            have hu6 : Own w.heap.size w6 u (intL (x :: orderOf (backOf L true i) (L.erase x) x)) := own_mono hr6 (by have := HB5.out.size; omega)
            have hv6 := own_keep HO.out hbl
            have HLI := Lib.hid (liAll_succ L true i)
            unfold liStep at HLI
            rw [HX.out] at HLI
            have HUU := Lib.hid hu6
            have HVV := Lib.hid hv6
            generalize hcc : cost (backOf L true i) (L.erase x) x = c at HLI ⊢
            generalize orderOf (backOf L true i) (L.erase x) x = od at HLI HUU
            generalize liAll L true i = acc at HLI HVV ⊢
            obtain ⟨ab, al0⟩ := acc
            clear hr6 hg6 hu6 hv6 hcc
            by_cases hi0 : i = 0
            · have hd0 : ((i : Int) == 0) = true := by simp [hi0]
              rw [if_pos (.inl hi0)] at HLI
              clear hi0
              go_wp2
              go_roundw
              case rel => exact ⟨i + 1, by omega, by go_num, by rw [HLI.out], by rw [HLI.out]; exact HUU.out, bt HB.out hbl⟩
              case measure => simp [intOf]; omega
            · have hd0 : ((i : Int) == 0) = false := by simp [hi0]
              by_cases hlt2 : (c : Int) < al0
              · have hd2 : decide ((c : Int) < al0) = true := decide_eq_true hlt2
                rw [if_pos (.inr hlt2)] at HLI
                clear hi0
                go_wp2
                go_roundw
                case rel => exact ⟨i + 1, by omega, by go_num, by rw [HLI.out], by rw [HLI.out]; exact HUU.out, bt HB.out hbl⟩
                case measure => simp [intOf]; omega
              · have hd2 : decide ((c : Int) < al0) = false := decide_eq_false hlt2
                rw [if_neg (by rintro (h | h); exact hi0 h; exact hlt2 h)] at HLI
                clear hi0
                go_wp2
                go_roundw
                case rel => exact ⟨i + 1, by omega, by go_num, by rw [HLI.out], by rw [HLI.out]; exact HVV.out, bt HB.out hbl⟩
                case measure => simp [intOf]; omega
          | false =>
            have hbk : backOf L false i = -1 := rfl
            have HT5 : Hid (TourS W4 (m + 1) m q cap L (backOf L false i)) := Lib.hid ⟨by rw [HNL.out]; exact k0, k1, k2, by rw [hbk]; exact k3, hqc, by omega, by omega, by omega⟩
            have HM5 : Hid (MapOk W4 m 0 L (backOf L false i)) := Lib.hid k5
            have HB5 : Hid (Below wr.heap.size wr W4) := Lib.hid k6
            have HF5 := Lib.hid (HF.out _ (by rw [hbk]; omega) (by rw [hbk]; omega) HT5.out HM5.out)
            clear k0 k1 k2 k3 k4 k5 k6 hqc hbk HF z1 z2 z3 z4 z5 hmm hci
            go_wp2_with fail
            refine HF5.out.mono ?_
            rintro e w6 ⟨u, rfl, hr6, hg6⟩
            have hbl : Below wr.heap.size wr w6 := HB5.out.grown hg6 (by have := HB5.out.size; omega) (fun k hk => by injection hk with hk; omega)
            have hu6 : Own w.heap.size w6 u (intL (x :: orderOf (backOf L false i) (L.erase x) x)) := own_mono hr6 (by have := HB5.out.size; omega)
            have hv6 := own_keep HO.out hbl
            have HLI := Lib.hid (liAll_succ L false i)
            unfold liStep at HLI
            rw [HX.out] at HLI
            have HUU := Lib.hid hu6
            have HVV := Lib.hid hv6
            generalize hcc : cost (backOf L false i) (L.erase x) x = c at HLI ⊢
            generalize orderOf (backOf L false i) (L.erase x) x = od at HLI HUU
            generalize liAll L false i = acc at HLI HVV ⊢
            obtain ⟨ab, al0⟩ := acc
            clear hr6 hg6 hu6 hv6 hcc
            by_cases hi0 : i = 0
            · have hd0 : ((i : Int) == 0) = true := by simp [hi0]
              rw [if_pos (.inl hi0)] at HLI
              clear hi0
              go_wp2
              go_roundw
              case rel => exact ⟨i + 1, by omega, by go_num, by rw [HLI.out], by rw [HLI.out]; exact HUU.out, bt HB.out hbl⟩
              case measure => simp [intOf]; omega
            · have hd0 : ((i : Int) == 0) = false := by simp [hi0]
              by_cases hlt2 : (c : Int) < al0
              · have hd2 : decide ((c : Int) < al0) = true := decide_eq_true hlt2
                rw [if_pos (.inr hlt2)] at HLI
                clear hi0
                go_wp2
                go_roundw
                case rel => exact ⟨i + 1, by omega, by go_num, by rw [HLI.out], by rw [HLI.out]; exact HUU.out, bt HB.out hbl⟩
                case measure => simp [intOf]; omega
              · have hd2 : decide ((c : Int) < al0) = false := decide_eq_false hlt2
                rw [if_neg (by rintro (h | h); exact hi0 h; exact hlt2 h)] at HLI
                clear hi0
                go_wp2
                go_roundw
                case rel => exact ⟨i + 1, by omega, by go_num, by rw [HLI.out], by rw [HLI.out]; exact HVV.out, bt HB.out hbl⟩
                case measure => simp [intOf]; omega
        · obtain rfl : i = n := by omega
          clear ho hb
          go_wp2
          go_ret3
          exact ⟨_, by rw [HNL.out]; rfl, by rw [HNL.out]; exact HO.out, bt HB2.out HB.out⟩
  · have e : liI xs ring = ([], 0, false) := if_neg hc
    rw [e]
    have hcf : ordB xs = false := by simpa using hc
    rw [hcf] at HO
    clear e hc hcf hv hx
    go_enter Try.func18, Try.ntmps18
    go_wp2_with ((go_at_call 22; refine (HO.out _ HV.out).mono ?_; rintro e w1 ⟨rfl, rfl⟩))
    go_ret3
    exact ⟨_, rfl, ⟨rfl, .inl ⟨rfl, rfl⟩⟩, Below.refl _ _⟩
set_option maxHeartbeats 1000000 in
theorem implLeastOrder_any {A : Nat} (v : Value) (xs : List Int) (w : World) (hv : Own A w v xs) (hx : xs.length ≤ 1073741824) :
    Calls Try.prog 7 #[v] w fun e w' => ∃ u, e = .returned (.tuple #[u, .int .i64 (loI xs).2.1, .bool (loI xs).2.2]) ∧ Own w.heap.size w' u (loI xs).1 ∧ Below w.heap.size w w' := by
  have H := Lib.hid (implLeast_any v xs false w hv hx)
  rw [liI_lo] at H
  generalize loI xs = r at H ⊢
  clear hv
  go_enter Try.func7, Try.ntmps7
  go_wp2_with ((go_at_call 18; refine H.out.mono ?_; rintro e w1 ⟨u, rfl, ho, hb⟩))
  go_ret3
  exact ⟨_, rfl, ho, hb⟩
set_option maxHeartbeats 1000000 in
theorem implLeastRing_any {A : Nat} (v : Value) (xs : List Int) (w : World) (hv : Own A w v xs) (hx : xs.length ≤ 1073741824) :
    Calls Try.prog 12 #[v] w fun e w' => ∃ u, e = .returned (.tuple #[u, .int .i64 (lrI xs).2.1, .bool (lrI xs).2.2]) ∧ Own w.heap.size w' u (lrI xs).1 ∧ Below w.heap.size w w' := by
  have H := Lib.hid (implLeast_any v xs true w hv hx)
  rw [liI_lr] at H
  generalize lrI xs = r at H ⊢
  clear hv
  go_enter Try.func12, Try.ntmps12
  go_wp2_with ((go_at_call 18; refine H.out.mono ?_; rintro e w1 ⟨u, rfl, ho, hb⟩))
  go_ret3
  exact ⟨_, rfl, ho, hb⟩

end Go.Proofs.Ytfdhmijofpbkjaa
