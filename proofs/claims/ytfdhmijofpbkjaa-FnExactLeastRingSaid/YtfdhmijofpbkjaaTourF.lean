/-
  A tour of the program: the first order of least cost from a place on. No condition but the bounds.
-/
import Derived.Test.YtfdhmijofpbkjaaTourR
import Derived.Test.YtfdhmijofpbkjaaOwn
namespace Go.Proofs.Ytfdhmijofpbkjaa
open Go.RowKit
set_option linter.unusedVariables false


open Go.Maps
theorem restAny (g m q cap : Nat) (L : List Nat) (back : Int) (hL : DigL L) (hb1 : -1 ≤ back) (hb9 : back ≤ 9) (s l N : Nat) (w : World) (hs : s < 2 ^ L.length) (hl : l < L.length) (hN : N ≤ 100000000000) (hT : TourS w g m q cap L back) (hM : MapOk w m N L back) :
    Calls Try.prog 36 #[.pointer (some ⟨g, 0, none⟩), .int .i64 (s : Int), .int .i64 (l : Int)] w fun e w' => e = .returned (.int .i64 (cost back (remI L s) (L.getD l 0) : Nat)) ∧ w.grownBy w' (some m) ∧ MapOk w' m (N + 10000000) L back := by
  have h1 := FK_le (remI L s).length (Nat.le_trans (remI_len L s) hL.1)
  refine (restC g m q cap L back hL hb1 hb9 _ s l N w hs hl rfl (by omega) hT hM).mono ?_
  rintro e w' ⟨rfl, hg, hm⟩
  exact ⟨rfl, hg, mapOk_mono hm (by omega)⟩
theorem throughAny (g m q cap : Nat) (L : List Nat) (back : Int) (hL : DigL L) (hb1 : -1 ≤ back) (hb9 : back ≤ 9) (s l i N : Nat) (w : World) (hs : s < 2 ^ L.length) (hl : l < L.length) (hi : i < L.length) (hb : s.testBit i = false) (hN : N ≤ 100000000000) (hT : TourS w g m q cap L back) (hM : MapOk w m N L back) :
    Calls Try.prog 37 #[.pointer (some ⟨g, 0, none⟩), .int .i64 (s : Int), .int .i64 (l : Int), .int .i64 (i : Int)] w fun e w' => e = .returned (.int .i64 (termI L back s (L.getD l 0) i : Nat)) ∧ w.grownBy w' (some m) ∧ MapOk w' m (N + 10000000) L back := by
  obtain ⟨k, hk⟩ : ∃ k, (remI L s).length = k + 1 := ⟨(remI L s).length - 1, by have := List.length_pos_of_mem (remI_mem L s i hi hb); omega⟩
  have h0 := Nat.le_trans (remI_len L s) hL.1
  have h1 := FK_le k (by omega)
  refine (throughC g m q cap L back k hL (restC g m q cap L back hL hb1 hb9 k) s l i N w hs hl hi hb hk (by omega) hT hM).mono ?_
  rintro e w' ⟨rfl, hg, hm⟩
  exact ⟨rfl, hg, mapOk_mono hm (by omega)⟩
theorem find_rem (L : List Nat) (s : Nat) (p : Nat → Bool) (i : Nat) (hi : i < L.length) (hb : s.testBit i = false) (hp : p (L.getD i 0) = true) (hlo : ∀ j, j < i → s.testBit j = false → p (L.getD j 0) = false) : (remI L s).find? p = some (L.getD i 0) := by
  unfold remI
  rw [List.find?_map, List.find?_filter]
  have : (List.range L.length).find? (fun a => decide ((!s.testBit a) = true ∧ (p ∘ fun x => L.getD x 0) a = true)) = some i := by
    rw [List.find?_range_eq_some]
    refine ⟨decide_eq_true ⟨by rw [hb]; rfl, hp⟩, List.mem_range.2 hi, fun j hj => ?_⟩
    have hd : ¬ ((!s.testBit j) = true ∧ (p ∘ fun x => L.getD x 0) j = true) := fun h2 => by
      have h3 : s.testBit j = false := by simpa using h2.1
      have h4 : p (L.getD j 0) = true := h2.2
      rw [hlo j hj h3] at h4
      cases h4
    rw [decide_eq_false hd]
    rfl
  rw [this]
  rfl
theorem find_rem_none (L : List Nat) (s : Nat) (p : Nat → Bool) (hlo : ∀ j, j < L.length → s.testBit j = false → p (L.getD j 0) = false) : (remI L s).find? p = none := by
  rw [List.find?_eq_none]
  intro d hd
  unfold remI at hd
  obtain ⟨i, hi, rfl⟩ := List.mem_map.1 hd
  rw [List.mem_filter, List.mem_range] at hi
  rw [hlo i hi.1 (by simpa using hi.2)]
  decide
def slLen : Value → Nat
  | .slice _ k _ => k
  | _ => 0
theorem own_keepG {B : Nat} {w w' : World} {v : Value} {xs : List Int} {m : Nat} (h : Own B w v xs) (hg : w.grownBy w' (some m)) (hm : m < B) : Own B w' v xs := by
  obtain ⟨hl, hv | ⟨g', cap, cur, hv, hbg, hgg, r⟩⟩ := h
  · exact ⟨hl, .inl hv⟩
  · refine ⟨hl, .inr ⟨g', cap, cur, hv, hbg, ?_, r⟩⟩
    rw [hg.block g' (Array.getElem?_eq_some_iff.1 hgg).1 (fun e => by injection e with e; omega)]; exact hgg
theorem own_sl {B : Nat} {w : World} {v : Value} {xs : List Int} (h : Own B w v xs) : ∃ ad cap, v = .slice ad xs.length cap := by
  rcases own_cases h with ⟨rfl, rfl⟩ | ⟨g, cap, rfl, _⟩
  · exact ⟨none, 0, rfl⟩
  · exact ⟨_, _, rfl⟩
theorem intL_len (l : List Nat) : (intL l).length = l.length := by unfold intL; rw [List.length_map]
theorem info_intF : (Try.prog.info? 3).map (fun i => (i.zero, i.size, i.bytes)) = some (some (.int .i64 0), 1, 8) := by kernel_rfl
set_option maxRecDepth 100000 in
set_option maxHeartbeats 8000000 in
theorem leastFromC (g m q cap : Nat) (L : List Nat) (back : Int) (hL : DigL L) (hb1 : -1 ≤ back) (hb9 : back ≤ 9) (first : Nat) (w : World) (hf : first < L.length) (hT : TourS w g m q cap L back) (hM : MapOk w m 0 L back) :
    Calls Try.prog 26 #[.pointer (some ⟨g, 0, none⟩), .int .i64 (first : Int)] w fun e w' => ∃ u, e = .returned (.tuple #[u, .int .i64 (cost back (remI L (2 ^ first)) (L.getD first 0) : Nat)]) ∧ Own w.heap.size w' u (intL (L.getD first 0 :: orderOf back (remI L (2 ^ first)) (L.getD first 0))) ∧ w.grownBy w' (some m) := by
  obtain ⟨i0, hi0, hz0, hz1, hz2⟩ := info_parts info_intF
  have HRE := Lib.hid (fun (s l N : Nat) (W : World) (hs : s < 2 ^ L.length) (hl : l < L.length) (hN : N ≤ 100000000000) (hT' : TourS W g m q cap L back) (hM' : MapOk W m N L back) => restAny g m q cap L back hL hb1 hb9 s l N W hs hl hN hT' hM')
  have HTH := Lib.hid (fun (s l i N : Nat) (W : World) (hs : s < 2 ^ L.length) (hl : l < L.length) (hi : i < L.length) (hb : s.testBit i = false) (hN : N ≤ 100000000000) (hT' : TourS W g m q cap L back) (hM' : MapOk W m N L back) => throughAny g m q cap L back hL hb1 hb9 s l i N W hs hl hi hb hN hT' hM')
  obtain ⟨hL1, hL2, hL3⟩ := hL
  have hp10 := pow_ten _ hL1
  have HND := Lib.hid hL2
  have HT := Lib.hid hT
  have hml : m < w.heap.size := hT.2.2.2.2.2.2.2
  have hf10 : first < 10 := by omega
  have hps := pow_small first hf10
  have hpf : 2 ^ first < 2 ^ L.length := Nat.pow_lt_pow_right (by decide) hf
  obtain ⟨p, hp⟩ : ∃ p, 2 ^ first = p := ⟨_, rfl⟩
  have hpI : IntKind.i64.wrap (2 ^ first) = (p : Int) := by rw [pow_wrap first hf10, ← hp]; simp
  rw [hp] at hpf ⊢
  have HR0 := Lib.hid (HRE.out p first 0 w hpf hf (by omega) hT hM)
  obtain ⟨fin, hfin⟩ : ∃ f, L.getD first 0 :: orderOf back (remI L p) (L.getD first 0) = f := ⟨_, rfl⟩
  have HFIN := Lib.hid hfin
  rw [hfin]
  generalize hcc : cost back (remI L p) (L.getD first 0) = c0 at HR0 ⊢
  obtain ⟨n, hn⟩ : ∃ n, L.length = n := ⟨_, rfl⟩
  have HNL := Lib.hid hn
  have hn10 : n ≤ 10 := by omega
  have hfn : first < n := by omega
  have hLp : (remI L p).length + 1 = n := by
    have h0 : remI L 0 = L := by
      unfold remI
      have e1 : ((List.range L.length).filter fun i => !(0 : Nat).testBit i) = List.range L.length := by
        rw [List.filter_eq_self]
        intro a _
        simp
      rw [e1]
      apply List.ext_getElem
      · simp
      · intro i h1 h2
        simp [List.getD, h2]
    have h1 := remI_step L 0 first hL2 hf
    rw [Nat.zero_or, hp, h0] at h1
    have hmem : L.getD first 0 ∈ L := by
      rw [show L.getD first 0 = L[first] by simp [List.getD, hf]]
      exact List.getElem_mem _
    rw [h1, List.length_erase_of_mem hmem]
    have := List.length_pos_of_mem hmem
    omega
  have HLP := Lib.hid hLp
  have HPF : Hid (p < 2 ^ L.length) := Lib.hid hpf
  clear hT hM hp hps hpf hfin hcc hn hLp hL1 hL3 hp10 hL2
  go_enter Try.func26, Try.ntmps26
  go_wp2_with fail
  refine HR0.out.mono ?_
  rintro e w1 ⟨rfl, hg1, hm1⟩
  have HG1 := Lib.hid hg1
  have HM1 := Lib.hid hm1
  have HT1 := Lib.hid (tourS_grown HT.out hg1)
  have hsz1 := hg1.size
  obtain ⟨t1, t2, t3, t4, t5, t6, t7, t8⟩ := HT1.out
  have c1 := t5 first (by rw [HNL.out]; exact hfn)
  rw [HNL.out] at t1
  have hfI : (first : Int) < (n : Int) := by omega
  generalize hxx : L.getD first 0 = x0 at c1 HFIN
  have HX0 := Lib.hid hxx
  clear hg1 hm1 t2 t3 t4 t5 t6 t7 t8 hxx
  go_wp2
  have ho2 : Own w.heap.size (w1.alloc (.cells #[.int .i64 (x0 : Int)] 3)) (.slice (some ⟨w1.heap.size, 0, none⟩) 1 1) [(x0 : Int)] := World.ownsRow_lit w1 #[.int .i64 (x0 : Int)] 1 hsz1 (by decide) rfl
  have hg2 := HG1.out.trans (World.grownBy_alloc w1 (.cells #[.int .i64 (x0 : Int)] 3) (some m))
  have hm2 := mapOk_kept HM1.out (World.grownBy_alloc w1 (.cells #[.int .i64 (x0 : Int)] 3) none) (by simp)
  have HO2 := Lib.hid ho2
  have HG2 := Lib.hid hg2
  have HM2 := Lib.hid hm2
  clear ho2 hg2 hm2 t1 c1
  generalize w1.alloc (.cells #[.int .i64 (x0 : Int)] 3) = w2 at HO2 HG2 HM2 ⊢
  go_loopw [6, 7, 9] (fun sv lv ov wr => ∃ (s l N : Nat) (pre : List Nat) (ad : Option Addr) (cp : Nat), s < 2 ^ L.length ∧ l < n ∧ sv = .int .i64 s ∧ lv = .int .i64 l ∧ ov = .slice ad pre.length cp ∧ pre.length + (remI L s).length = n ∧ pre ++ orderOf back (remI L s) (L.getD l 0) = fin ∧ Own w.heap.size wr ov (intL pre) ∧ w.grownBy wr (some m) ∧ MapOk wr m N L back ∧ N ≤ pre.length * 200000000) (fun _ _ ov _ => n - slLen ov)
  case atStart => exact ⟨p, first, 0 + 10000000, [x0], _, 1, HPF.out, hfn, rfl, rfl, rfl, by have := HLP.out; simp; omega, by rw [HX0.out]; exact HFIN.out, HO2.out, HG2.out, HM2.out, by simp⟩
  case round =>
    obtain ⟨s, l, N, pre, ad, cp, hs, hl, rfl, rfl, rfl, hpl, hpre, ho, hgr, hmo, hN⟩ := hrel
    have HO := Lib.hid ho
    have HGR := Lib.hid hgr
    have HMO := Lib.hid hmo
    have HPRE := Lib.hid hpre
    have HPL := Lib.hid hpl
    have HS := Lib.hid hs
    have hTr := tourS_grown HT.out hgr
    have HTR := Lib.hid hTr
    have hwr := hgr.size
    have hg0 := hTr.1
    rw [HNL.out] at hg0
    clear ho hgr hmo hpre hTr
    by_cases hlt : pre.length < n
    · have hltI : (pre.length : Int) < (n : Int) := by omega
      have hne : remI L s ≠ [] := fun e => by rw [e] at hpl; simp at hpl; omega
      have HSOME := Lib.hid (hit_some back (remI L s) (L.getD l 0) hne)
      have HR := Lib.hid (HRE.out s l N wr hs (by rw [HNL.out]; exact hl) (by omega) HTR.out HMO.out)
      have HTHl := Lib.hid (fun (i N : Nat) (W : World) (hi : i < L.length) (hb : s.testBit i = false) (hN : N ≤ 100000000000) (hT' : TourS W g m q cap L back) (hM' : MapOk W m N L back) => HTH.out s l i N W hs (by rw [HNL.out]; exact hl) hi hb hN hT' hM')
      have HHIT : Hid (∀ i, hit back (remI L s) (L.getD l 0) (L.getD i 0) = (termI L back s (L.getD l 0) i == cost back (remI L s) (L.getD l 0))) := Lib.hid (fun i => rfl)
      have hcl := cost_le back _ (remI L s) (L.getD l 0) rfl
      have hr100 : cost back (remI L s) (L.getD l 0) ≤ 100 := by have := remI_len L s; rw [HNL.out] at this; omega
      have HTL := Lib.hid (fun i => termI_le L back s (L.getD l 0) i (by rw [HNL.out]; exact hn10))
      generalize L.getD l 0 = x at HPRE HSOME HR HTHl HHIT HTL hcl hr100
      generalize cost back (remI L s) x = r at HR HHIT hr100
      clear hne hcl hpl
      go_wp2_with fail
      refine HR.out.mono ?_
      rintro e w3 ⟨rfl, hg3, hm3⟩
      have HG3 := Lib.hid (HGR.out.trans hg3)
      have HM3 := Lib.hid hm3
      have HO3 := Lib.hid (own_keepG HO.out hg3 hml)
      have hT3 := tourS_grown HTR.out hg3
      have HT3 := Lib.hid hT3
      have hg03 := hT3.1
      rw [HNL.out] at hg03
      clear hg3 hm3 hT3 hg0
      go_wp2
      clear hg03 hltI
      obtain ⟨wo, rfl⟩ : ∃ wo : World, wo = wr := ⟨_, rfl⟩
      go_loopw [6, 7, 9, 44] (fun sv lv ov iv wr => ∃ i N' : Nat, i ≤ n ∧ sv = .int .i64 s ∧ lv = .int .i64 l ∧ ov = .slice ad pre.length cp ∧ iv = .int .i64 i ∧ (∀ j, j < i → s.testBit j = false → hit back (remI L s) x (L.getD j 0) = false) ∧ Own w.heap.size wr (.slice ad pre.length cp) (intL pre) ∧ w.grownBy wr (some m) ∧ MapOk wr m N' L back ∧ N' ≤ N + 10000000 + i * 10000000) (fun _ _ _ iv _ => n - (intOf iv).toNat)
      case atStart => exact ⟨0, _, by omega, rfl, rfl, rfl, rfl, fun j hj => absurd hj (Nat.not_lt_zero _), HO3.out, HG3.out, HM3.out, by omega⟩
      case round =>
        obtain ⟨i, N', hi, rfl, rfl, rfl, rfl, hlo, ho, hgr, hmo, hN'⟩ := hrel
        have HO := Lib.hid ho
        have HGR := Lib.hid hgr
        have HMO := Lib.hid hmo
        have HLO := Lib.hid hlo
        have hTr := tourS_grown HT.out hgr
        have HTR := Lib.hid hTr
        have hwr := hgr.size
        clear ho hgr hmo hlo
        by_cases hil : i < n
        · have hiI : (i : Int) < (n : Int) := by omega
          have hi10 : i < 10 := by omega
          have hs1 : s < 1024 := by have := pow_ten n hn10; have := HS.out; rw [HNL.out] at this; omega
          have hand := and_bit s i hs1 hi10
          cases hbit : s.testBit i with
          | true =>
            rw [hbit] at hand
            have hand' : bits .and .i64 ((s : Int) / 2 ^ i) 1 = 1 := hand
            have HLO2 : Hid (∀ j, j < i + 1 → s.testBit j = false → hit back (remI L s) x (L.getD j 0) = false) := Lib.hid (fun j hj hb => by
              by_cases e : j = i
              · rw [e, hbit] at hb; cases hb
              · exact HLO.out j (by omega) hb)
            have HNB : Hid (N' ≤ N + 10000000 + (i + 1) * 10000000) := Lib.hid (Nat.le_trans hN' (Nat.add_le_add_left (Nat.mul_le_mul_right _ (Nat.le_succ i)) _))
            clear hand hbit hTr
            go_wp2
            go_roundw
            case rel => exact ⟨i + 1, N', by omega, rfl, rfl, rfl, by go_num, HLO2.out, HO.out, HGR.out, HMO.out, HNB.out⟩
            case measure => simp [intOf]; omega
          | false =>
            rw [hbit] at hand
            have hand' : bits .and .i64 ((s : Int) / 2 ^ i) 1 = 0 := hand
            have HC := Lib.hid (HTHl.out i N' wr (by rw [HNL.out]; exact hil) hbit (by omega) HTR.out HMO.out)
            have hh := HHIT.out i
            have htl := HTL.out i
            generalize termI L back s x i = t at HC hh htl
            have HH := Lib.hid hh
            have HBIT := Lib.hid hbit
            clear hand hbit hh hTr
            by_cases heq : t = r
            · have hd1 : ((t : Int) == (r : Int)) = true := by rw [beq_iff_eq]; omega
              have HFIND : Hid ((remI L s).find? (hit back (remI L s) x) = some (L.getD i 0)) := Lib.hid (find_rem L s _ i (by rw [HNL.out]; exact hil) HBIT.out (by rw [HH.out, beq_iff_eq]; exact heq) HLO.out)
              have HORD := Lib.hid (order_cons back (remI L s) x _ HFIND.out)
              have HSTEP := Lib.hid (remI_step L s i HND.out (by rw [HNL.out]; exact hil))
              have hor := or_bit s i hs1 hi10
              have hpw := pow_wrap i hi10
              have HSO : Hid (s ||| 2 ^ i < 2 ^ L.length) := Lib.hid (Nat.or_lt_two_pow HS.out (Nat.pow_lt_pow_right (by decide) (by rw [HNL.out]; exact hil)))
              have HLEN : Hid ((remI L (s ||| 2 ^ i)).length + 1 = (remI L s).length) := Lib.hid (by
                have hm := remI_mem L s i (by rw [HNL.out]; exact hil) HBIT.out
                rw [HSTEP.out, List.length_erase_of_mem hm]
                have := List.length_pos_of_mem hm
                omega)
              generalize s ||| 2 ^ i = so at hor HSO HSTEP HLEN
              clear heq
              go_wp2_with fail
              refine HC.out.mono ?_
              rintro e w4 ⟨rfl, hg4, hm4⟩
              have HG4 := Lib.hid (HGR.out.trans hg4)
              have HM4 := Lib.hid hm4
              have hO4 := own_keepG HO.out hg4 hml
              obtain ⟨t1, t2, t3, t4, t5, t6, t7, t8⟩ := tourS_grown HTR.out hg4
              have c1 := t5 i (by rw [HNL.out]; exact hil)
              rw [HNL.out] at t1
              generalize hyy : L.getD i 0 = y at c1 HORD HSTEP
              have HYY := Lib.hid hyy
              have hown : w4.ownsRow w.heap.size 3 1 (.slice ad pre.length cp) _ _ := hO4
              have hsz4 : w.heap.size ≤ w4.heap.size := HG4.out.size
              have hpl10 : (intL pre).length ≤ 10 := by rw [intL_len]; omega
              clear hg4 hm4 t2 t3 t4 t5 t6 t7 t8 hyy
              go_wp2_with ((at_builtin; refine wpList_append_own _ rfl _ _ 22 rfl w.heap.size 3 i0 (.int .i64 0) 1 8 Try.underlying22 hi0 hz0 hz1 hz2 rfl (by decide) _ _ _ rfl (hown.alloc _) ⟨w4.heap.size, 0, none⟩ 1 1 [.int .i64 (y : Int)] rfl rfl ?c1 ?c2 ?c3 ?c4 ?c5 ?_))
              case c1 =>
                intro j u hj
                match j, hj with
                | 0, hj => simp at hj; subst hj; simp [Addr.add]
              case c2 => intro u hu; simp at hu; subst hu; rfl
              case c3 => unfold maxLen; omega
              case c4 => omega
              case c5 => simp; omega
              intro v' w5 hown' hgrow _
              have ho5 := own_push hown'
              have hlm : ∀ k, (Value.slice ad pre.length cp).ownBlock = some k → w.heap.size ≤ k := fun k hk => (World.ownsRow.lt hown k hk).1
              have hmne : some m ≠ (Value.slice ad pre.length cp).ownBlock := fun e => by have := hlm m e.symm; omega
              have HM5 := Lib.hid (mapOk_kept (mapOk_kept HM4.out (World.grownBy_alloc w4 (.cells #[.int .i64 (y : Int)] 3) none) (by simp)) hgrow hmne)
              have HO5 := Lib.hid ho5
              have HG5 : Hid (w.grownBy w5 (some m)) := Lib.hid (World.grownBy.andThen (HG4.out.trans (World.grownBy_alloc w4 (.cells #[.int .i64 (y : Int)] 3) (some m))) hgrow (fun k hk => .inl (hlm k hk)))
              have hlen' : ∃ ad' cp', v' = .slice ad' (pre ++ [y]).length cp' := by
                obtain ⟨ad', cp', e⟩ := own_sl ho5
                refine ⟨ad', cp', ?_⟩
                rw [e, List.length_append, List.length_append, intL_len]
                rfl
              obtain ⟨ad', cp', rfl⟩ := hlen'
              have HNB : Hid (N' + 10000000 ≤ (pre ++ [y]).length * 200000000) := Lib.hid (by
                rw [List.length_append, List.length_singleton]
                have h1 : i * 10000000 ≤ 10 * 10000000 := Nat.mul_le_mul_right _ (by omega)
                have h2 := hN
                have h3 := hN'
                rw [Nat.succ_mul]
                clear hand' hor hpw hgrow hown hown'
                omega)
              have hmea : n - slLen (Value.slice ad' (pre ++ [y]).length cp') < n - slLen (Value.slice ad pre.length cp) := by
                show n - (pre ++ [y]).length < n - pre.length
                rw [List.length_append, List.length_singleton]; omega
              have HMEA := Lib.hid hmea
              have HPL2 : Hid ((pre ++ [y]).length + (remI L so).length = n) := Lib.hid (by
                have h1 := HLEN.out
                have h2 := HPL.out
                rw [List.length_append, List.length_singleton]; omega)
              have HPRE2 : Hid ((pre ++ [y]) ++ orderOf back (remI L so) (L.getD i 0) = fin) := Lib.hid (by
                rw [List.append_assoc, List.singleton_append, HSTEP.out, HYY.out, ← HORD.out]
                exact HPRE.out)
              clear hown hown' hgrow ho5 hO4 hlm hmne hmea t1 c1
              go_wp2
              go_roundw
              case rel => exact ⟨so, i, N' + 10000000, pre ++ [y], ad', cp', HSO.out, hil, rfl, rfl, rfl, HPL2.out, HPRE2.out, by rw [show intL (pre ++ [y]) = intL pre ++ [(y : Int)] by simp [intL]]; exact HO5.out, HG5.out, HM5.out, HNB.out⟩
              case measure => exact HMEA.out
            · have hd1 : ((t : Int) == (r : Int)) = false := by rw [beq_eq_false_iff_ne]; omega
              have HLO2 : Hid (∀ j, j < i + 1 → s.testBit j = false → hit back (remI L s) x (L.getD j 0) = false) := Lib.hid (fun j hj hb => by
                by_cases e : j = i
                · rw [e, HH.out, beq_eq_false_iff_ne]; exact heq
                · exact HLO.out j (by omega) hb)
              clear heq
              go_wp2_with fail
              refine HC.out.mono ?_
              rintro e w4 ⟨rfl, hg4, hm4⟩
              have hO4 := own_keepG HO.out hg4 hml
              go_wp2
              go_roundw
              case rel => exact ⟨i + 1, _, by omega, rfl, rfl, rfl, by go_num, HLO2.out, hO4, HGR.out.trans hg4, hm4, by omega⟩
              case measure => simp [intOf]; omega
        · obtain rfl : i = n := by omega
          obtain ⟨d, hd⟩ := HSOME.out
          rw [find_rem_none L s _ (fun j hj hb => HLO.out j (by rw [HNL.out] at hj; exact hj) hb)] at hd
          cases hd
    · have hnl : pre.length = n := by omega
      have hr : remI L s = [] := List.eq_nil_of_length_eq_zero (by omega)
      have HP2 : Hid (intL pre = intL fin) := Lib.hid (by
        have h := HPRE.out
        rw [hr, order_nil, List.append_nil] at h
        rw [h])
      rw [HP2.out] at HO
      have hd : ¬ (pre.length : Int) < (n : Int) := by omega
      clear hnl hr hpl
      go_wp2
      go_ret2
      exact ⟨_, rfl, HO.out, HGR.out⟩

end Go.Proofs.Ytfdhmijofpbkjaa
