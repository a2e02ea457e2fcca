/-
  Contract of the reference's first order of least cost from a digit on. Condition: digits, and the table of least costs.
-/
import Derived.Test.YtfdhmijofpbkjaaLeastT
import Derived.Test.YtfdhmijofpbkjaaLeastQ
import Derived.Deep.QuietTactic
import Derived.BigQuiet
namespace Go.Proofs.Ytfdhmijofpbkjaa
open Go.RowKit
set_option linter.unusedVariables false


theorem info_intL : (Try.prog.info? 3).map (fun i => (i.zero, i.size, i.bytes)) = some (some (.int .i64 0), 1, 8) := by kernel_rfl
theorem own_keepX {B : Nat} {w w' : World} {v : Value} {xs : List Int} (h : Own B w v xs) (hb : Below w.heap.size w w') : w'.ownsRow B 3 1 v xs.length (xs.map (Value.int .i64)) := own_keep h hb
set_option maxRecDepth 100000 in
set_option maxHeartbeats 8000000 in
theorem l4First_any (back : Int) (start s0 g : Nat) (R : List Int) (w : World) (hs : start < 10) (h0 : s0 < 1024) {B0 : Nat} (hR : OwnX B0 w (.slice (some ⟨g, 0, none⟩) 1024 1024) 1024 R) (hk : okT back 10240 R) :
    Calls Try.prog 16 #[.int .i64 (start : Int), .int .i64 (s0 : Int), .slice (some ⟨g, 0, none⟩) 1024 1024] w fun e w' => ∃ u, e = .returned (.tuple #[u, .int .i64 (cost back (bitsL s0) start : Nat)]) ∧ Own w.heap.size w' u (intL (start :: orderOf back (bitsL s0) start)) ∧ Below w.heap.size w w' := by
  obtain ⟨i0, hi, hz0, hz1, hz2⟩ := info_parts info_intL
  have HL := Lib.hid (fun (a b : Nat) w (ha : a < 10) (hb : b < 10) => l4Digits_any a b w ha hb)
  have hgl := (World.ownsRow.lt hR _ rfl).2
  have hg0 : g < w.heap.size := hgl
  have HT : Hid (∀ s x : Nat, s < 1024 → x < 10 → w.cell? ⟨g, s * 10 + x, none⟩ = some (.int .i64 (cost back (bitsL s) x : Int))) := Lib.hid (fun s x hs hx => by
    have h1 := ownX_cell hR (s * 10 + x) (by omega) (by rw [hk.1]; omega)
    have h2 := hk.2 (s * 10 + x) (by omega)
    rw [show (s * 10 + x) / 10 = s by omega, show (s * 10 + x) % 10 = x by omega] at h2
    rw [h1, h2])
  have HE : Hid (∀ u : Int, Own w.heap.size (w.alloc (.cells #[.int .i64 u] 3)) (.slice (some ⟨w.heap.size, 0, none⟩) 1 1) [u]) := Lib.hid (fun u => World.ownsRow_lit w #[.int .i64 u] 1 (Nat.le_refl _) (by decide) rfl)
  have hc0 := HT.out s0 start h0 hs
  have hst0 : (start : Int) < 10 := by omega
  have hs00 : (s0 : Int) < 1024 := by omega
  clear hR hk hgl
  go_enter Try.func16, Try.ntmps16
  go_wp2
  go_region
  go_wp2
  obtain ⟨w1, hw1⟩ : ∃ w1, (w.alloc (.cells #[.int .i64 (start : Int)] 3)).drew = w1 := ⟨_, rfl⟩
  have hb1 : Below w.heap.size w w1 := by rw [← hw1]; exact bt ((Below.refl _ _).alloc (Nat.le_refl _) _) (below_drew1 _)
  have ho1 : Own w.heap.size w1 (.slice (some ⟨w.heap.size, 0, none⟩) 1 1) [(start : Int)] := by rw [← hw1]; exact own_keep (HE.out _) (below_drew1 _)
  rw [hw1]
  have HB1 := Lib.hid hb1
  have HO1 := Lib.hid ho1
  clear hb1 ho1 hw1 HE hc0
  go_loopw [1, 8, 9] (fun sv ov xv wr => ∃ (s x : Nat) (pre : List Nat), s < 1024 ∧ x < 10 ∧ sv = .int .i64 s ∧ xv = .int .i64 x ∧ pre.length + (bitsL s).length ≤ 11 ∧ pre ++ orderOf back (bitsL s) x = start :: orderOf back (bitsL s0) start ∧ Own w.heap.size wr ov (intL pre) ∧ Below w.heap.size w wr) (fun sv _ _ _ => (intOf sv).toNat)
  case atStart => exact ⟨s0, start, [start], h0, hs, rfl, rfl, by have := bitsL_len s0; simp; omega, rfl, HO1.out, HB1.out⟩
  case round =>
    obtain ⟨s, x, pre, hs1, hx, rfl, rfl, hpl, hpre, ho, hb⟩ := hrel
    have HO := Lib.hid ho
    have HB := Lib.hid hb
    have HPRE := Lib.hid hpre
    have hwb := hb.size
    clear ho hb hpre
    by_cases hz : s = 0
    · subst hz
      have HP2 : Hid (intL pre = intL (start :: orderOf back (bitsL s0) start)) := Lib.hid (by
        have h := HPRE.out
        rw [bitsL_zero, order_nil, List.append_nil] at h
        rw [h])
      rw [HP2.out] at HO
      go_wp2
      go_ret2
      exact ⟨_, rfl, HO.out, HB.out⟩
    · have hzs : ((s : Int) == 0) = false := by simp [hz]
      have hzt : ((s : Int) != 0) = true := by simp [hz]
      have HSOME := Lib.hid (hit_some back (bitsL s) x (fun e => hz (bitsL_none s hs1 e)))
      have hsI : (s : Int) < 1024 := by omega
      have hxI : (x : Int) < 10 := by omega
      go_wp2
      clear hzs hz hzt
      obtain ⟨wo, rfl⟩ : ∃ wo : World, wo = wr := ⟨_, rfl⟩
      go_loopw [1, 8, 9, 11] (fun sv ov xv kv wr => ∃ k : Nat, k ≤ 10 ∧ sv = .int .i64 s ∧ ov = u8 ∧ xv = .int .i64 x ∧ kv = .int .i64 k ∧ (∀ d, d < k → s.testBit d = true → hit back (bitsL s) x d = false) ∧ Own w.heap.size wr u8 (intL pre) ∧ Below w.heap.size w wr) (fun _ _ _ kv _ => 10 - (intOf kv).toNat)
      case atStart => exact ⟨0, by omega, rfl, rfl, rfl, rfl, fun d hd => absurd hd (Nat.not_lt_zero _), HO.out, HB.out⟩
      case round =>
        obtain ⟨k, hk, rfl, rfl, rfl, rfl, hlo, ho, hb⟩ := hrel
        have HO := Lib.hid ho
        have HB := Lib.hid hb
        have HLO := Lib.hid hlo
        have hwb := hb.size
        by_cases hkl : k < 10
        · have hk0 : (k : Int) < 10 := by omega
          have hand := and_bit s k hs1 hkl
          cases hbit : s.testBit k with
          | false =>
            rw [hbit] at hand
            have hand' : bits .and .i64 ((s : Int) / 2 ^ k) 1 = 0 := hand
            have HLO2 : Hid (∀ d, d < k + 1 → s.testBit d = true → hit back (bitsL s) x d = false) := Lib.hid (fun d hd hbd => by
              by_cases e : d = k
              · rw [e, hbit] at hbd; cases hbd
              · exact HLO.out d (by omega) hbd)
            clear hand hbit hlo ho hb
            go_wp2
            go_quiet (fail)
            go_wp2
            go_roundw
            case rel => exact ⟨k + 1, by omega, rfl, rfl, rfl, by go_num, HLO2.out, own_keep HO.out (below_drewN _ _), bt HB.out (below_drewN _ _)⟩
            case measure => simp [intOf]; omega
          | true =>
            have hfl := bitsL_flip s k hbit
            have htl := flip_lt s hs1 k hkl hbit
            have hxor := xor_bit s k hs1 hkl
            have hpw := pow_wrap k hkl
            rw [hbit] at hand
            have hand' : bits .and .i64 ((s : Int) / 2 ^ k) 1 = 1 := hand
            have hhit : hit back (bitsL s) x k = (farT x k + cost back ((bitsL s).erase k) k == cost back (bitsL s) x) := rfl
            generalize ht : s ^^^ 2 ^ k = t at hfl htl hxor
            have hc1 : wr.cell? ⟨g, t * 10 + k, none⟩ = some (.int .i64 (cost back ((bitsL s).erase k) k : Int)) := by
              rw [hb.cell (p := ⟨g, t * 10 + k, none⟩) hg0, HT.out t k (by omega) hkl, hfl]
            have hc2 : wr.cell? ⟨g, s * 10 + x, none⟩ = some (.int .i64 (cost back (bitsL s) x : Int)) := by
              rw [hb.cell (p := ⟨g, s * 10 + x, none⟩) hg0, HT.out s x hs1 hx]
            have htm := term_le back s x k
            have hf7 := farT_le x k
            have HLx := Lib.hid (fun w => HL.out x k w hx hkl)
            have hcl := cost_le back _ (bitsL s) x rfl
            have hbl := bitsL_len s
            generalize hcc : cost back ((bitsL s).erase k) k = c at hc1 htm hhit
            generalize hff : farT x k = f7 at htm hf7 HLx hhit
            generalize hrr : cost back (bitsL s) x = r at hc2 hhit hcl
            have hr100 : r ≤ 100 := by omega
            have htn : (t : Int) < 1024 := by omega
            have hgw : g < wr.heap.size := by omega
            have hws : IntKind.i64.wrap ((f7 : Int) + (c : Int)) = (f7 : Int) + (c : Int) := by rw [show (f7 : Int) + (c : Int) = ((f7 + c : Nat) : Int) by simp]; exact wrap_nat _ (by omega)
            have HFL := Lib.hid hfl
            have HBIT := Lib.hid hbit
            have HHIT := Lib.hid hhit
            have hpl2 : (intL pre).length ≤ 10 := by
              have h1 : 1 ≤ (bitsL s).length := List.length_pos_of_mem (show k ∈ bitsL s by unfold bitsL; rw [List.mem_filter]; exact ⟨List.mem_range.2 hkl, hbit⟩)
              unfold intL
              rw [List.length_map]; omega
            have HLE : Hid ((bitsL t).length + 1 = (bitsL s).length) := Lib.hid (by
              have hm : k ∈ bitsL s := by unfold bitsL; rw [List.mem_filter]; exact ⟨List.mem_range.2 hkl, hbit⟩
              rw [hfl, List.length_erase_of_mem hm]
              have := List.length_pos_of_mem hm
              omega)
            clear hand hbit ho hb hfl ht hcc hff hrr hlo hhit hcl hbl
            by_cases hh : f7 + c = r
            · have hd1 : ((f7 : Int) + (c : Int) == (r : Int)) = true := by rw [beq_iff_eq]; omega
              have HFIND : Hid (orderOf back (bitsL s) x = k :: orderOf back (bitsL t) k) := Lib.hid (by
                rw [HFL.out]
                refine order_cons back (bitsL s) x k (find_bits s _ k hkl HBIT.out ?_ HLO.out)
                rw [HHIT.out, beq_iff_eq]; exact hh)
              clear hh
              go_wp2
              go_region_held3 (fun w' => w'.cell? ⟨g, t * 10 + k, none⟩ = some (.int .i64 (c : Int)) ∧ w'.cell? ⟨g, s * 10 + x, none⟩ = some (.int .i64 (r : Int))) (first | exact ⟨(hb3.cell (p := ⟨g, t * 10 + k, none⟩) hgw).trans hc1, (hb3.cell (p := ⟨g, s * 10 + x, none⟩) hgw).trans hc2⟩ | exact ⟨hc1, hc2⟩) (first | (go_at_call 21; refine (HLx.out _).mono ?_; rintro e w3 ⟨rfl, hb3⟩))
              have hown : w3.ownsRow w.heap.size 3 1 u8 _ _ := own_keep HO.out ((below_drew1 wr).trans hb3)
              have hb30 : Below w.heap.size w w3 := bt HB.out ((below_drew1 wr).trans hb3)
              have hsz3 := hb30.size
              go_wp2_with ((at_builtin; refine wpList_append_own _ rfl _ _ 22 rfl w.heap.size 3 i0 (.int .i64 0) 1 8 Try.underlying22 hi hz0 hz1 hz2 rfl (by decide) _ _ _ rfl (hown.alloc _) ⟨w3.heap.size, 0, none⟩ 1 1 [.int .i64 (k : Int)] rfl rfl ?c1 ?c2 ?c3 ?c4 ?c5 ?_))
              case c1 =>
                intro j u hj
                match j, hj with
                | 0, hj => simp at hj; subst hj; simp [Addr.add]
              case c2 => intro u hu; simp at hu; subst hu; rfl
              case c3 => unfold maxLen; omega
              case c4 => omega
              case c5 => simp; omega
              intro v' w4 hown' hgrow _
              have ho4 := own_push hown'
              have hb4 : Below w.heap.size w w4 := (hb30.alloc (by omega) _).grown hgrow (by simp; omega) (fun k hk => (World.ownsRow.lt hown k hk).1)
              have HO4 := Lib.hid ho4
              have HB4 := Lib.hid hb4
              clear hown hown' hgrow ho4 hb4 hb30 hb3
              go_wp2
              go_roundw
              case rel => exact ⟨t, k, pre ++ [k], by omega, hkl, rfl, rfl, by have := HLE.out; rw [List.length_append, List.length_singleton]; omega, by rw [List.append_assoc, List.singleton_append, ← HFIND.out]; exact HPRE.out, by rw [show intL (pre ++ [k]) = intL pre ++ [(k : Int)] by simp [intL]]; exact HO4.out, HB4.out⟩
              case measure => simp [intOf]; omega
            · have hd1 : ((f7 : Int) + (c : Int) == (r : Int)) = false := by rw [beq_eq_false_iff_ne]; omega
              have HLO2 : Hid (∀ d, d < k + 1 → s.testBit d = true → hit back (bitsL s) x d = false) := Lib.hid (fun d hd hbd => by
                by_cases e : d = k
                · rw [e, HHIT.out, beq_eq_false_iff_ne]; exact hh
                · exact HLO.out d (by omega) hbd)
              clear hh
              go_wp2
              go_region_held3 (fun w' => w'.cell? ⟨g, t * 10 + k, none⟩ = some (.int .i64 (c : Int)) ∧ w'.cell? ⟨g, s * 10 + x, none⟩ = some (.int .i64 (r : Int))) (first | exact ⟨(hb3.cell (p := ⟨g, t * 10 + k, none⟩) hgw).trans hc1, (hb3.cell (p := ⟨g, s * 10 + x, none⟩) hgw).trans hc2⟩ | exact ⟨hc1, hc2⟩) (first | (go_at_call 21; refine (HLx.out _).mono ?_; rintro e w3 ⟨rfl, hb3⟩))
              go_wp2
              go_roundw
              case rel => exact ⟨k + 1, by omega, rfl, rfl, rfl, by go_num, HLO2.out, own_keep HO.out ((below_drew1 wr).trans hb3), bt HB.out ((below_drew1 wr).trans hb3)⟩
              case measure => simp [intOf]; omega
        · obtain rfl : k = 10 := by omega
          obtain ⟨d, hd⟩ := HSOME.out
          rw [find_none s _ hlo] at hd
          cases hd


end Go.Proofs.Ytfdhmijofpbkjaa
