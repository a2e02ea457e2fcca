/-
  Contract of the reference's table of least costs. Condition: a digit to come back to, or -1.
-/
import Derived.Test.YtfdhmijofpbkjaaLeastS
import Derived.Deep.CutRange
namespace Go.Proofs.Ytfdhmijofpbkjaa
open Go.RowKit
set_option linter.unusedVariables false


set_option maxRecDepth 100000 in
set_option maxHeartbeats 8000000 in
theorem l4Rest_any (back : Int) (w : World) (hb1 : -1 ≤ back) (hb9 : back ≤ 9) :
    Calls Try.prog 15 #[.int .i64 back] w fun e w' => ∃ g R, e = .returned (.slice (some ⟨g, 0, none⟩) 1024 1024) ∧ OwnX w.heap.size w' (.slice (some ⟨g, 0, none⟩) 1024 1024) 1024 R ∧ okT back 10240 R ∧ Below w.heap.size w w' := by
  obtain ⟨i0, hi, hz0, hz1, hz2⟩ := info_parts info_arr10
  obtain ⟨n, hn⟩ : ∃ n : Nat, n = 1024 := ⟨_, rfl⟩
  have HN := Lib.hid hn
  have HL := Lib.hid (fun (a b : Nat) w (ha : a < 10) (hb : b < 10) => l4Digits_any a b w ha hb)
  clear hn
  go_enter Try.func15, Try.ntmps15
  go_wp2_with (first | (at_make; refine wpList_make_full _ rfl _ _ 30 rfl w.heap.size 38 i0 (.agg #[.int .i64 0, .int .i64 0, .int .i64 0, .int .i64 0, .int .i64 0, .int .i64 0, .int .i64 0, .int .i64 0, .int .i64 0, .int .i64 0]) 10 Try.underlying30 hi hz0 hz1 _ _ _ _ n rfl rfl (by have := HN.out; omega) (by have := HN.out; omega) (by rw [hz2]; have := HN.out; omega) (by have := HN.out; unfold maxLen; omega) (Nat.le_refl _) ?_))
  intro w1 hown hgr
  have hst : OwnX w.heap.size w1 (.slice (some ⟨w.heap.size, 0, none⟩) n n) n (List.replicate (n * 10) 0) := by
    unfold OwnX
    have e : (madeCells #[Value.int .i64 0, .int .i64 0, .int .i64 0, .int .i64 0, .int .i64 0, .int .i64 0, .int .i64 0, .int .i64 0, .int .i64 0, .int .i64 0] (n * 10)).toList = (List.replicate (n * 10) (0 : Int)).map (Value.int .i64) := by
      rw [made10, List.map_replicate]
    rw [← e]
    exact hown
  have HST := Lib.hid hst
  have hB : Below w.heap.size w w1 := (Below.refl _ _).grown hgr (Nat.le_refl _) (fun k hk => by cases hk)
  have HB1 := Lib.hid hB
  have HOK : Hid (okT back 0 (List.replicate (n * 10) 0)) := Lib.hid ⟨by rw [List.length_replicate, HN.out], fun j hj => absurd hj (Nat.not_lt_zero _)⟩
  clear hown hst hgr hi hz0 hz1 hz2 hB
  generalize List.replicate (n * 10) (0 : Int) = R0 at HST HOK
  go_wp2
  go_loopw [4] (fun iv wr => ∃ (s : Nat) (R : List Int), s ≤ 1024 ∧ iv = .int .i64 s ∧ OwnX w.heap.size wr (.slice (some ⟨w.heap.size, 0, none⟩) n n) n R ∧ okT back (s * 10) R ∧ Below w.heap.size w wr) (fun iv _ => 1024 - (intOf iv).toNat)
  case atStart => exact ⟨0, R0, by omega, rfl, HST.out, HOK.out, HB1.out⟩
  case round =>
    obtain ⟨s, R, hs, rfl, ho, hk, hb⟩ := hrel
    have HO := Lib.hid ho
    have HK := Lib.hid hk
    have HB := Lib.hid hb
    clear ho hk hb
    by_cases hlt : s < 1024
    · have hs0 : (s : Int) < 1024 := by omega
      go_wp2
      obtain ⟨wo, rfl⟩ : ∃ wo : World, wo = wr := ⟨_, rfl⟩
      go_loopw [5] (fun iv wr => ∃ (x : Nat) (R : List Int), x ≤ 10 ∧ iv = .int .i64 x ∧ OwnX w.heap.size wr (.slice (some ⟨w.heap.size, 0, none⟩) n n) n R ∧ okT back (s * 10 + x) R ∧ Below w.heap.size w wr) (fun iv _ => 10 - (intOf iv).toNat)
      case atStart => exact ⟨0, R, by omega, rfl, HO.out, HK.out, HB.out⟩
      case round =>
        obtain ⟨x, R, hx, rfl, ho, hk, hb⟩ := hrel
        have HO := Lib.hid ho
        have HK := Lib.hid hk
        have HB := Lib.hid hb
        clear ho hk hb
        by_cases hxl : x < 10
        · have hx0 : (x : Int) < 10 := by omega
          obtain ⟨ini, hini⟩ : ∃ z : Int, (if s = 0 then (endc back x : Int) else -1) = z := ⟨_, rfl⟩
          have HI := Lib.hid hini
          clear hini
          go_upto_if 19 with fail
          go_cut [6] from 18 to 24 (fun s6 wx => s6 = .int .i64 ini ∧ Below wr.heap.size wr wx)
          case first =>
            by_cases h0 : s = 0
            · have hs00 : ((s : Int) == 0) = true := by simp [h0]
              by_cases hneg : back < 0
              · have hd : decide (0 ≤ back) = false := decide_eq_false (by omega)
                have HE : Hid (ini = 0) := Lib.hid (by rw [← HI.out, if_pos h0]; unfold endc; rw [if_pos hneg]; rfl)
                clear h0
                go_wp2_with fail
                go_meet
                case rel => exact ⟨by rw [HE.out], Below.refl _ _⟩
              · have hd : decide (0 ≤ back) = true := decide_eq_true (by omega)
                obtain ⟨b, rfl⟩ := Int.eq_ofNat_of_zero_le (show 0 ≤ back by omega)
                have HE : Hid (ini = (farT x b : Int)) := Lib.hid (by rw [← HI.out, if_pos h0]; unfold endc; rw [if_neg hneg, Int.toNat_natCast])
                have hb10 : b < 10 := by omega
                clear h0
                go_wp2_with fail
                refine (HL.out x b _ hxl hb10).mono ?_
                rintro e w3 ⟨rfl, hb3⟩
                go_wp2_with fail
                go_meet
                case rel => exact ⟨by rw [HE.out], hb3⟩
            · have hs00 : ((s : Int) == 0) = false := by simp [h0]
              have HE : Hid (ini = -1) := Lib.hid (by rw [← HI.out, if_neg h0])
              clear h0
              go_wp2_with fail
              go_meet
              case rel => exact ⟨by rw [HE.out], Below.refl _ _⟩
          case rest =>
            obtain ⟨hs6, hcut⟩ := hcut
            subst hs6
            have HO := Lib.hid (ownX_keep HO.out hcut)
            have HB := Lib.hid (bt HB.out hcut)
            clear hcut
            go_wp2
            go_loopw [6, 7] (fun bv kv wr => ∃ k : Nat, k ≤ 10 ∧ kv = .int .i64 k ∧ bv = .int .i64 (fb back s x k) ∧ OwnX w.heap.size wr (.slice (some ⟨w.heap.size, 0, none⟩) n n) n R ∧ Below w.heap.size w wr) (fun _ kv _ => 10 - (intOf kv).toNat)
            case atStart => exact ⟨0, by omega, rfl, by rw [fb_zero, HI.out], HO.out, HB.out⟩
            case round =>
              obtain ⟨k, hk, rfl, rfl, ho, hb⟩ := hrel
              have hfr := fb_rng back s x k
              by_cases hkl : k < 10
              · have hk0 : (k : Int) < 10 := by omega
                have hand := and_bit s k hlt hkl
                cases hbit : s.testBit k with
                | false =>
                  have HF := Lib.hid (fb_skip back s x k hbit)
                  rw [hbit] at hand
                  have hand' : bits .and .i64 ((s : Int) / 2 ^ k) 1 = 0 := hand
                  generalize fb back s x k = f at HF hfr ⊢
                  have HO := Lib.hid ho
                  have HB := Lib.hid hb
                  clear hand hbit ho hb
                  go_wp2
                  go_roundw
                  case rel => exact ⟨k + 1, by omega, by go_num, by rw [HF.out], HO.out, HB.out⟩
                  case measure => simp [intOf]; omega
                | true =>
                  have HF := Lib.hid (fb_take back s x k hbit)
                  have hfl := bitsL_flip s k hbit
                  have htl := flip_lt s hlt k hkl hbit
                  have hxor := xor_bit s k hlt hkl
                  have hpw := pow_wrap k hkl
                  rw [hbit] at hand
                  have hand' : bits .and .i64 ((s : Int) / 2 ^ k) 1 = 1 := hand
                  generalize ht : s ^^^ 2 ^ k = t at hfl htl hxor
                  have hcell : wr.cell? ⟨w.heap.size, t * 10 + k, none⟩ = some (.int .i64 (cost back ((bitsL s).erase k) k : Int)) := by
                    have hn := HN.out
                    have h1 := ownX_cell ho (t * 10 + k) (by omega) (by rw [HK.out.1]; omega)
                    have h2 := HK.out.2 (t * 10 + k) (by omega)
                    rw [show (t * 10 + k) / 10 = t by omega, show (t * 10 + k) % 10 = k by omega, hfl] at h2
                    rw [h1, h2]
                  have htm := term_le back s x k
                  have hf7 := farT_le x k
                  have HLx := Lib.hid (fun w => HL.out x k w hxl hkl)
                  generalize cost back ((bitsL s).erase k) k = c at hcell HF htm
                  generalize farT x k = f7 at HF htm hf7 HLx
                  generalize fb back s x k = f at HF hfr ⊢
                  have HO := Lib.hid ho
                  have HB := Lib.hid hb
                  have htn : (t : Int) < (n : Int) := by have := HN.out; omega
                  have hgl : w.heap.size < wr.heap.size := (World.ownsRow.lt ho _ rfl).2
                  have hws : IntKind.i64.wrap ((f7 : Int) + (c : Int)) = (f7 : Int) + (c : Int) := by rw [show (f7 : Int) + (c : Int) = ((f7 + c : Nat) : Int) by simp]; exact wrap_nat _ (by omega)
                  clear hand hbit ho hb hfl ht
                  by_cases hf0 : f < 0
                  · have hdf : decide (f < 0) = true := decide_eq_true hf0
                    have HE : Hid (bst f (f7 + c) = (f7 : Int) + (c : Int)) := Lib.hid (by unfold bst; rw [if_pos (.inl hf0)]; simp)
                    go_wp2
                    go_region_held3 (fun w' => w'.cell? ⟨w.heap.size, t * 10 + k, none⟩ = some (.int .i64 (c : Int))) (first | exact (hb3.cell (p := ⟨w.heap.size, t * 10 + k, none⟩) hgl).trans hcell | exact hcell) (first | (go_at_call 21; refine (HLx.out _).mono ?_; rintro e w3 ⟨rfl, hb3⟩))
                    go_wp2
                    go_roundw
                    case rel => exact ⟨k + 1, by omega, by go_num, by rw [HF.out, HE.out], ownX_keep HO.out ((below_drew1 wr).trans hb3), bt HB.out ((below_drew1 wr).trans hb3)⟩
                    case measure => simp [intOf]; omega
                  · have hdf : decide (f < 0) = false := decide_eq_false hf0
                    by_cases hlt2 : (f7 : Int) + (c : Int) < f
                    · have hdl : decide ((f7 : Int) + (c : Int) < f) = true := decide_eq_true hlt2
                      have HE : Hid (bst f (f7 + c) = (f7 : Int) + (c : Int)) := Lib.hid (by unfold bst; rw [if_pos (.inr (by omega))]; simp)
                      go_wp2
                      go_region_held3 (fun w' => w'.cell? ⟨w.heap.size, t * 10 + k, none⟩ = some (.int .i64 (c : Int))) (first | exact (hb3.cell (p := ⟨w.heap.size, t * 10 + k, none⟩) hgl).trans hcell | exact hcell) (first | (go_at_call 21; refine (HLx.out _).mono ?_; rintro e w3 ⟨rfl, hb3⟩))
                      go_wp2
                      go_roundw
                      case rel => exact ⟨k + 1, by omega, by go_num, by rw [HF.out, HE.out], ownX_keep HO.out ((below_drew1 wr).trans hb3), bt HB.out ((below_drew1 wr).trans hb3)⟩
                      case measure => simp [intOf]; omega
                    · have hdl : decide ((f7 : Int) + (c : Int) < f) = false := decide_eq_false hlt2
                      have HE : Hid (bst f (f7 + c) = f) := Lib.hid (by unfold bst; rw [if_neg (by omega)])
                      go_wp2
                      go_region_held3 (fun w' => w'.cell? ⟨w.heap.size, t * 10 + k, none⟩ = some (.int .i64 (c : Int))) (first | exact (hb3.cell (p := ⟨w.heap.size, t * 10 + k, none⟩) hgl).trans hcell | exact hcell) (first | (go_at_call 21; refine (HLx.out _).mono ?_; rintro e w3 ⟨rfl, hb3⟩))
                      go_wp2
                      go_roundw
                      case rel => exact ⟨k + 1, by omega, by go_num, by rw [HF.out, HE.out], ownX_keep HO.out ((below_drew1 wr).trans hb3), bt HB.out ((below_drew1 wr).trans hb3)⟩
                      case measure => simp [intOf]; omega
              · obtain rfl : k = 10 := by omega
                have HF := Lib.hid (fb_full back s x hlt)
                generalize fb back s x 10 = f at HF hfr ⊢
                have hn := HN.out
                have hcell := ownX_cell ho (s * 10 + x) (by omega) (by rw [HK.out.1]; omega)
                have hfz : wr.frozen? ⟨w.heap.size, s * 10 + x, none⟩ = false := World.ownsRow.frozenAt ho (s * 10 + x)
                have HO := Lib.hid (ownX_set ho (s * 10 + x) f)
                have HB : Hid (Below w.heap.size w (wr.setCell ⟨w.heap.size, s * 10 + x, none⟩ (.int .i64 f))) := Lib.hid (hb.setCell (Nat.le_refl _) _)
                have hsn : (s : Int) < (n : Int) := by omega
                have HK2 : Hid (okT back (s * 10 + x + 1) (R.set (s * 10 + x) f)) := Lib.hid (by
                  have := okT_set HK.out (by omega)
                  rw [show (s * 10 + x) / 10 = s by omega, show (s * 10 + x) % 10 = x by omega, ← HF.out] at this
                  exact this)
                clear ho hb hn
                go_wp2
                go_roundw
                case rel => exact ⟨x + 1, _, by omega, by go_num, HO.out, HK2.out, HB.out⟩
                case measure => simp [intOf]; omega
        · obtain rfl : x = 10 := by omega
          go_wp2
          go_roundw
          case rel => exact ⟨s + 1, R, by omega, by go_num, HO.out, by rw [show (s + 1) * 10 = s * 10 + 10 by omega]; exact HK.out, HB.out⟩
          case measure => simp [intOf]; omega
    · obtain rfl : s = 1024 := by omega
      have hn := HN.out
      subst hn
      go_wp2
      go_ret
      first | exact ⟨_, R, rfl, HO.out, HK.out, HB.out⟩ | exact ⟨_, rfl, R, HO.out, HK.out, HB.out⟩

end Go.Proofs.Ytfdhmijofpbkjaa
