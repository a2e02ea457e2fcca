/-
  Contracts of the law file on slices of strings: marked, held. Condition: the marks are positive and below 2^30.
-/
import Derived.Test.YtegpbgdmehipnaaDoorStr
import Derived.Test.YtegpbgdmehipnaaDoorOwn
import Derived.Lib.ItoaNum
import Derived.Deep.RegionWith
import Derived.BigRegion
import Derived.Laws.IdiomStrings
namespace Go.Proofs.YtegpbgdmehipnaaDoor
open Go.RowKit
set_option linter.unusedVariables false


theorem dm_s (n : Nat) (h : n < 10) : Lib.decDigits n = [UInt8.ofNat (48 + n)] := by rw [Lib.decDigits, dif_pos h]
theorem dm_b (n : Nat) (h : ¬ n < 10) : Lib.decDigits n = Lib.decDigits (n / 10) ++ [UInt8.ofNat (48 + n % 10)] := by rw [Lib.decDigits, dif_neg h]
def mtB (k : Nat) : ByteArray := ⟨(109 :: Lib.decDigits k).toArray⟩
theorem tenM (d : Nat) (hd : d < 10) : d = 0 ∨ d = 1 ∨ d = 2 ∨ d = 3 ∨ d = 4 ∨ d = 5 ∨ d = 6 ∨ d = 7 ∨ d = 8 ∨ d = 9 := by omega
theorem dig_u8 (d : Nat) (hd : d < 10) : (UInt8.ofNat (48 + d)).toNat = 48 + d := by
  rcases tenM d hd with rfl | rfl | rfl | rfl | rfl | rfl | rfl | rfl | rfl | rfl <;> rfl

set_option maxHeartbeats 2000000 in
theorem markText_any (k : Nat) (w : World) (h1 : 1 ≤ k) (h2 : k ≤ 1073741824) :
    Calls Tryd.prog 43 #[.int .i64 k] w fun e w' => e = .returned (.string (mtB k)) ∧ Below w.heap.size w w' := by
  have hk0 : decide ((k : Int) ≤ 0) = false := decide_eq_false (by omega)
  go_enter Tryd.func43, Tryd.ntmps43
  go_wp2
  go_loopw [0, 3] (fun kv sv wr => ∃ (q : Nat) (acc : List UInt8), kv = .int .i64 q ∧ sv = .string ⟨acc.toArray⟩ ∧ q ≤ k ∧ acc.length + q ≤ 1073741824 ∧ ((q = 0 ∧ acc = Lib.decDigits k) ∨ (0 < q ∧ Lib.decDigits q ++ acc = Lib.decDigits k)) ∧ Below w.heap.size w wr) (fun kv _ _ => (intOf kv).toNat)
  case atStart => exact ⟨k, [], rfl, rfl, Nat.le_refl _, by simpa using h2, .inr ⟨h1, by simp⟩, Below.refl _ _⟩
  case round =>
    obtain ⟨q, acc, rfl, rfl, hqk, hal, hd, hb⟩ := hrel
    have HB := Lib.hid hb
    have HD := Lib.hid hd
    have hbz := hb.size
    clear hb hd
    by_cases hq : 0 < q
    · have hq0 : (0 : Int) < (q : Int) := by omega
      have hu := dig_u8 (q % 10) (Nat.mod_lt _ (by decide))
      have hcv := run_convert_bytes_back (P := Tryd.prog) (wr.alloc (.cells #[.int .u8 (48 + ((q : Int) % 10))] 5)) 35 9 5 ⟨wr.heap.size, 0, none⟩ 1 [UInt8.ofNat (48 + q % 10)] Tryd.underlying35 Tryd.underlying5 Tryd.underlying9 (by
        intro j hj
        obtain rfl : j = 0 := by simpa using hj
        rw [List.getElem_cons_zero, hu]
        simp [Addr.add])
      rw [show ([UInt8.ofNat (48 + q % 10)] : List UInt8).length = 1 from rfl] at hcv
      have HF : Hid (ByteArray.mk [UInt8.ofNat (48 + q % 10)].toArray ++ ByteArray.mk acc.toArray = ByteArray.mk (UInt8.ofNat (48 + q % 10) :: acc).toArray) := Lib.hid (by rw [ByteArray.mk_append_mk]; rfl)
      have HD2 : Hid ((q / 10 = 0 ∧ UInt8.ofNat (48 + q % 10) :: acc = Lib.decDigits k) ∨ (0 < q / 10 ∧ Lib.decDigits (q / 10) ++ (UInt8.ofNat (48 + q % 10) :: acc) = Lib.decDigits k)) := Lib.hid (by
        rcases HD.out with ⟨h, _⟩ | ⟨_, h⟩
        · omega
        · by_cases h10 : q < 10
          · left
            refine ⟨by omega, ?_⟩
            rw [← h, dm_s q h10, Nat.mod_eq_of_lt h10]
            rfl
          · right
            refine ⟨by omega, ?_⟩
            rw [← h, dm_b q h10, List.append_assoc]
            rfl)
      generalize UInt8.ofNat (48 + q % 10) = b at hcv HF HD2
      obtain ⟨q', hq'⟩ : ∃ q', q / 10 = q' := ⟨_, rfl⟩
      have hdv : (q : Int) / 10 = (q' : Int) := by omega
      have hqq : q' < q := by omega
      rw [hq'] at HD2
      clear hq'
      have HB2 : Hid (Below w.heap.size w (wr.alloc (.cells #[.int .u8 (48 + ((q : Int) % 10))] 5))) := Lib.hid (HB.out.alloc hbz _)
      clear hu HD
      go_wp2
      go_roundw
      case rel => exact ⟨q', b :: acc, by go_num, by rw [← HF.out], by omega, by simp; omega, HD2.out, HB2.out⟩
      case measure => simp [intOf]; omega
    · obtain rfl : q = 0 := by omega
      have HE : Hid (acc = Lib.decDigits k) := Lib.hid (by rcases HD.out with ⟨_, h⟩ | ⟨h, _⟩; exact h; omega)
      have HF : Hid (ByteArray.mk #[109] ++ ByteArray.mk acc.toArray = mtB k) := Lib.hid (by
        unfold mtB
        rw [← HE.out, show ByteArray.mk #[109] = ByteArray.mk [109].toArray from rfl, ByteArray.mk_append_mk]
        rfl)
      clear HD HE
      go_wp2
      go_ret
      exact ⟨by rw [← HF.out]; rfl, HB.out⟩

/-- n marks one by one, from k on. -/
def mkS (k : Nat) (n : Nat) : List ByteArray := (List.range n).map fun i => mtB (k + i)
theorem mkS_len (k n : Nat) : (mkS k n).length = n := by simp [mkS]
theorem mkS_at (k n j : Nat) (h : j < n) : (mkS k n)[j]? = some (mtB (k + j)) := by simp [mkS, h]
theorem mkS_step (k : Nat) (xs : List ByteArray) (i : Nat) (h : i < xs.length) : (mkS k i ++ xs.drop i).set i (mtB (k + i)) = mkS k (i + 1) ++ xs.drop (i + 1) := by
  rw [List.set_append_right _ _ (by rw [mkS_len]; exact Nat.le_refl _), mkS_len, Nat.sub_self]
  have e : mkS k (i + 1) = mkS k i ++ [mtB (k + i)] := by simp [mkS, List.range_succ]
  rw [e, List.append_assoc, List.drop_eq_getElem_cons h]
  rfl
theorem mkS_mid (k : Nat) (xs : List ByteArray) (i : Nat) (h : i ≤ xs.length) : (mkS k i ++ xs.drop i).length = xs.length := by
  rw [List.length_append, mkS_len, List.length_drop]; omega

set_option maxHeartbeats 2000000 in
theorem markStringS_any {B : Nat} (a : Value) (xs : List ByteArray) (k : Nat) (w : World) (ha : OwnS B w a xs) (hx : xs.length ≤ 1048577) (h0 : 1 ≤ k) (h1 : k ≤ 1000) :
    Calls Tryd.prog 17 #[a, .int .i64 k] w fun e w' => e = .returned (.int .i64 (k + xs.length : Nat)) ∧ OwnS B w' a (mkS k xs.length) ∧ Below B w w' ∧ ∀ j, j < w.heap.size → a.ownBlock ≠ some j → w'.heap[j]? = w.heap[j]? := by
  rcases ownS_cases ha with ⟨rfl, rfl⟩ | ⟨g, cap, rfl, hg1, hg2, hg3, hg4, hgc, hgf⟩
  · go_enter Tryd.func17, Tryd.ntmps17
    go_wp2
    refine wp_loop_rounds 1 ?_
    rw [rounds_succ]
    go_wp2
    go_ret
    exact ⟨by simp, ha, Below.refl _ _, fun _ _ _ => rfl⟩
  · obtain ⟨n, hn⟩ : ∃ n, xs.length = n := ⟨_, rfl⟩
    have HN := Lib.hid hn
    rw [hn] at ha hx ⊢
    have HO := Lib.hid ha
    have HG := Lib.hid hg1
    have HG2 := Lib.hid hg2
    clear hgc hgf hn ha hg1 hg2 hg3 hg4
    go_enter Tryd.func17, Tryd.ntmps17
    go_wp2
    go_loopw [1, 5] (fun kv iv wr => ∃ i : Nat, i ≤ n ∧ iv = .int .i64 i ∧ kv = .int .i64 (k + i : Nat) ∧ OwnS B wr (.slice (some ⟨g, 0, none⟩) n cap) (mkS k i ++ xs.drop i) ∧ Below B w wr ∧ w.heap.size ≤ wr.heap.size ∧ (∀ j, j < w.heap.size → j ≠ g → wr.heap[j]? = w.heap[j]?)) (fun _ iv _ => n - (intOf iv).toNat)
    case atStart => exact ⟨0, by omega, rfl, by simp, by simpa [mkS] using HO.out, Below.refl _ _, Nat.le_refl _, fun _ _ _ => rfl⟩
    case round =>
      obtain ⟨i, hi, rfl, rfl, ho, hb, hz, hon⟩ := hrel
      have HON := Lib.hid hon
      have HB := Lib.hid hb
      have hlen := mkS_mid k xs i (by rw [HN.out]; exact hi)
      rw [HN.out] at hlen
      have HL := Lib.hid hlen
      have HO2 := Lib.hid ho
      clear hlen hon hb
      by_cases hlt : i < n
      · have HM := Lib.hid (fun w => markText_any (k + i) w (by omega) (by omega))
        have HST := Lib.hid (mkS_step k xs i (by rw [HN.out]; exact hlt))
        generalize mtB (k + i) = m at HM HST
        have hgw : g < wr.heap.size := (ownS_lt ho _ rfl).2
        have hi0 : (i : Int) < (n : Int) := by omega
        clear ho
        go_wp2_with fail
        refine (HM.out _).mono ?_
        rintro e w2 ⟨rfl, hb2⟩
        have ho2 := ownS_keep HO2.out hb2
        have hcf : w2.frozen? ⟨g, i, none⟩ = false := World.ownsRow.frozenAt (h := by have := ho2; unfold OwnS at this; rw [HL.out] at this; exact this) i
        have hcc : ∃ u, w2.cell? ⟨g, i, none⟩ = some u := by
          have := ho2; unfold OwnS at this; rw [HL.out] at this
          rw [World.ownsRow.cellAt this i (by omega)]
          rw [List.getElem?_eq_getElem (by rw [List.length_map, HL.out]; exact hlt)]
          exact ⟨_, rfl⟩
        obtain ⟨u, hcu⟩ := hcc
        have HO3 := Lib.hid ho2
        have HB2 : Hid (Below B w w2) := Lib.hid (HB.out.trans (hb2.mono (Nat.le_trans HG.out (Nat.le_of_lt hgw))))
        have hz2 : w.heap.size ≤ w2.heap.size := Nat.le_trans hz hb2.size
        have HON2 : Hid (∀ j, j < w.heap.size → j ≠ g → w2.heap[j]? = w.heap[j]?) := Lib.hid (fun j h1 h2 => (hb2.block j (by omega)).trans (HON.out j h1 h2))
        clear ho2 hb2
        go_wp2
        go_roundw
        case rel =>
          refine ⟨i + 1, by omega, by go_num, by go_num, ?_, HB2.out.setCell HG.out _, by simpa using hz2, fun j h1 h2 => ?_⟩
          · have h2 := HO3.out
            rw [show (Value.slice (some ⟨g, 0, none⟩) n cap) = .slice (some ⟨g, 0, none⟩) (mkS k i ++ xs.drop i).length cap by rw [HL.out]] at h2
            have h3 := ownS_set h2 i m
            rw [HST.out, HL.out] at h3
            exact h3
          · rw [Below.heap_setCell _ _ _ _ (fun e => h2 e)]
            exact HON2.out j h1 h2
        case measure => simp [intOf]; omega
      · obtain rfl : i = n := by omega
        have h2 : mkS k i ++ xs.drop i = mkS k i := by rw [List.drop_eq_nil_of_le (by rw [HN.out]; exact Nat.le_refl _), List.append_nil]
        rw [h2] at ho
        clear h2
        go_wp2
        go_ret
        exact ⟨rfl, ho, HB.out, fun j h1 h2 => HON.out j h1 (fun e => h2 (by rw [e]; rfl))⟩

set_option maxHeartbeats 2000000 in
theorem heldStringS_any {B : Nat} (a : Value) (n : Nat) (k : Nat) (w : World) (ha : OwnS B w a (mkS k n)) (hx : n ≤ 1048577) (h0 : 1 ≤ k) (h1 : k ≤ 1000) :
    Calls Tryd.prog 18 #[a, .int .i64 k] w fun e w' => e = .returned (.int .i64 (k + n : Nat)) ∧ Below w.heap.size w w' := by
  have hcs := ownS_cases ha
  rw [mkS_len] at hcs
  rcases hcs with ⟨rfl, he⟩ | ⟨g, cap, rfl, hg1, hg2, hg3, hg4, hgc, hgf⟩
  · obtain rfl : n = 0 := by have := mkS_len k n; rw [he] at this; exact this.symm
    go_enter Tryd.func18, Tryd.ntmps18
    go_wp2
    refine wp_loop_rounds 1 ?_
    rw [rounds_succ]
    go_wp2
    go_ret
    exact ⟨by simp, Below.refl _ _⟩
  · have HC : Hid (∀ j, j < n → w.cell? ⟨g, j, none⟩ = some (.string (mtB (k + j)))) := Lib.hid (fun j hj => hgc j _ (mkS_at k n j hj))
    clear hgc hgf ha hg1 hg3 hg4
    go_enter Tryd.func18, Tryd.ntmps18
    go_wp2
    go_loopw [1, 5] (fun kv iv wr => ∃ i : Nat, i ≤ n ∧ iv = .int .i64 i ∧ kv = .int .i64 (k + i : Nat) ∧ Below w.heap.size w wr) (fun _ iv _ => n - (intOf iv).toNat)
    case atStart => exact ⟨0, by omega, rfl, by simp, Below.refl _ _⟩
    case round =>
      obtain ⟨i, hi, rfl, rfl, hb⟩ := hrel
      have HB := Lib.hid hb
      by_cases hlt : i < n
      · have hcell : wr.cell? ⟨g, i, none⟩ = some (.string (mtB (k + i))) := (hb.cell (p := ⟨g, i, none⟩) hg2).trans (HC.out i hlt)
        have HM := Lib.hid (fun w => markText_any (k + i) w (by omega) (by omega))
        have hgw : g < wr.heap.size := Nat.lt_of_lt_of_le hg2 hb.size
        have hi0 : (i : Int) < (n : Int) := by omega
        generalize mtB (k + i) = m at HM hcell
        have HK : Hid (∀ w2, Below wr.heap.size wr w2 → w2.cell? ⟨g, i, none⟩ = some (.string m) ∧ Below w.heap.size w w2) := Lib.hid (fun w2 h => ⟨(h.cell (p := ⟨g, i, none⟩) hgw).trans hcell, bt HB.out h⟩)
        have hbd : Below wr.heap.size wr wr.drew := ⟨rfl, rfl, rfl, Nat.le_refl _, fun _ _ => rfl⟩
        have HBD := Lib.hid hbd
        clear hb hbd
        go_wp2
        go_region_with ((go_at_call 43; refine (HM.out _).mono ?_; rintro e w3 ⟨rfl, hb3⟩; obtain ⟨hca3, hB3⟩ := HK.out w3 (HBD.out.trans hb3)))
        all_goals
          go_wp2
          go_roundw
          case rel => exact ⟨i + 1, by omega, by go_num, by go_num, hB3⟩
          case measure => simp [intOf]; omega
      · obtain rfl : i = n := by omega
        go_wp2
        go_ret
        exact ⟨rfl, HB.out⟩

end Go.Proofs.YtegpbgdmehipnaaDoor
