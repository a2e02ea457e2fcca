/-
  Contracts of the letters of a cell. Condition: the argument is a cell.
-/
import Derived.Test.YthgjghgkjhkbbaaGreatDoorBase
import Derived.Test.YthgjghgkjhkbbaaGreatDoorMoved
import Derived.Lib.Hide
namespace Go.Proofs.YthgjghgkjhkbbaaGreatDoor
open Go.RowKit
set_option linter.unusedVariables false
set_option maxRecDepth 20000


theorem bars_zero (n k : Nat) (l : List UInt8) (h : bars n k = l) (h1 : ¬ bitN n k = 1) : bars n (k + 1) = l := by
  unfold bitN at h1; simp only [bars]; rw [if_neg h1, h]
theorem bars_one (n k : Nat) (l : List UInt8) (h : bars n k = l) (hk : k < 7) (h1 : bitN n k = 1) :
    (ByteArray.mk l.toArray ++ (ByteArray.mk #[97, 98, 99, 100, 101, 102, 103]).extract k (k + 1)) = ByteArray.mk (bars n (k + 1)).toArray := by
  have e : (ByteArray.mk #[97, 98, 99, 100, 101, 102, 103]).extract k (k + 1) = ByteArray.mk [UInt8.ofNat (97 + k)].toArray := by
    rcases seven k hk with rfl | rfl | rfl | rfl | rfl | rfl | rfl <;> rfl
  rw [e, ByteArray.mk_append_mk]
  unfold bitN at h1; simp only [bars]; rw [if_pos h1, h]

set_option maxHeartbeats 1000000 in
theorem l2Bars_any (n : Nat) (w : World) (hn : n < 128) :
    Calls Tryz.prog 80 #[.int .i64 (n : Int)] w fun e w' => e = .returned (.string ⟨(bars n 7).toArray⟩) ∧ w = w' := by
  go_enter Tryz.func80, Tryz.ntmps80
  go_wp2
  go_loop [3, 4] (fun s i => ∃ k : Nat, k ≤ 7 ∧ i = .int .i64 k ∧ s = .string ⟨(bars n k).toArray⟩) (fun _ i => 7 - (intOf i).toNat)
  case atStart => exact ⟨0, by omega, rfl, rfl⟩
  case round =>
    obtain ⟨k, hk, rfl, rfl⟩ := hrel
    by_cases hlt : k < 7
    · have hb := bit_and7 n hn k hlt
      have hm := bitN_lt n k
      have hl := bars_len n k
      generalize hbs : bars n k = l at hl
      have HB := Lib.hid hbs
      clear hbs
      by_cases h1 : bitN n k = 1
      · have h1' : (bits .and .i64 ((n : Int) / 2 ^ k) 1 == 1) = true := by rw [hb, h1]; rfl
        have H1 := Lib.hid h1
        clear h1 hb hm
        go_wp2
        go_round
        case rel => exact ⟨k + 1, by omega, by go_num, by rw [bars_one n k l HB.out hlt H1.out]⟩
        case measure => simp [intOf]; omega
      · have h1' : (bits .and .i64 ((n : Int) / 2 ^ k) 1 == 1) = false := by rw [hb]; simp; omega
        have H1 := Lib.hid h1
        clear h1 hb hm
        go_wp2
        go_round
        case rel => exact ⟨k + 1, by omega, by go_num, by rw [bars_zero n k l HB.out H1.out]⟩
        case measure => simp [intOf]; omega
    · obtain rfl : k = 7 := by omega
      go_wp2
      go_ret
      exact ⟨rfl, rfl⟩

set_option maxHeartbeats 1000000 in
theorem barsOf_any (n : Nat) (w : World) (hn : n < 128) :
    Calls Tryz.prog 78 #[.int .i64 (n : Int)] w fun e w' => e = .returned (.string ⟨(bars n 7).toArray⟩) ∧ w = w' := by
  go_enter Tryz.func78, Tryz.ntmps78
  go_wp2
  go_loop [3, 5] (fun s i => ∃ k : Nat, k ≤ 7 ∧ i = .int .i64 k ∧ s = .string ⟨(bars n k).toArray⟩) (fun _ i => 7 - (intOf i).toNat)
  case atStart => exact ⟨0, by omega, rfl, rfl⟩
  case round =>
    obtain ⟨k, hk, rfl, rfl⟩ := hrel
    by_cases hlt : k < 7
    · have hb := bit_and7 n hn k hlt
      have hm := bitN_lt n k
      have hl := bars_len n k
      generalize hbs : bars n k = l at hl
      have HB := Lib.hid hbs
      clear hbs
      by_cases h1 : bitN n k = 1
      · have h1' : (bits .and .i64 ((n : Int) / 2 ^ k) 1 == 1) = true := by rw [hb, h1]; rfl
        have H1 := Lib.hid h1
        clear h1 hb hm
        go_wp2
        go_round
        case rel => exact ⟨k + 1, by omega, by go_num, by rw [bars_one n k l HB.out hlt H1.out]⟩
        case measure => simp [intOf]; omega
      · have h1' : (bits .and .i64 ((n : Int) / 2 ^ k) 1 == 1) = false := by rw [hb]; simp; omega
        have H1 := Lib.hid h1
        clear h1 hb hm
        go_wp2
        go_round
        case rel => exact ⟨k + 1, by omega, by go_num, by rw [bars_zero n k l HB.out H1.out]⟩
        case measure => simp [intOf]; omega
    · obtain rfl : k = 7 := by omega
      go_wp2
      go_ret
      exact ⟨rfl, rfl⟩

end Go.Proofs.YthgjghgkjhkbbaaGreatDoor
