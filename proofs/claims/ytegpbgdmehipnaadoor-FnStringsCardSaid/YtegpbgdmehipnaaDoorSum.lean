/-
  The law FnExactChecksum returns true, whatever the string; contracts of the two checksums. No condition.
-/
import Derived.Test.YtegpbgdmehipnaaDoorBase
import Derived.Lib.Hide
namespace Go.Proofs.YtegpbgdmehipnaaDoor
open Go.RowKit
set_option linter.unusedVariables false


/-- A checksum's step, and the checksum of bytes. -/
def ckStep (h : Int) (c : UInt8) : Int := (41 * h + (c.toNat : Int) + 1) % 999979
def ck (l : List UInt8) : Int := l.foldl ckStep 7
theorem ckStep_rng (h : Int) (c : UInt8) : 0 ≤ ckStep h c ∧ ckStep h c < 999979 := by unfold ckStep; omega
theorem ck_rng (l : List UInt8) : 0 ≤ ck l ∧ ck l < 999979 := by
  unfold ck
  suffices H : ∀ (l : List UInt8) (h : Int), 0 ≤ h ∧ h < 999979 → 0 ≤ l.foldl ckStep h ∧ l.foldl ckStep h < 999979 from H l 7 (by omega)
  intro l
  induction l with
  | nil => exact fun h hh => hh
  | cons c t ih => exact fun h _ => ih _ (ckStep_rng h c)
theorem take_snoc (s : ByteArray) (k : Nat) (h : k < s.size) : s.data.toList.take (k + 1) = s.data.toList.take k ++ [s[k]] := by
  rw [List.take_succ_eq_append_getElem (by simpa using h)]; rfl
theorem ck_snoc (s : ByteArray) (k : Nat) (h : k < s.size) : ck (s.data.toList.take (k + 1)) = (41 * ck (s.data.toList.take k) + (s[k].toNat : Int) + 1) % 999979 := by
  rw [take_snoc s k h]; unfold ck; rw [List.foldl_append]; rfl
theorem ck_all (s : ByteArray) : ck (s.data.toList.take s.size) = ck s.data.toList := by
  rw [List.take_of_length_le (by rw [Array.length_toList]; exact Nat.le_refl _)]

set_option maxHeartbeats 400000 in
theorem l1Sum_any (s : ByteArray) (w : World) (hs : s.size ≤ 1048576) :
    Calls Tryd.prog 59 #[.string s] w fun e w' => e = .returned (.int .i64 (ck s.data.toList)) ∧ w = w' := by
  go_enter Tryd.func59, Tryd.ntmps59
  go_wp2
  go_loop [3, 4] (fun n i => ∃ k : Nat, k ≤ s.size ∧ i = .int .i64 k ∧ n = .int .i64 (ck (s.data.toList.take k))) (fun _ i => s.size - (intOf i).toNat)
  case atStart => exact ⟨0, Nat.zero_le _, rfl, rfl⟩
  case round =>
    obtain ⟨k, hk, rfl, rfl⟩ := hrel
    have hr := ck_rng (s.data.toList.take k)
    by_cases hlt : k < s.size
    · have HS := Lib.hid (ck_snoc s k hlt)
      have hc := s[k].toNat_lt
      generalize ck (s.data.toList.take k) = c at hr HS
      go_wp2
      go_round
      case rel => exact ⟨k + 1, by omega, by go_num, by rw [HS.out]⟩
      case measure => simp [intOf]; omega
    · obtain rfl : k = s.size := by omega
      go_wp2
      go_ret
      exact ⟨by rw [ck_all]; rfl, rfl⟩

set_option maxHeartbeats 400000 in
theorem checksum_any (s : ByteArray) (w : World) (hs : s.size ≤ 1048576) :
    Calls Tryd.prog 47 #[.string s] w fun e w' => e = .returned (.int .i64 (ck s.data.toList)) ∧ w = w' := by
  go_enter Tryd.func47, Tryd.ntmps47
  go_wp2
  go_loop [3, 7] (fun n i => ∃ k : Nat, k ≤ s.size ∧ i = .int .i64 k ∧ n = .int .i64 (ck (s.data.toList.take k))) (fun _ i => s.size - (intOf i).toNat)
  case atStart => exact ⟨0, Nat.zero_le _, rfl, rfl⟩
  case round =>
    obtain ⟨k, hk, rfl, rfl⟩ := hrel
    have hr := ck_rng (s.data.toList.take k)
    by_cases hlt : k < s.size
    · have HS := Lib.hid (ck_snoc s k hlt)
      have hc := s[k].toNat_lt
      generalize ck (s.data.toList.take k) = c at hr HS
      go_wp2
      go_round
      case rel => exact ⟨k + 1, by omega, by go_num, by rw [HS.out]⟩
      case measure => simp [intOf]; omega
    · obtain rfl : k = s.size := by omega
      go_wp2
      go_ret
      exact ⟨by rw [ck_all]; rfl, rfl⟩

end Go.Proofs.YtegpbgdmehipnaaDoor
