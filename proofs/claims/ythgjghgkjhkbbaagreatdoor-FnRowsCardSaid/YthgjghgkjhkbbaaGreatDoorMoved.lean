/-
  Contracts of a cell turned and mirrored. Condition: the argument is a cell.
-/
import Derived.Test.YthgjghgkjhkbbaaGreatDoorBase
import Derived.Test.YthgjghgkjhkbbaaGreatDoorBits
import Derived.Handy
import Derived.Lib.Hide
namespace Go.Proofs.YthgjghgkjhkbbaaGreatDoor
open Go.RowKit
set_option linter.unusedVariables false
set_option maxRecDepth 20000


theorem seven (d : Nat) (hd : d < 7) : d = 0 ∨ d = 1 ∨ d = 2 ∨ d = 3 ∨ d = 4 ∨ d = 5 ∨ d = 6 := by omega
def bitN (n k : Nat) : Nat := n / 2 ^ k % 2
theorem bitN_lt (n k : Nat) : bitN n k < 2 := Nat.mod_lt _ (by decide)
theorem bit_and7 : ∀ n : Nat, n < 128 → ∀ k : Nat, k < 7 → bits .and .i64 ((n : Int) / 2 ^ k) 1 = (bitN n k : Int) := by decide +kernel

def turnTo (n k : Nat) : Nat := mvTo (turnTab.getD · 0) n k
def turnFrom (n k : Nat) : Nat := mvFrom (turnTab.getD · 0) n k
theorem turn_cell (k : Nat) (hk : k < 7) (w : World) (t : TypeId) : (w.alloc (.cells #[.int .i64 3, .int .i64 4, .int .i64 5, .int .i64 0, .int .i64 1, .int .i64 2, .int .i64 6] t)).cell? ⟨w.heap.size, k, none⟩ = some (.int .i64 (turnTab.getD k 0 : Nat)) := by
  rw [World.cell?_alloc_at _ _ _ _ rfl]
  rcases seven k hk with rfl | rfl | rfl | rfl | rfl | rfl | rfl <;> rfl
theorem turn_at (k : Nat) (hk : k < 7) : ∀ w : World, (Instr.index 63 (.agg #[.int .i64 3, .int .i64 4, .int .i64 5, .int .i64 0, .int .i64 1, .int .i64 2, .int .i64 6]) (.int .i64 (k : Int))).run Tryz.prog w = .ok (.int .i64 (turnTab.getD k 0 : Nat)) w := by
  rcases seven k hk with rfl | rfl | rfl | rfl | rfl | rfl | rfl <;> exact fun _ => by kernel_rfl
theorem turn_lt : ∀ k : Nat, k < 7 → turnTab.getD k 0 < 7 := by decide
theorem turn_or : ∀ n : Nat, n < 128 → ∀ k : Nat, k < 7 → bits .or .i64 (turnTo n k : Int) (wrap64 ((bitN n k : Int) * 2 ^ turnTab.getD k 0)) = (turnTo n (k + 1) : Int) := by decide +kernel
theorem turn_orF : ∀ n : Nat, n < 128 → ∀ k : Nat, k < 7 → bits .or .i64 (turnFrom n k : Int) (wrap64 ((bitN n (turnTab.getD k 0) : Int) * 2 ^ k)) = (turnFrom n (k + 1) : Int) := by decide +kernel
theorem turn_same : ∀ n : Nat, n < 128 → turnTo n 7 = turnFrom n 7 := by decide +kernel

set_option maxHeartbeats 1000000 in
theorem l2Moved_turn (b n : Nat) (w : World) (hn : n < 128) (hc : ∀ k, k < 7 → w.cell? ⟨b, k, none⟩ = some (.int .i64 (turnTab.getD k 0 : Nat))) :
    Calls Tryz.prog 87 #[.int .i64 (n : Int), .slice (some ⟨b, 0, none⟩) 7 7] w fun e w' => e = .returned (.int .i64 (turnFrom n 7 : Nat)) ∧ w = w' := by
  have HC := Lib.hid hc
  clear hc
  go_enter Tryz.func87, Tryz.ntmps87
  go_wp2
  go_loop [5, 6] (fun m i => ∃ k : Nat, k ≤ 7 ∧ i = .int .i64 k ∧ m = .int .i64 (turnFrom n k : Nat)) (fun _ i => 7 - (intOf i).toNat)
  case atStart => exact ⟨0, by omega, rfl, rfl⟩
  case round =>
    obtain ⟨k, hk, rfl, rfl⟩ := hrel
    by_cases hlt : k < 7
    · have hcell := HC.out k hlt
      have ho := turn_orF n hn k hlt
      have hl := turn_lt k hlt
      have hb := bit_and7 n hn (turnTab.getD k 0) hl
      have hm := bitN_lt n ((turnTab.getD k 0))
      generalize turnTab.getD k 0 = f at hcell ho hl hb hm
      go_wp2
      go_round
      case rel => exact ⟨k + 1, by omega, by go_num, rfl⟩
      case measure => simp [intOf]; omega
    · obtain rfl : k = 7 := by omega
      go_wp2
      go_ret
      exact ⟨rfl, rfl⟩

set_option maxHeartbeats 1000000 in
theorem l2Turn_any (n : Nat) (w : World) (hn : n < 128) :
    Calls Tryz.prog 70 #[.int .i64 (n : Int)] w fun e w' => e = .returned (.int .i64 (turnFrom n 7 : Nat)) ∧ Below w.heap.size w w' := by
  go_enter Tryz.func70, Tryz.ntmps70
  go_wp2_with fail
  refine (l2Moved_turn _ n _ hn (fun k hk => turn_cell k hk w _)).mono ?_
  rintro e w1 ⟨rfl, rfl⟩
  go_wp2
  go_ret
  exact ⟨rfl, (Below.refl _ _).alloc (Nat.le_refl _) _⟩

set_option maxHeartbeats 1000000 in
theorem turned_any (n : Nat) (w : World) (hn : n < 128) :
    Calls Tryz.prog 38 #[.int .i64 (n : Int)] w fun e w' => e = .returned (.int .i64 (turnFrom n 7 : Nat)) ∧ Below w.heap.size w w' := by
  rw [← turn_same n hn]
  go_enter Tryz.func38, Tryz.ntmps38
  go_wp2_with fail
  go_in
  go_wp2
  go_loop [5, 9] (fun m i => ∃ k : Nat, k ≤ 7 ∧ i = .int .i64 k ∧ m = .int .i64 (turnTo n k : Nat)) (fun _ i => 7 - (intOf i).toNat)
  case atStart => exact ⟨0, by omega, rfl, rfl⟩
  case round =>
    obtain ⟨k, hk, rfl, rfl⟩ := hrel
    by_cases hlt : k < 7
    · have hi := turn_at k hlt
      have ho := turn_or n hn k hlt
      have hl := turn_lt k hlt
      have hb := bit_and7 n hn k hlt
      have hm := bitN_lt n (k)
      generalize turnTab.getD k 0 = f at hi ho hl
      go_wp2
      go_round
      case rel => exact ⟨k + 1, by omega, by go_num, rfl⟩
      case measure => simp [intOf]; omega
    · obtain rfl : k = 7 := by omega
      go_wp2
      go_ret
      exact ⟨rfl, (Below.refl _ _).alloc (Nat.le_refl _) _⟩

def mirTo (n k : Nat) : Nat := mvTo (mirTab.getD · 0) n k
def mirFrom (n k : Nat) : Nat := mvFrom (mirTab.getD · 0) n k
theorem mir_cell (k : Nat) (hk : k < 7) (w : World) (t : TypeId) : (w.alloc (.cells #[.int .i64 0, .int .i64 5, .int .i64 4, .int .i64 3, .int .i64 2, .int .i64 1, .int .i64 6] t)).cell? ⟨w.heap.size, k, none⟩ = some (.int .i64 (mirTab.getD k 0 : Nat)) := by
  rw [World.cell?_alloc_at _ _ _ _ rfl]
  rcases seven k hk with rfl | rfl | rfl | rfl | rfl | rfl | rfl <;> rfl
theorem mir_at (k : Nat) (hk : k < 7) : ∀ w : World, (Instr.index 63 (.agg #[.int .i64 0, .int .i64 5, .int .i64 4, .int .i64 3, .int .i64 2, .int .i64 1, .int .i64 6]) (.int .i64 (k : Int))).run Tryz.prog w = .ok (.int .i64 (mirTab.getD k 0 : Nat)) w := by
  rcases seven k hk with rfl | rfl | rfl | rfl | rfl | rfl | rfl <;> exact fun _ => by kernel_rfl
theorem mir_lt : ∀ k : Nat, k < 7 → mirTab.getD k 0 < 7 := by decide
theorem mir_or : ∀ n : Nat, n < 128 → ∀ k : Nat, k < 7 → bits .or .i64 (mirTo n k : Int) (wrap64 ((bitN n k : Int) * 2 ^ mirTab.getD k 0)) = (mirTo n (k + 1) : Int) := by decide +kernel
theorem mir_orF : ∀ n : Nat, n < 128 → ∀ k : Nat, k < 7 → bits .or .i64 (mirFrom n k : Int) (wrap64 ((bitN n (mirTab.getD k 0) : Int) * 2 ^ k)) = (mirFrom n (k + 1) : Int) := by decide +kernel
theorem mir_same : ∀ n : Nat, n < 128 → mirTo n 7 = mirFrom n 7 := by decide +kernel

set_option maxHeartbeats 1000000 in
theorem l2Moved_mir (b n : Nat) (w : World) (hn : n < 128) (hc : ∀ k, k < 7 → w.cell? ⟨b, k, none⟩ = some (.int .i64 (mirTab.getD k 0 : Nat))) :
    Calls Tryz.prog 87 #[.int .i64 (n : Int), .slice (some ⟨b, 0, none⟩) 7 7] w fun e w' => e = .returned (.int .i64 (mirFrom n 7 : Nat)) ∧ w = w' := by
  have HC := Lib.hid hc
  clear hc
  go_enter Tryz.func87, Tryz.ntmps87
  go_wp2
  go_loop [5, 6] (fun m i => ∃ k : Nat, k ≤ 7 ∧ i = .int .i64 k ∧ m = .int .i64 (mirFrom n k : Nat)) (fun _ i => 7 - (intOf i).toNat)
  case atStart => exact ⟨0, by omega, rfl, rfl⟩
  case round =>
    obtain ⟨k, hk, rfl, rfl⟩ := hrel
    by_cases hlt : k < 7
    · have hcell := HC.out k hlt
      have ho := mir_orF n hn k hlt
      have hl := mir_lt k hlt
      have hb := bit_and7 n hn (mirTab.getD k 0) hl
      have hm := bitN_lt n ((mirTab.getD k 0))
      generalize mirTab.getD k 0 = f at hcell ho hl hb hm
      go_wp2
      go_round
      case rel => exact ⟨k + 1, by omega, by go_num, rfl⟩
      case measure => simp [intOf]; omega
    · obtain rfl : k = 7 := by omega
      go_wp2
      go_ret
      exact ⟨rfl, rfl⟩

set_option maxHeartbeats 1000000 in
theorem l2Mirror_any (n : Nat) (w : World) (hn : n < 128) :
    Calls Tryz.prog 73 #[.int .i64 (n : Int)] w fun e w' => e = .returned (.int .i64 (mirFrom n 7 : Nat)) ∧ Below w.heap.size w w' := by
  go_enter Tryz.func73, Tryz.ntmps73
  go_wp2_with fail
  refine (l2Moved_mir _ n _ hn (fun k hk => mir_cell k hk w _)).mono ?_
  rintro e w1 ⟨rfl, rfl⟩
  go_wp2
  go_ret
  exact ⟨rfl, (Below.refl _ _).alloc (Nat.le_refl _) _⟩

set_option maxHeartbeats 1000000 in
theorem mirrored_any (n : Nat) (w : World) (hn : n < 128) :
    Calls Tryz.prog 43 #[.int .i64 (n : Int)] w fun e w' => e = .returned (.int .i64 (mirFrom n 7 : Nat)) ∧ Below w.heap.size w w' := by
  rw [← mir_same n hn]
  go_enter Tryz.func43, Tryz.ntmps43
  go_wp2_with fail
  go_in
  go_wp2
  go_loop [5, 9] (fun m i => ∃ k : Nat, k ≤ 7 ∧ i = .int .i64 k ∧ m = .int .i64 (mirTo n k : Nat)) (fun _ i => 7 - (intOf i).toNat)
  case atStart => exact ⟨0, by omega, rfl, rfl⟩
  case round =>
    obtain ⟨k, hk, rfl, rfl⟩ := hrel
    by_cases hlt : k < 7
    · have hi := mir_at k hlt
      have ho := mir_or n hn k hlt
      have hl := mir_lt k hlt
      have hb := bit_and7 n hn k hlt
      have hm := bitN_lt n (k)
      generalize mirTab.getD k 0 = f at hi ho hl
      go_wp2
      go_round
      case rel => exact ⟨k + 1, by omega, by go_num, rfl⟩
      case measure => simp [intOf]; omega
    · obtain rfl : k = 7 := by omega
      go_wp2
      go_ret
      exact ⟨rfl, (Below.refl _ _).alloc (Nat.le_refl _) _⟩


/-- The same two, with the very world that they leave. -/
theorem l2Turn_ex (n : Nat) (w : World) (hn : n < 128) :
    Calls Tryz.prog 70 #[.int .i64 (n : Int)] w fun e w' => e = .returned (.int .i64 (turnFrom n 7 : Nat)) ∧ w.alloc (.cells #[.int .i64 3, .int .i64 4, .int .i64 5, .int .i64 0, .int .i64 1, .int .i64 2, .int .i64 6] 3) = w' := by
  go_enter Tryz.func70, Tryz.ntmps70
  go_wp2_with fail
  refine (l2Moved_turn _ n _ hn (fun k hk => turn_cell k hk w _)).mono ?_
  rintro e w1 ⟨rfl, rfl⟩
  go_wp2
  go_ret
  exact ⟨rfl, rfl⟩

set_option maxHeartbeats 1000000 in
theorem turned_ex (n : Nat) (w : World) (hn : n < 128) :
    Calls Tryz.prog 38 #[.int .i64 (n : Int)] w fun e w' => e = .returned (.int .i64 (turnFrom n 7 : Nat)) ∧ w.alloc (.cells #[.int .i64 3, .int .i64 4, .int .i64 5, .int .i64 0, .int .i64 1, .int .i64 2, .int .i64 6] 63) = w' := by
  rw [← turn_same n hn]
  go_enter Tryz.func38, Tryz.ntmps38
  go_wp2_with fail
  go_in
  go_wp2
  go_loop [5, 9] (fun m i => ∃ k : Nat, k ≤ 7 ∧ i = .int .i64 k ∧ m = .int .i64 (turnTo n k : Nat)) (fun _ i => 7 - (intOf i).toNat)
  case atStart => exact ⟨0, by omega, rfl, rfl⟩
  case round =>
    obtain ⟨k, hk, rfl, rfl⟩ := hrel
    by_cases hlt : k < 7
    · have hi := turn_at k hlt
      have ho := turn_or n hn k hlt
      have hl := turn_lt k hlt
      have hb := bit_and7 n hn k hlt
      have hm := bitN_lt n (k)
      generalize turnTab.getD k 0 = f at hi ho hl
      go_wp2
      go_round
      case rel => exact ⟨k + 1, by omega, by go_num, rfl⟩
      case measure => simp [intOf]; omega
    · obtain rfl : k = 7 := by omega
      go_wp2
      go_ret
      exact ⟨rfl, rfl⟩


end Go.Proofs.YthgjghgkjhkbbaaGreatDoor
