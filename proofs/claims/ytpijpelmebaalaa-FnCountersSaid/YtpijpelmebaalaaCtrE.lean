/-
  Contracts: the changes of a step (the reference and the program).
-/
import Derived.Test.YtpijpelmebaalaaCtrR
import Derived.Test.YtpijpelmebaalaaCtrT
import Derived.Test.YtpijpelmebaalaaCtrD
namespace Go.Proofs.Ytpijpelmebaalaa
open Go.RowKit
set_option linter.unusedVariables false


set_option maxHeartbeats 1000000 in
theorem stepChanges_any (n k : Nat) (w : World) (hk1 : 1 ≤ k) (hk : k ≤ 6) (hn : n < pw k) :
    Calls Try.prog 59 #[.int .i64 (n : Int), .int .i64 (k : Int)] w fun e w' => e = .returned (.int .i64 (stepN k n : Nat)) ∧ Below w.heap.size w w' := by
  have HS : Hid (stepN k n = chg (cRow n k) (cRow ((n + 1) % pw k) k)) := rfl
  have HR1 := Lib.hid (fun w => counterRow_any n k w hk1 hk hn)
  have hp := pw_le k hk
  have HM : (n + 1) % pw k < pw k := Nat.mod_lt _ (by omega)
  have HR2 := Lib.hid (fun w => counterRow_any ((n + 1) % pw k) k w hk1 hk HM)
  have hmod : ((n : Int) + 1) % (pw k : Int) = (((n + 1) % pw k : Nat) : Int) := by simp
  have HC := Lib.hid (fun (A B : Nat) va vb w (ha : Own A w va (cRow n k)) (hb : Own B w vb (cRow ((n + 1) % pw k) k)) => changes_any va vb _ _ k w ha hb (cRow_len _ _) (cRow_len _ _) hk1 hk (fun i h => cRow_at n k i h) (fun i h => cRow_at _ k i h))
  have HP := Lib.hid (fun w => power_any k w hk)
  have hn' : n ≤ 1000000 := by omega
  generalize (n + 1) % pw k = r at HS HR2 HC hmod HM
  generalize cRow n k = xs at HS HR1 HC
  generalize cRow r k = ys at HS HR2 HC
  generalize pw k = q at hp hmod HP HM hn
  clear HM hn
  go_enter Try.func59, Try.ntmps59
  go_wp2_with fail
  refine (HR1.out _).mono ?_
  rintro e w1 ⟨u1, rfl, ho1, hb1⟩
  go_wp2_with fail
  refine (HP.out _).mono ?_
  rintro e w2 ⟨rfl, rfl⟩
  go_wp2_with fail
  refine (HR2.out _).mono ?_
  rintro e w3 ⟨u2, rfl, ho2, hb2⟩
  go_wp2_with fail
  refine (HC.out _ _ _ _ _ (own_keep ho1 hb2) ho2).mono ?_
  rintro e w4 ⟨rfl, hb4⟩
  go_wp2
  go_ret
  exact ⟨by rw [HS.out]; rfl, bt (bt hb1 hb2) hb4⟩

set_option maxHeartbeats 1000000 in
theorem l4Step_any (n k : Nat) (w : World) (hk1 : 1 ≤ k) (hk : k ≤ 6) (hn : n < pw k) :
    Calls Try.prog 58 #[.int .i64 (n : Int), .int .i64 (k : Int)] w fun e w' => e = .returned (.int .i64 (stepN k n : Nat)) ∧ Below w.heap.size w w' := by
  have HS : Hid (stepN k n = chg (cRow n k) (cRow ((n + 1) % pw k) k)) := rfl
  have HR1 := Lib.hid (fun w => l4Row_any n k w hk1 hk hn)
  have hp := pw_le k hk
  have HM : (n + 1) % pw k < pw k := Nat.mod_lt _ (by omega)
  have HR2 := Lib.hid (fun w => l4Row_any ((n + 1) % pw k) k w hk1 hk HM)
  have hmod : ((n : Int) + 1) % (pw k : Int) = (((n + 1) % pw k : Nat) : Int) := by simp
  have HC := Lib.hid (fun (A B : Nat) va vb w (ha : Own A w va (cRow n k)) (hb : Own B w vb (cRow ((n + 1) % pw k) k)) => l4Changes_any va vb _ _ k w ha hb (cRow_len _ _) (cRow_len _ _) hk1 hk (fun i h => cRow_at n k i h) (fun i h => cRow_at _ k i h))
  have HP := Lib.hid (fun w => l4Top_any k w hk)
  have hn' : n ≤ 1000000 := by omega
  generalize (n + 1) % pw k = r at HS HR2 HC hmod HM
  generalize cRow n k = xs at HS HR1 HC
  generalize cRow r k = ys at HS HR2 HC
  generalize pw k = q at hp hmod HP HM hn
  clear HM hn
  go_enter Try.func58, Try.ntmps58
  go_wp2_with fail
  refine (HR1.out _).mono ?_
  rintro e w1 ⟨u1, rfl, ho1, hb1⟩
  go_wp2_with fail
  refine (HP.out _).mono ?_
  rintro e w2 ⟨rfl, rfl⟩
  go_wp2_with fail
  refine (HR2.out _).mono ?_
  rintro e w3 ⟨u2, rfl, ho2, hb2⟩
  go_wp2_with fail
  refine (HC.out _ _ _ _ _ (own_keep ho1 hb2) ho2).mono ?_
  rintro e w4 ⟨rfl, hb4⟩
  go_wp2
  go_ret
  exact ⟨by rw [HS.out]; rfl, bt (bt hb1 hb2) hb4⟩

end Go.Proofs.Ytpijpelmebaalaa
