/-
  Contracts: the changes from a row to another one (the reference and the program).
-/
import Derived.Test.YtfdhmijofpbkjaaCtrC
import Derived.Test.YtfdhmijofpbkjaaOwn
import Derived.Test.YtfdhmijofpbkjaaCount
import Derived.Deep.QuietTactic
import Derived.BigQuiet
namespace Go.Proofs.Ytfdhmijofpbkjaa
open Go.RowKit
set_option linter.unusedVariables false


theorem quiet_of_eq {P : Program} {f : FuncId} {args : Array Value} {w : World} {n : Nat} {v : Value}
    (h : Calls P f args (w.drewN n) fun e w' => e = .returned v ∧ w.drewN n = w') : Calls P f args (w.drewN n) fun e w'' => e = .returned v ∧ ∃ m, w'' = w.drewN m :=
  h.mono fun _ _ ⟨he, hm⟩ => ⟨he, n, hm.symm⟩
set_option maxHeartbeats 1000000 in
theorem l2Far_any (c d : Nat) (w : World) (hc : c < 128) (hd : d < 128) :
    Calls Try.prog 27 #[.int .i64 (c : Int), .int .i64 (d : Int)] w fun e w' => e = .returned (.int .i64 (cnt (c ^^^ d) 7 : Nat)) ∧ w = w' := by
  have hxr : bits .xor .i64 (c : Int) (d : Int) = ((c ^^^ d : Nat) : Int) := i64_xor c d (by omega) (by omega)
  have hn : c ^^^ d < 128 := Nat.xor_lt_two_pow (n := 7) (by omega) (by omega)
  have HF := Lib.hid (fun w => l2Count_any (c ^^^ d) w hn)
  go_enter Try.func27, Try.ntmps27
  go_wp2_with ((go_at_call 38; refine (HF.out _).mono ?_; rintro e w2 ⟨rfl, rfl⟩))
  go_ret
  exact ⟨rfl, rfl⟩

end Go.Proofs.Ytfdhmijofpbkjaa
