/-
  The keys of the memo, and what is left of the digits: plain facts, and the key type of the program. No condition.
-/
import Derived.Test.YtfdhmijofpbkjaaLeastQ
import Derived.Test.YtfdhmijofpbkjaaLeastS
import Derived.Maps.OwnSet
import Derived.Maps.Views
import Derived.DeepKeys4
namespace Go.Proofs.Ytfdhmijofpbkjaa
open Go.RowKit
set_option linter.unusedVariables false


open Go.Maps
theorem laidOutT : laidOutB Try.prog = true := by kernel_rfl
theorem wideT : (match Try.prog.underlying 59 with | some (.array _ _) | some (.struct _) => true | _ => false) = true := by rw [Try.underlying59]
theorem keyLawT : WideMaps.KeyLaw Try.prog 59 := deep_law_laid laidOutT (m := 2) (by omega) (of_decide_eq_true (by kernel_rfl)) (by kernel_rfl) wideT
theorem keyedT : Keyed Try.prog 59 := Keyed.of_law keyLawT
def kOf (s l : Nat) : Lit := .string (keyBytes [.int .i64 (s : Int), .int .i64 (l : Int)])
theorem sizeT : Try.prog.types.size = (Try.prog.types.size - 1) + 1 := by kernel_rfl
theorem cellsT : Try.prog.cellsOf 59 = 2 := by kernel_rfl
theorem cellsI : Try.prog.cellsOf 3 = 1 := by kernel_rfl
theorem litT (d s : Nat) (hs : s < 1024) : Try.prog.keyLits (d + 1) 3 [.int .i64 (s : Int)] = some [.int .i64 (s : Int)] := by
  unfold Program.keyLits
  simp only [Try.underlying3]
  rw [if_pos ⟨by first | rfl | trivial, by simp only [Lit.wf, IntKind.min, IntKind.max, IntKind.signed, IntKind.bits, Bool.and_eq_true, decide_eq_true_eq, if_true]; omega⟩]
theorem keyOfT (s l : Nat) (hs : s < 1024) (hl : l < 1024) : keyOf Try.prog 59 (.agg #[.int .i64 (s : Int), .int .i64 (l : Int)]) = some (kOf s l) := by
  unfold keyOf
  simp only [Try.underlying59]
  have h1 : (Try.prog.keyType 59 && (Value.agg #[.int .i64 (s : Int), .int .i64 (l : Int)]).formed Try.prog 59) = true := by
    have e1 : Try.prog.keyType 59 = true := by kernel_rfl
    have e2 : (Value.agg #[.int .i64 (s : Int), .int .i64 (l : Int)]).formed Try.prog 59 = true := by simp [Value.formed, Try.underlying59, cellsT]
    rw [e1, e2]; rfl
  rw [if_pos h1]
  have e0 := fun d => litT d s hs
  have e1 := fun d => litT d l hl
  have e2 : Try.prog.keyLits (Try.prog.types.size + 1) 59 [.int .i64 (s : Int), .int .i64 (l : Int)] = some [.int .i64 (s : Int), .int .i64 (l : Int)] := by
    conv => lhs; unfold Program.keyLits
    simp only [Try.underlying59, cellsT, cellsI]
    simp [List.range_succ, e0, e1]
  have e3 : (Value.agg #[.int .i64 (s : Int), .int .i64 (l : Int)]).cells.toList = [.int .i64 (s : Int), .int .i64 (l : Int)] := rfl
  rw [e3, e2]
  rfl
theorem bytesLE_inj : ∀ (w n m : Nat), n < 256 ^ w → m < 256 ^ w → bytesLE w n = bytesLE w m → n = m
  | 0, n, m, hn, hm, _ => by simp at hn hm; omega
  | w + 1, n, m, hn, hm, h => by
    rw [bytesLE, bytesLE] at h
    obtain ⟨h1, h2⟩ := List.cons.inj h
    have h3 := congrArg UInt8.toNat h1
    simp at h3
    have h4 := bytesLE_inj w (n / 256) (m / 256) (by rw [Nat.pow_succ] at hn; exact Nat.div_lt_of_lt_mul (by rw [Nat.mul_comm]; exact hn)) (by rw [Nat.pow_succ] at hm; exact Nat.div_lt_of_lt_mul (by rw [Nat.mul_comm]; exact hm)) h2
    omega
theorem bytesLE_len : ∀ (w n : Nat), (bytesLE w n).length = w
  | 0, _ => rfl
  | w + 1, n => by rw [bytesLE, List.length_cons, bytesLE_len w]
theorem kOf_inj (s l s' l' : Nat) (h1 : s < 1024) (h2 : l < 1024) (h3 : s' < 1024) (h4 : l' < 1024) (h : kOf s l = kOf s' l') : s = s' ∧ l = l' := by
  unfold kOf at h
  injection h with h
  have e : ∀ n : Nat, n < 1024 → Lit.keyBytes (.int .i64 (n : Int)) = (bytesLE 8 n).reverse := fun n hn => by
    have : ((n : Int) % 2 ^ IntKind.i64.bits).toNat = n := by
      show ((n : Int) % 2 ^ 64).toNat = n
      omega
    show bytesBE (IntKind.i64.bits / 8) ((n : Int) % 2 ^ IntKind.i64.bits).toNat = _
    rw [this]
    rfl
  have e2 : ∀ a b : Nat, a < 1024 → b < 1024 → keyBytes [.int .i64 (a : Int), .int .i64 (b : Int)] = (bytesLE 8 a).reverse ++ (bytesLE 8 b).reverse := fun a b ha hb => by
    unfold keyBytes
    simp [e a ha, e b hb]
  rw [e2 s l h1 h2, e2 s' l' h3 h4] at h
  obtain ⟨p1, p2⟩ := List.append_inj h (by simp [bytesLE_len])
  exact ⟨bytesLE_inj 8 s s' (by omega) (by omega) (List.reverse_inj.1 p1), bytesLE_inj 8 l l' (by omega) (by omega) (List.reverse_inj.1 p2)⟩

end Go.Proofs.Ytfdhmijofpbkjaa
