/-
  A tour of the program: what it holds, and its step. No condition but the bounds.
-/
import Derived.Test.YtfdhmijofpbkjaaMemQ
import Derived.Test.YtfdhmijofpbkjaaTabC
import Derived.Maps.OwnOps
import Derived.Maps.AppendAt
import Derived.Deep.RegionHeld3
import Derived.StillTailTactics
import Derived.Deep.QuietTactic
import Derived.BigQuiet
namespace Go.Proofs.Ytfdhmijofpbkjaa
open Go.RowKit
set_option linter.unusedVariables false


open Go.Maps
def TourS (w : World) (g m q cap : Nat) (L : List Nat) (back : Int) : Prop :=
  w.cell? ⟨g, 0, none⟩ = some (.slice (some ⟨q, 0, none⟩) L.length cap) ∧ (∀ a b : Nat, a < 10 → b < 10 → w.cell? ⟨g, 1 + a * 10 + b, none⟩ = some (.int .i64 (farT a b : Int))) ∧ w.cell? ⟨g, 101, none⟩ = some (.map (some m)) ∧ w.cell? ⟨g, 102, none⟩ = some (.int .i64 back) ∧
  (∀ i : Nat, i < L.length → w.cell? ⟨q, i, none⟩ = some (.int .i64 (L.getD i 0 : Int))) ∧ g ≠ m ∧ q ≠ m ∧ m < w.heap.size
theorem grown_drew1 (w : World) (row : Option Nat) : w.grownBy w.drew row := ⟨rfl, rfl, rfl, Nat.le_refl _, fun _ _ _ => rfl⟩
theorem grown_drewN (w : World) (n : Nat) (row : Option Nat) : w.grownBy (w.drewN n) row := ⟨rfl, rfl, rfl, Nat.le_refl _, fun _ _ _ => rfl⟩
theorem tourS_grown {w w' : World} {g m q cap : Nat} {L : List Nat} {back : Int} (h : TourS w g m q cap L back) (hg : w.grownBy w' (some m)) : TourS w' g m q cap L back := by
  obtain ⟨h1, h2, h3, h4, h5, h6, h7, h8⟩ := h
  have hgm : some g ≠ some m := fun e => h6 (by injection e)
  have hqm : some q ≠ some m := fun e => h7 (by injection e)
  exact ⟨hg.cell (a := ⟨g, 0, none⟩) h1 hgm, fun a b ha hb => hg.cell (a := ⟨g, 1 + a * 10 + b, none⟩) (h2 a b ha hb) hgm, hg.cell (a := ⟨g, 101, none⟩) h3 hgm, hg.cell (a := ⟨g, 102, none⟩) h4 hgm, fun i hi => hg.cell (a := ⟨q, i, none⟩) (h5 i hi) hqm, h6, h7, Nat.lt_of_lt_of_le h8 hg.size⟩
def MapOk (w : World) (m N : Nat) (L : List Nat) (back : Int) : Prop := ∃ D : DataW Nat, w.ownsMap Try.prog 59 (plainElem Try.prog 3) m N D ∧ GoodD L back D
theorem mapOk_kept {w w' : World} {m N : Nat} {L : List Nat} {back : Int} {row : Option Nat} (h : MapOk w m N L back) (hg : w.grownBy w' row) (hne : some m ≠ row) : MapOk w' m N L back := by
  obtain ⟨D, h1, h2⟩ := h
  exact ⟨D, h1.kept hg hne, h2⟩
theorem mapOk_mono {w : World} {m N N' : Nat} {L : List Nat} {back : Int} (h : MapOk w m N L back) (hn : N ≤ N') : MapOk w m N' L back := by
  obtain ⟨D, h1, h2⟩ := h
  exact ⟨D, h1.mono hn, h2⟩
/-- Digits of a tour: at most ten, each below ten, none twice. -/
def DigL (L : List Nat) : Prop := L.length ≤ 10 ∧ L.Nodup ∧ ∀ i, i < L.length → L.getD i 0 < 10
def RestC (g m q cap : Nat) (L : List Nat) (back : Int) (k : Nat) : Prop := ∀ (s l N : Nat) (w : World), s < 2 ^ L.length → l < L.length → (remI L s).length = k → N + FK k ≤ 1000000000000 → TourS w g m q cap L back → MapOk w m N L back →
  Calls Try.prog 36 #[.pointer (some ⟨g, 0, none⟩), .int .i64 (s : Int), .int .i64 (l : Int)] w fun e w' => e = .returned (.int .i64 (cost back (remI L s) (L.getD l 0) : Nat)) ∧ w.grownBy w' (some m) ∧ MapOk w' m (N + FK k) L back
theorem pow_ten (n : Nat) (h : n ≤ 10) : 2 ^ n ≤ 1024 := Nat.pow_le_pow_right (n := 2) (by decide) h
set_option maxRecDepth 100000 in
set_option maxHeartbeats 8000000 in
theorem throughC (g m q cap : Nat) (L : List Nat) (back : Int) (k : Nat) (hL : DigL L) (h : RestC g m q cap L back k) (s l i N : Nat) (w : World) (hs : s < 2 ^ L.length) (hl : l < L.length) (hi : i < L.length) (hb : s.testBit i = false) (hk : (remI L s).length = k + 1) (hN : N + FK k ≤ 1000000000000) (hT : TourS w g m q cap L back) (hM : MapOk w m N L back) :
    Calls Try.prog 37 #[.pointer (some ⟨g, 0, none⟩), .int .i64 (s : Int), .int .i64 (l : Int), .int .i64 (i : Int)] w fun e w' => e = .returned (.int .i64 (termI L back s (L.getD l 0) i : Nat)) ∧ w.grownBy w' (some m) ∧ MapOk w' m (N + FK k) L back := by
  obtain ⟨hL1, hL2, hL3⟩ := hL
  have hp10 := pow_ten _ hL1
  have hs1 : s < 1024 := by omega
  have hi10 : i < 10 := by omega
  have hstep := remI_step L s i hL2 hi
  have hso : s ||| 2 ^ i < 2 ^ L.length := Nat.or_lt_two_pow hs (Nat.pow_lt_pow_right (by decide) hi)
  have hlen : (remI L (s ||| 2 ^ i)).length = k := by rw [hstep, List.length_erase_of_mem (remI_mem L s i hi hb), hk, Nat.add_sub_cancel]
  have HR : Hid (∀ W, TourS W g m q cap L back → MapOk W m N L back → Calls Try.prog 36 #[.pointer (some ⟨g, 0, none⟩), .int .i64 ((s ||| 2 ^ i : Nat) : Int), .int .i64 (i : Int)] W fun e w' => e = .returned (.int .i64 (cost back (remI L (s ||| 2 ^ i)) (L.getD i 0) : Nat)) ∧ W.grownBy w' (some m) ∧ MapOk w' m (N + FK k) L back) := Lib.hid (fun W hW hMW => h (s ||| 2 ^ i) i N W hso hi hlen hN hW hMW)
  rw [hstep] at HR
  have htm := termI_le L back s (L.getD l 0) i hL1
  have hte : termI L back s (L.getD l 0) i = farT (L.getD l 0) (L.getD i 0) + cost back ((remI L s).erase (L.getD i 0)) (L.getD i 0) := rfl
  have HT := Lib.hid hT
  have HM := Lib.hid hM
  obtain ⟨t1, t2, t3, t4, t5, t6, t7, t8⟩ := hT
  have c2 := t5 l hl
  have c3 := t5 i hi
  have hx := hL3 l hl
  have hy := hL3 i hi
  have hlI : (l : Int) < (L.length : Int) := by omega
  have hiI : (i : Int) < (L.length : Int) := by omega
  generalize hxx : L.getD l 0 = x at c2 hx htm hte ⊢
  generalize hyy : L.getD i 0 = y at c3 hy hte HR
  have c4 := t2 x y hx hy
  have hor := or_bit s i hs1 hi10
  have hpw := pow_wrap i hi10
  generalize s ||| 2 ^ i = so at hor HR
  generalize termI L back s x i = tt at hte htm ⊢
  generalize cost back ((remI L s).erase y) y = c at hte HR
  generalize farT x y = f at hte c4
  have HTE := Lib.hid hte
  have hfc : f ≤ 100 ∧ c ≤ 100 := by omega
  have hws : IntKind.i64.wrap ((f : Int) + (c : Int)) = (f : Int) + (c : Int) := by rw [show (f : Int) + (c : Int) = ((f + c : Nat) : Int) by simp]; exact wrap_nat _ (by omega)
  have hxI : (x : Int) < 10 := by omega
  have hyI : (y : Int) < 10 := by omega
  have hgm : some g ≠ some m := fun e => t6 (by injection e)
  have hqm : some q ≠ some m := fun e => t7 (by injection e)
  have HGM := Lib.hid hgm
  have HQM := Lib.hid hqm
  generalize hnn : L.length = n at t1 hlI hiI
  clear hM t2 t3 t4 t5 t6 t7 t8 hL1 hL2 hL3 hstep hso hlen h hte hs hb hk hN hl hi hxx hyy hgm hqm hp10 hnn htm
  go_enter Try.func37, Try.ntmps37
  go_wp2
  go_region_held3 (fun w' => w'.cell? ⟨g, 0, none⟩ = some (.slice (some ⟨q, 0, none⟩) n cap) ∧ w'.cell? ⟨q, l, none⟩ = some (.int .i64 (x : Int)) ∧ w'.cell? ⟨q, i, none⟩ = some (.int .i64 (y : Int)) ∧ w'.cell? ⟨g, 1 + x * 10 + y, none⟩ = some (.int .i64 (f : Int))) (first | exact ⟨hb3.cell (a := ⟨g, 0, none⟩) t1 HGM.out, hb3.cell (a := ⟨q, l, none⟩) c2 HQM.out, hb3.cell (a := ⟨q, i, none⟩) c3 HQM.out, hb3.cell (a := ⟨g, 1 + x * 10 + y, none⟩) c4 HGM.out⟩ | exact ⟨t1, c2, c3, c4⟩) (first | (go_at_call 36; refine (HR.out _ (tourS_grown HT.out (grown_drew1 _ _)) (mapOk_kept HM.out (grown_drew1 _ none) (by simp))).mono ?_; rintro e w3 ⟨rfl, hb3, hm3⟩))
  go_wp2
  go_ret
  exact ⟨by rw [HTE.out]; simp, (grown_drew1 w (some m)).trans hb3, hm3⟩

end Go.Proofs.Ytfdhmijofpbkjaa
