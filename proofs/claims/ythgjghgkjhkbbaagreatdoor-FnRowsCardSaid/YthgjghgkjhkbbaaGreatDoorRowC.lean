/-
  Contract: the row of a number (the program). Conditions: the number has at most six digits; the table of the powers of ten lies as the program lays it.
-/
import Derived.Test.YthgjghgkjhkbbaaGreatDoorRowN
import Derived.Test.YthgjghgkjhkbbaaGreatDoorItoa
import Derived.Test.YthgjghgkjhkbbaaGreatDoorOwn
import Derived.Test.YthgjghgkjhkbbaaGreatDoorTo
import Derived.Test.YthgjghgkjhkbbaaGreatDoorDigit
import Derived.Lib.OthersKept
namespace Go.Proofs.YthgjghgkjhkbbaaGreatDoor
open Go.RowKit
set_option linter.unusedVariables false
set_option maxRecDepth 20000


set_option maxRecDepth 20000 in
theorem dig_at32 (d : Nat) (hd : d < 10) : ∀ w : World, (Instr.index 59 (.agg #[.int .i64 63, .int .i64 6, .int .i64 91, .int .i64 79, .int .i64 102, .int .i64 109, .int .i64 125, .int .i64 7, .int .i64 127, .int .i64 111]) (.int .i32 (d : Int))).run Tryz.prog w = .ok (.int .i64 (dg d)) w := by
  rcases ten d hd with rfl | rfl | rfl | rfl | rfl | rfl | rfl | rfl | rfl | rfl <;> exact fun _ => by kernel_rfl

set_option maxHeartbeats 4000000 in
theorem rowOf_any (n : Nat) (w : World) (hn : n < 1000000) (hF : Facts w) :
    Calls Tryz.prog 33 #[.int .i64 n] w fun e w' => ∃ u, e = .returned u ∧ Own w.heap.size w' u (cRow n (nd n)) ∧ Below w.heap.size w w' := by
  obtain ⟨i0, hi, hz0, hz1, hz2⟩ := info_parts info_int
  have hI := itoaL_any n w (by omega) (by omega) hF
  rw [show Lib.itoa (n : Int) = Lib.decDigits n by unfold Lib.itoa; rw [if_neg (by omega)]; rfl] at hI
  have HI := Lib.hid hI
  have HR := Lib.hid (dec_row n hn)
  have HG := Lib.hid (dec_rng n)
  have hL := dec_len n hn
  have h6 := (nd_rng n).2
  generalize Lib.decDigits n = l at HI HR HG hL
  generalize cRow n (nd n) = cs at HR ⊢
  generalize nd n = L at hL h6
  have HL := Lib.hid hL
  clear hI hF hn hL
  go_enter Tryz.func33, Tryz.ntmps33
  go_wp2_with fail
  refine HI.out.mono ?_
  rintro e w1 ⟨rfl, hb1⟩
  have HB1 := Lib.hid hb1
  clear hb1
  obtain ⟨s, hs⟩ : ∃ s : ByteArray, ByteArray.mk l.toArray = s := ⟨_, rfl⟩
  have HSZ : Hid (s.size = L) := Lib.hid (by rw [← hs, ← HL.out]; simp [ByteArray.size])
  have HAT : Hid (∀ (p : Nat) (h : p < s.size), l[p]? = some (s[p])) := Lib.hid (fun p h => by
    subst hs
    have h2 : p < l.length := by simpa [ByteArray.size] using h
    rw [List.getElem?_eq_getElem h2]
    rfl)
  rw [hs]
  clear hs
  go_wp2
  go_loopw [3] (fun uv wr => ∃ pos : Nat, pos ≤ L ∧ wr.heap[w1.heap.size]? = some (.stringIter s pos) ∧ Own (w1.heap.size + 1) wr uv (cs.take pos) ∧ Below w1.heap.size w1 wr) (fun _ wr => L - wr.iterPos w1.heap.size)
  case atStart => exact ⟨0, by omega, World.iter_heap w1 s 0, World.ownsRow_nil _ _ _ _, (Below.refl _ _).alloc (Nat.le_refl _) _⟩
  case round =>
    obtain ⟨pos, hpos, hit, ho, hb⟩ := hrel
    have hsz : w1.heap.size < wr.heap.size := (Array.getElem?_eq_some_iff.1 hit).1
    have HIT0 := Lib.hid hit
    by_cases hlt : pos < L
    · have hp : pos < s.size := by rw [HSZ.out]; exact hlt
      have hat := HAT.out pos hp
      have hrg := HG.out _ (List.mem_of_getElem? hat)
      have ha : (s[pos]'hp).toNat < 128 := by omega
      have hnx : ∀ ty, (Instr.next (.pointer (some ⟨w1.heap.size, 0, none⟩)) true ty).run Tryz.prog wr = _ := fun ty => Lib.run_next_ascii_at wr w1.heap.size s pos ty hit hp ha
      have HC : Hid (cs.take (pos + 1) = cs.take pos ++ [dg ((s[pos]'hp).toNat - 48)]) := Lib.hid (by
        have hc : cs[pos]? = some (digC (s[pos]'hp)) := by rw [← HR.out, List.getElem?_map, hat]; rfl
        obtain ⟨h1, h2⟩ := List.getElem?_eq_some_iff.1 hc
        rw [List.take_succ_eq_append_getElem h1, h2]
        rfl)
      obtain ⟨d, hd⟩ : ∃ d, (s[pos]'hp).toNat - 48 = d := ⟨_, rfl⟩
      have hd48 : (((s[pos]'hp).toNat : Nat) : Int) = (d : Int) + 48 := by omega
      have hd10 : d < 10 := by omega
      rw [hd] at HC
      simp only [hd48] at hnx
      have hit2 := Lib.iterAt_heap wr w1.heap.size s pos (pos + 1) hit
      have hown0 : Own (w1.heap.size + 1) (wr.iterAt w1.heap.size s (pos + 1)) u3 (cs.take pos) := own_only (v := .slice (some ⟨w1.heap.size, 0, none⟩) 0 0) ho (fun j hj => Lib.iterAt_other wr w1.heap.size j s (pos + 1) (by intro e; exact hj (by rw [e]; rfl))) (fun j hj e => by have := (own_lt ho j hj).1; simp only [Value.ownBlock, Option.some.injEq] at e; omega)
      have hix := dig_at32 d hd10
      have hw1 : IntKind.i32.wrap (d : Int) = (d : Int) := by rcases ten d hd10 with rfl | rfl | rfl | rfl | rfl | rfl | rfl | rfl | rfl | rfl <;> rfl
      have hw2 : IntKind.i32.wrap ((d : Int) + 48 - 48) = (d : Int) := by rw [Int.add_sub_cancel]; exact hw1
      generalize dg d = c at HC hix
      have hsz2 := Lib.iterAt_size wr w1.heap.size s (pos + 1)
      have hbi := Lib.below_iterAt hb (k := w1.heap.size) (Nat.le_refl _) s (pos + 1)
      have HW : Hid (wr.iterAt w1.heap.size s (pos + 1) = wr.iterAt w1.heap.size s (pos + 1)) := Lib.hid rfl
      have HO := Lib.hid hown0
      have HBI := Lib.hid hbi
      have hlen : (cs.take pos).length ≤ 6 := by rw [List.length_take]; omega
      clear ho hown0
      generalize cs.take pos = ys at HC HO hlen
      generalize wr.iterAt w1.heap.size s (pos + 1) = wi at hnx hit2 hsz2 HO HBI
      clear hbi HW hb hd48 hrg ha hat hd hit HR HG HAT HI
      go_wp2_with fail
      refine (digitCells_any _).mono ?_
      rintro e w2 ⟨rfl, hb2⟩
      have hown : w2.ownsRow (w1.heap.size + 1) 3 1 u3 _ _ := own_keep HO.out hb2
      have hsz3 := hb2.size
      have hit3 : w2.heap[w1.heap.size]? = some (.stringIter s (pos + 1)) := by rw [hb2.block w1.heap.size (by omega)]; exact hit2
      have HB2 := Lib.hid (HBI.out.trans (hb2.mono (by omega)))
      have HIT3 := Lib.hid hit3
      clear hb2 hit3 hit2
      go_wp2_with ((at_builtin; refine wpList_append_own _ rfl _ _ 25 rfl (w1.heap.size + 1) 3 i0 (.int .i64 0) 1 8 Tryz.underlying25 hi hz0 hz1 hz2 rfl (by decide) _ _ _ rfl (hown.alloc _) ⟨w2.heap.size, 0, none⟩ 1 1 [.int .i64 c] rfl rfl ?c1 ?c2 ?c3 ?c4 ?c5 ?_))
      case c1 =>
        intro j u hj
        match j, hj with
        | 0, hj => simp at hj; subst hj; simp [Addr.add]
      case c2 => intro u hu; simp at hu; subst hu; rfl
      case c3 => unfold maxLen; omega
      case c4 => omega
      case c5 => simp; omega
      intro v' w3 hown' hgrow _
      have HO3 := Lib.hid (own_push hown')
      have hne : some w1.heap.size ≠ u3.ownBlock := by
        intro e
        have := (World.ownsRow.lt hown w1.heap.size e.symm).1
        omega
      have HB3 : Hid (Below w1.heap.size w1 w3) := Lib.hid ((HB2.out.alloc (by omega) _).grown hgrow (by simp; omega) (fun k hk => by have := (World.ownsRow.lt hown k hk).1; omega))
      have HIT : Hid (w3.heap[w1.heap.size]? = some (.stringIter s (pos + 1))) := Lib.hid (by
        rw [hgrow.block w1.heap.size (by simp; omega) hne]
        exact (heap_alloc_old w2 _ (show w1.heap.size < w2.heap.size by omega)).trans HIT3.out)
      clear hown hown' hgrow hlen hne
      go_wp2
      go_roundw
      case rel => exact ⟨pos + 1, by omega, HIT.out, by rw [HC.out]; exact HO3.out, HB3.out⟩
      case measure =>
        simp only [World.iterPos, HIT.out, HIT0.out]
        omega
    · obtain rfl : pos = L := by omega
      have hp : ¬ pos < s.size := by rw [HSZ.out]; omega
      have hnx : ∀ ty, (Instr.next (.pointer (some ⟨w1.heap.size, 0, none⟩)) true ty).run Tryz.prog wr = _ := fun ty => Lib.run_next_end_at wr w1.heap.size s pos ty hit hp
      have he : cs.take pos = cs := List.take_of_length_le (by rw [← HR.out, List.length_map, HL.out]; exact Nat.le_refl _)
      rw [he] at ho
      have HO := Lib.hid (own_mono ho (show w.heap.size ≤ w1.heap.size + 1 by have := HB1.out.size; omega))
      have HB := Lib.hid (bt HB1.out hb)
      clear ho hb he hit
      go_wp2
      go_ret
      exact ⟨_, rfl, HO.out, HB.out⟩

end Go.Proofs.YthgjghgkjhkbbaaGreatDoor
