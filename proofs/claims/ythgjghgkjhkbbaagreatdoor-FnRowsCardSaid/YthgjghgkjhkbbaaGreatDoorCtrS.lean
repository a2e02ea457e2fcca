/-
  Contracts: the row that a number shows, filled up (the reference). Condition: the number is one.
-/
import Derived.Test.YthgjghgkjhkbbaaGreatDoorCtrP
import Derived.Test.YthgjghgkjhkbbaaGreatDoorOwn
import Derived.Test.YthgjghgkjhkbbaaGreatDoorTo
namespace Go.Proofs.YthgjghgkjhkbbaaGreatDoor
open Go.RowKit
set_option linter.unusedVariables false
set_option maxRecDepth 20000


theorem own_cat {B : Nat} {w : World} {v : Value} {xs ys : List Int} (h : w.ownsRow B 3 1 v (xs.length + ys.length) (xs.map (Value.int .i64) ++ ys.map (Value.int .i64))) : Own B w v (xs ++ ys) := by
  unfold Own
  rw [List.map_append, List.length_append]
  exact h
theorem cell?_add0 (w : World) (g j : Nat) : w.cell? ((⟨g, 0, none⟩ : Addr).add j) = w.cell? ⟨g, j, none⟩ := by
  by_cases h : j = 0
  · subst h; simp [Addr.add]
  · simp [Addr.add, h]
/-- The cells of a row that is owned, behind a block more, as append's law asks for them. -/
theorem own_news {B : Nat} {w w2 : World} {g cap : Nat} {xs : List Int} (o : Obj) (h : Own B w (.slice (some ⟨g, 0, none⟩) xs.length cap) xs) (hb : Below w.heap.size w w2) : ∀ j u, (xs.map (Value.int .i64))[j]? = some u → (w2.alloc o).cell? ((⟨g, 0, none⟩ : Addr).add j) = some u := by
  intro j u hj
  have h2 : Own B (w2.alloc o) (.slice (some ⟨g, 0, none⟩) xs.length cap) xs := own_keep (own_keep h hb) ((Below.refl _ _).alloc (Nat.le_refl _) _)
  rw [List.getElem?_map] at hj
  have hjl : j < xs.length := by
    rcases Nat.lt_or_ge j xs.length with h | h
    · exact h
    · rw [List.getElem?_eq_none h] at hj; simp at hj
  rw [List.getElem?_eq_getElem hjl] at hj
  simp at hj
  subst hj
  rw [cell?_add0, World.ownsRow.cellAt h2 j (by omega), List.getElem?_map, List.getElem?_eq_getElem hjl]
  rfl
theorem ones (xs : List Int) : ∀ u ∈ xs.map (Value.int .i64), u.oneCell' = true := by
  intro u hu
  rw [List.mem_map] at hu
  obtain ⟨x, _, rfl⟩ := hu
  rfl

theorem l2DigitM_any (m : Nat) (w : World) : Calls Tryz.prog 65 #[.int .i64 ((m : Int) % 10)] w fun e w' => e = .returned (.int .i64 (dg (m % 10))) ∧ Below w.heap.size w w' := by
  have h := l2Digit_any (m % 10) w (Nat.mod_lt _ (by decide))
  have hmod : ((m % 10 : Nat) : Int) = (m : Int) % 10 := by simp
  rw [hmod] at h
  exact h

set_option maxHeartbeats 1000000 in
theorem l2RowOf_any (n : Nat) (w : World) (hn : n < 1000000) :
    Calls Tryz.prog 35 #[.int .i64 (n : Int)] w fun e w' => ∃ u, e = .returned u ∧ Own w.heap.size w' u (cRow n (nd n)) ∧ Below w.heap.size w w' := by
  obtain ⟨i0, hi, hz0, hz1, hz2⟩ := info_parts info_int
  have HD := Lib.hid (l2DigitM_any n)
  obtain ⟨c, hc⟩ : ∃ c, dg (n % 10) = c := ⟨_, rfl⟩
  have HC := Lib.hid hc
  rw [hc] at HD
  clear hc
  go_enter Tryz.func35, Tryz.ntmps35
  go_wp2_with fail
  refine (HD.out _).mono ?_
  rintro e w1 ⟨rfl, hb1⟩
  have HB1 := Lib.hid hb1
  clear hb1
  go_wp2
  go_loopw [0, 3] (fun nv uv wr => ∃ t : Nat, t ≤ 5 ∧ nv = .int .i64 (n / pw t : Nat) ∧ (t = 0 ∨ pw t ≤ n) ∧ Own w.heap.size wr uv (cRow n (t + 1)) ∧ Below w.heap.size w wr) (fun nv _ _ => (intOf nv).toNat)
  case atStart =>
    refine ⟨0, by omega, by simp [pw], .inl rfl, ?_, HB1.out.alloc HB1.out.size _⟩
    have e : cRow n (0 + 1) = [c] := by rw [← HC.out]; simp [cRow, pw]
    rw [e]
    exact World.ownsRow_lit w1 #[.int .i64 c] 1 HB1.out.size (by decide) rfl
  case round =>
    obtain ⟨t, ht, rfl, h0, ho, hb⟩ := hrel
    have hm10 : n / pw t ≤ 1000000 := Nat.le_trans (Nat.div_le_self _ _) (by omega)
    by_cases hlt : 10 ≤ n / pw t
    · have h10 : pw (t + 1) ≤ n := by
        have := (Nat.le_div_iff_mul_le (pw_pos t)).1 hlt
        simp only [pw]; omega
      have ht4 : t ≤ 4 := by
        rcases Nat.lt_or_ge t 5 with h | h
        · omega
        · obtain rfl : t = 5 := by omega
          simp [pw] at h10; omega
      obtain ⟨m', hm'⟩ : ∃ m', n / pw (t + 1) = m' := ⟨_, rfl⟩
      have hdv : ((n / pw t : Nat) : Int) / 10 = (m' : Int) := by rw [← hm', ← div_pw n t]; simp
      have hR : cRow n (t + 1 + 1) = dg (m' % 10) :: cRow n (t + 1) := by rw [← hm']; rfl
      have HM := Lib.hid hm'
      have H10 := Lib.hid h10
      have hml : m' ≤ 1000000 := by rw [← hm']; exact Nat.le_trans (Nat.div_le_self _ _) (by omega)
      have hmd : m' < n / pw t := by have : (m' : Int) = ((n / pw t : Nat) : Int) / 10 := hdv.symm; omega
      have HD2 := Lib.hid (l2DigitM_any m')
      have hxl := cRow_len n (t + 1)
      generalize cRow n (t + 1) = xs at ho hR hxl
      have HX := Lib.hid hxl
      generalize dg (m' % 10) = d at hR HD2
      have HR := Lib.hid hR
      generalize n / pw t = m at hlt hm10 hdv hmd ⊢
      rcases own_cases ho with ⟨rfl, rfl⟩ | ⟨g, cap, rfl, hg1, hg2, hg3, hg4, hgc, hgf⟩
      · simp at hxl
      · have HO := Lib.hid ho
        have HB := Lib.hid hb
        have hx6 : xs.length ≤ 6 := by omega
        clear ho hb hg1 hg3 hg4 hgc hgf hR h10 hm' h0 hxl
        go_wp2_with fail
        refine (HD2.out _).mono ?_
        rintro e w2 ⟨rfl, hb2⟩
        have HB2 := Lib.hid hb2
        have hsz0 := HB.out.size
        have hsz := hb2.size
        have HOW : Hid ((w2.alloc (.cells #[.int .i64 d] 3)).ownsRow w.heap.size 3 1 (.slice (some ⟨w2.heap.size, 0, none⟩) 1 1) 1 [.int .i64 d]) := World.ownsRow_lit w2 #[.int .i64 d] 1 (Nat.le_trans hsz0 hsz) (by decide) rfl
        have HN := Lib.hid (own_news (.cells #[.int .i64 d] 3) HO.out hb2)
        have H1 := Lib.hid (ones xs)
        have hl0 : (xs.map (Value.int .i64)).length = xs.length * 1 := by simp
        have HL := Lib.hid hl0
        clear hb2 hl0
        go_wp2_with ((at_builtin; refine wpList_append_own _ rfl _ _ 25 rfl w.heap.size 3 i0 (.int .i64 0) 1 8 Tryz.underlying25 hi hz0 hz1 hz2 rfl (by decide) _ 1 [.int .i64 d] rfl HOW.out ⟨g, 0, none⟩ xs.length cap (xs.map (Value.int .i64)) rfl HL.out HN.out H1.out ?c3 ?c4 ?c5 ?_))
        case c3 => unfold maxLen; omega
        case c4 => omega
        case c5 => simp; omega
        intro v' w3 hown' hgrow _
        have ho3 : Own w.heap.size w3 v' (d :: xs) := own_cat (xs := [d]) (ys := xs) hown'
        have hb3 : Below w.heap.size w w3 := ((HB.out.trans (HB2.out.mono hsz0)).alloc (Nat.le_trans hsz0 hsz) _).grown hgrow (by simp; omega) (fun k hk => (World.ownsRow.lt HOW.out k hk).1)
        have HO3 := Lib.hid ho3
        have HB3 := Lib.hid hb3
        clear hown' hgrow ho3 hb3
        go_wp2
        go_roundw
        case rel => exact ⟨t + 1, by omega, by rw [HM.out], .inr H10.out, by rw [HR.out]; exact HO3.out, HB3.out⟩
        case measure => simp [intOf] <;> omega
    · have hlt' : n < pw (t + 1) := by
        have : n / pw t < 10 := by omega
        have := (Nat.div_lt_iff_lt_mul (pw_pos t)).1 this
        simp only [pw]; omega
      have HN := Lib.hid (nd_of n t ht hlt' h0)
      have HO := Lib.hid ho
      have HB := Lib.hid hb
      clear ho hb hlt' h0
      generalize n / pw t = m at hlt hm10 ⊢
      go_wp2
      go_ret
      exact ⟨_, rfl, by rw [HN.out]; exact HO.out, HB.out⟩

end Go.Proofs.YthgjghgkjhkbbaaGreatDoor
