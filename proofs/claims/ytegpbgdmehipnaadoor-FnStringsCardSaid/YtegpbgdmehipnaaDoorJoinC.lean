/-
  Contracts of JoinStrings (the reference and the program). Condition: strings that the call owns, together at most 2^20 bytes.
-/
import Derived.Test.YtegpbgdmehipnaaDoorStr
import Derived.Test.YtegpbgdmehipnaaDoorToS
import Derived.Test.YtegpbgdmehipnaaDoorJoinP
import Derived.Test.YtegpbgdmehipnaaDoorShelf
import Derived.PlainAid
import Derived.Lib.IndexLaws
import Derived.Deep.QuietTactic
import Derived.BigQuiet
namespace Go.Proofs.YtegpbgdmehipnaaDoor
open Go.RowKit
set_option linter.unusedVariables false


/-- Does the byte b stand in the bytes l? -/
def stB (l : List UInt8) (b : UInt8) : Bool := decide (0 ≤ Lib.indexByte l b)
theorem stB_mem (l : List UInt8) (b : UInt8) : stB l b = true ↔ b ∈ l := by
  unfold stB
  constructor
  · intro h
    have h0 := of_decide_eq_true h
    obtain ⟨o, ho⟩ := Int.eq_ofNat_of_zero_le h0
    exact List.mem_of_getElem? (Lib.indexByte_some (l := l) (c := b) (o := o) ho).1
  · intro h
    obtain ⟨k, hk⟩ := List.mem_iff_getElem?.1 h
    refine decide_eq_true (Classical.byContradiction fun hn => ?_)
    have h1 := Lib.indexByte_ge l b
    exact Lib.indexByte_none (l := l) (c := b) (by omega) k hk
theorem stB_no (l : List UInt8) (b : UInt8) (h : b ∉ l) : stB l b = false := by
  cases hs : stB l b with
  | false => rfl
  | true => exact absurd ((stB_mem l b).1 hs) h

set_option maxHeartbeats 400000 in
theorem l1Stands_any (s : ByteArray) (b : UInt8) (w : World) (hs : s.size ≤ 1048576) :
    Calls Tryd.prog 44 #[.string s, .int .u8 b.toNat] w fun e w' => e = .returned (.bool (stB s.data.toList b)) ∧ ∃ q, w' = w.drewN q := by
  go_enter Tryd.func44, Tryd.ntmps44
  go_wp2
  go_loop [5] (fun i => ∃ k : Nat, k ≤ s.size ∧ i = .int .i64 k ∧ ∀ (j : Nat) (h : j < s.size), j < k → s[j] ≠ b) (fun i => s.size - (intOf i).toNat)
  case atStart => exact ⟨0, Nat.zero_le _, rfl, fun j _ h => absurd h (Nat.not_lt_zero _)⟩
  case round =>
    obtain ⟨k, hk, rfl, hall⟩ := hrel
    have HA := Lib.hid hall
    clear hall
    by_cases hlt : k < s.size
    · obtain ⟨c, hc⟩ : ∃ c, s[k] = c := ⟨_, rfl⟩
      by_cases he : c = b
      · have hb1 : (((s[k].toNat : Nat) : Int) == ((b.toNat : Nat) : Int)) = true := by rw [hc, he]; simp
        have HR : Hid (stB s.data.toList b = true) := Lib.hid ((stB_mem _ _).2 (by rw [← he, ← hc]; exact List.mem_of_getElem? (i := k) ((List.getElem?_eq_getElem (by simpa using hlt)).trans rfl)))
        clear hc he
        go_wp2
        go_ret
        exact ⟨by rw [HR.out]; rfl, 0, rfl⟩
      · have hb1 : (((s[k].toNat : Nat) : Int) == ((b.toNat : Nat) : Int)) = false := by
          rw [hc, beq_eq_false_iff_ne]
          intro h
          exact he (UInt8.toNat_inj.1 (by omega))
        have HE : Hid (s[k] ≠ b) := Lib.hid (by rw [hc]; exact he)
        clear hc he
        go_wp2
        go_round
        case rel => exact ⟨k + 1, by omega, by go_num, fun j h hj => by by_cases e : j = k; (subst e; exact HE.out); exact HA.out j h (by omega)⟩
        case measure => simp [intOf]; omega
    · obtain rfl : k = s.size := by omega
      have HR : Hid (stB s.data.toList b = false) := Lib.hid (stB_no _ _ fun hm => by
        obtain ⟨j, hj⟩ := List.mem_iff_getElem?.1 hm
        obtain ⟨h1, h2⟩ := List.getElem?_eq_some_iff.1 hj
        have h3 : j < s.size := by simpa using h1
        exact HA.out j h3 h3 (by rw [← h2]; rfl))
      go_wp2
      go_ret
      exact ⟨by rw [HR.out]; rfl, 0, rfl⟩

def bsL (xs : List ByteArray) : List (List UInt8) := xs.map (·.data.toList)
theorem bsL_len (xs : List ByteArray) : (bsL xs).length = xs.length := by simp [bsL]
theorem bsL_at (xs : List ByteArray) (k : Nat) (x : ByteArray) (h : xs[k]? = some x) : (bsL xs)[k]? = some x.data.toList := by simp [bsL, h]
def joinI (xs : List ByteArray) (b : UInt8) : ByteArray × Bool := if xs ≠ [] ∧ joinOk (bsL xs) b = true then (⟨(Lib.join (bsL xs) [b]).toArray⟩, true) else (⟨#[]⟩, false)
theorem joinI_no (xs : List ByteArray) (b : UInt8) (h : joinOk (bsL xs) b = false) : joinI xs b = (⟨#[]⟩, false) := if_neg fun hh => by rw [h] at hh; exact absurd hh.2 (by decide)
theorem joinI_yes (xs : List ByteArray) (b : UInt8) (h0 : xs ≠ []) (h : joinOk (bsL xs) b = true) : joinI xs b = (⟨(Lib.join (bsL xs) [b]).toArray⟩, true) := if_pos ⟨h0, h⟩
theorem belowQ (w : World) (q : Nat) : Below w.heap.size w (w.drewN q) := ⟨rfl, rfl, rfl, Nat.le_refl _, fun _ _ => rfl⟩
theorem ba_mk (x : ByteArray) : x = ⟨x.data.toList.toArray⟩ := by
  obtain ⟨⟨a⟩⟩ := x
  rfl
theorem app_bytes (l m : List UInt8) : ByteArray.mk l.toArray ++ ByteArray.mk m.toArray = ByteArray.mk (l ++ m).toArray := ByteArray.mk_append_mk l m
theorem app_str (l : List UInt8) (x : ByteArray) : ByteArray.mk l.toArray ++ x = ByteArray.mk (l ++ x.data.toList).toArray := by
  rw [← app_bytes, ← ba_mk x]

set_option maxHeartbeats 4000000 in
theorem specJoin_one {A : Nat} (v : Value) (xs : List ByteArray) (b : UInt8) (w : World) (hv : OwnS A w v xs) (hx : xs.length ≤ 1048576) (hs : ∀ x ∈ xs, x.size ≤ 1048576) :
    Calls Tryd.prog 31 #[v, .string ⟨#[b]⟩] w fun e w' => e = .returned (.tuple #[.string (joinI xs b).1, .bool (joinI xs b).2]) ∧ Below w.heap.size w w' := by
  rcases ownS_cases hv with ⟨rfl, rfl⟩ | ⟨g, cap, rfl, hg1, hg2, hg3, hg4, hgc, hgf⟩
  · go_enter Tryd.func31, Tryd.ntmps31
    go_wp2
    go_ret2
    exact ⟨rfl, Below.refl _ _⟩
  · obtain ⟨n, hn⟩ : ∃ n, xs.length = n := ⟨_, rfl⟩
    have HN := Lib.hid hn
    rw [hn] at hx ⊢
    have HC := Lib.hid hgc
    have HS := Lib.hid hs
    clear hgc hgf hn hv hg1 hg3 hg4 hs
    rcases Nat.eq_zero_or_pos n with rfl | hpos
    · obtain rfl : xs = [] := List.eq_nil_of_length_eq_zero HN.out
      go_enter Tryd.func31, Tryd.ntmps31
      go_wp2
      go_ret2
      exact ⟨rfl, Below.refl _ _⟩
    · have HNE : Hid (xs ≠ []) := Lib.hid (fun e => by rw [e] at HN; have := HN.out; simp at this; omega)
      go_enter Tryd.func31, Tryd.ntmps31
      go_wp2
      go_loopw [6, 7] (fun sv iv wr => ∃ k : Nat, k ≤ n ∧ iv = .int .i64 k ∧ sv = .string ⟨(Lib.join ((bsL xs).take k) [b]).toArray⟩ ∧ (Lib.join ((bsL xs).take k) [b]).length ≤ 4000 ∧ (∀ j s, j < k → (bsL xs)[j]? = some s → b ∉ s) ∧ Below w.heap.size w wr) (fun _ iv _ => n - (intOf iv).toNat)
      case atStart => exact ⟨0, by omega, rfl, rfl, by simp [Lib.join_nil], fun j s h => absurd h (Nat.not_lt_zero _), Below.refl _ _⟩
      case round =>
        obtain ⟨k, hk, rfl, rfl, hlen, hall, hb⟩ := hrel
        have HA := Lib.hid hall
        have HB := Lib.hid hb
        clear hall
        by_cases hlt : k < n
        · obtain ⟨x, hxk⟩ : ∃ x, xs[k]? = some x := ⟨_, List.getElem?_eq_getElem (by rw [HN.out]; exact hlt)⟩
          have hcell : wr.cell? ⟨g, k, none⟩ = some (.string x) := (hb.cell (p := ⟨g, k, none⟩) hg2).trans (HC.out k x hxk)
          have hsz : x.size ≤ 1048576 := HS.out x (List.mem_of_getElem? hxk)
          have hat := bsL_at xs k x hxk
          have HST := Lib.hid (fun w => l1Stands_any x b w hsz)
          have hxl : x.data.toList.length = x.size := by rw [Array.length_toList]; rfl
          have HOK0 := Lib.hid (joinI_no xs b)
          have hk0 : (k : Int) < (n : Int) := by omega
          have HJL := Lib.hid (bsL_len xs)
          rw [HN.out] at HJL
          obtain ⟨l, hl⟩ : ∃ l, Lib.join ((bsL xs).take k) [b] = l := ⟨_, rfl⟩
          rw [hl] at hlen ⊢
          cases hst : stB x.data.toList b with
          | true =>
            have HR : Hid (joinI xs b = (⟨#[]⟩, false)) := Lib.hid (HOK0.out (joinOk_bears _ b k _ hat ((stB_mem _ _).1 hst)))
            rw [hst] at HST
            clear hxl hb hl hat hxk hst
            go_wp2
            go_quiet ((go_at_call 44; exact Calls.quiet_of (HST.out _)))
            go_wp2
            go_ret2
            exact ⟨(by rw [HR.out] <;> first | done | rfl), HB.out.trans ((belowQ _ _).mono HB.out.size)⟩
          | false =>
            have HNB : Hid (b ∉ x.data.toList) := Lib.hid (fun hm => by rw [(stB_mem _ _).2 hm] at hst; cases hst)
            rw [hst] at HST
            have HAT := Lib.hid hat
            by_cases hk1 : k = 0
            · subst hk1
              have HL : Hid (l = []) := Lib.hid (by rw [← hl]; rfl)
              rw [HL.out]
              have HF : Hid (ByteArray.mk #[] ++ x = ⟨(Lib.join ((bsL xs).take (0 + 1)) [b]).toArray⟩) := Lib.hid (by
                rw [join_first _ _ hat]
                exact (ByteArray.empty_append).trans (ba_mk x))
              have HFL : Hid ((Lib.join ((bsL xs).take (0 + 1)) [b]).length = x.size) := Lib.hid (by rw [join_first _ _ hat, hxl])
              by_cases hgt : 4000 < x.size
              · have HR : Hid (joinI xs b = (⟨#[]⟩, false)) := Lib.hid (HOK0.out (joinOk_long2 _ b (0 + 1) (by omega) (by rw [HJL.out]; omega) (by rw [HFL.out]; exact hgt)))
                clear hb hl hat hxk hst hxl hlen
                go_wp2
                go_quiet ((go_at_call 44; exact Calls.quiet_of (HST.out _)))
                go_wp2
                go_ret2
                exact ⟨(by rw [HR.out] <;> first | done | rfl), HB.out.trans ((belowQ _ _).mono HB.out.size)⟩
              · clear hb hl hat hxk hst hxl hlen
                go_wp2
                go_quiet ((go_at_call 44; exact Calls.quiet_of (HST.out _)))
                go_wp2
                go_roundw
                case rel => exact ⟨0 + 1, by omega, by go_num, congrArg Value.string HF.out, by rw [HFL.out]; omega, fun j s hj hs => by obtain rfl : j = 0 := (by omega); rw [HAT.out] at hs; injection hs with hs; rw [← hs]; exact HNB.out, HB.out.trans ((belowQ _ _).mono HB.out.size)⟩
                case measure => simp [intOf]; omega
            · have hk2 : 0 < k := by omega
              have hk3 : (0 : Int) < (k : Int) := by omega
              have HF : Hid (ByteArray.mk l.toArray ++ ByteArray.mk #[b] ++ x = ⟨(Lib.join ((bsL xs).take (k + 1)) [b]).toArray⟩) := Lib.hid (by
                rw [join_step _ k _ hat hk2, hl, show ByteArray.mk #[b] = ByteArray.mk [b].toArray from rfl, app_bytes, app_str])
              have HFL : Hid ((Lib.join ((bsL xs).take (k + 1)) [b]).length = l.length + 1 + x.size) := Lib.hid (by rw [join_step _ k _ hat hk2, hl, List.length_append, List.length_append, hxl]; rfl)
              by_cases hgt : 4000 < l.length + 1 + x.size
              · have HR : Hid (joinI xs b = (⟨#[]⟩, false)) := Lib.hid (HOK0.out (joinOk_long2 _ b (k + 1) (by omega) (by rw [HJL.out]; omega) (by rw [HFL.out]; exact hgt)))
                clear hb hl hat hxk hst hxl
                go_wp2
                go_quiet ((go_at_call 44; exact Calls.quiet_of (HST.out _)))
                go_wp2
                go_ret2
                exact ⟨(by rw [HR.out] <;> first | done | rfl), HB.out.trans ((belowQ _ _).mono HB.out.size)⟩
              · clear hb hl hat hxk hst hxl
                go_wp2
                go_quiet ((go_at_call 44; exact Calls.quiet_of (HST.out _)))
                go_wp2
                go_roundw
                case rel => exact ⟨k + 1, by omega, by go_num, congrArg Value.string HF.out, by rw [HFL.out]; omega, fun j s hj hs => by by_cases e : j = k; (subst e; rw [HAT.out] at hs; injection hs with hs; rw [← hs]; exact HNB.out); exact HA.out j s (by omega) hs, HB.out.trans ((belowQ _ _).mono HB.out.size)⟩
                case measure => simp [intOf]; omega
        · obtain rfl : k = n := by omega
          have he : (bsL xs).take k = bsL xs := List.take_of_length_le (by rw [bsL_len, HN.out]; exact Nat.le_refl _)
          rw [he] at hlen ⊢
          have HR : Hid (joinI xs b = (⟨(Lib.join (bsL xs) [b]).toArray⟩, true)) := Lib.hid (joinI_yes xs b HNE.out (joinOk_yes _ b (fun i s h => HA.out i s (by have := (List.getElem?_eq_some_iff.1 h).1; rw [bsL_len, HN.out] at this; exact this) h) (by
            have h1 := join_len (bsL xs) k hpos (by rw [bsL_len, HN.out]; exact Nat.le_refl _) b
            rw [he] at h1
            rw [bsL_len, HN.out]
            omega)))
          clear hb he
          go_wp2
          go_ret2
          exact ⟨(by rw [HR.out] <;> first | done | rfl), HB.out⟩

end Go.Proofs.YtegpbgdmehipnaaDoor
