/-
  Contract of JoinStrings (the program), and both at any sign. Condition: strings that the call owns, each of at most 2^20 bytes.
-/
import Derived.Test.YtegpbgdmehipnaaDoorJoinC
namespace Go.Proofs.YtegpbgdmehipnaaDoor
open Go.RowKit
set_option linter.unusedVariables false


set_option maxHeartbeats 4000000 in
theorem implJoin_one {A : Nat} (v : Value) (xs : List ByteArray) (b : UInt8) (w : World) (hv : OwnS A w v xs) (hx : xs.length ≤ 1048576) (hs : ∀ x ∈ xs, x.size ≤ 1048576) :
    Calls Tryd.prog 30 #[v, .string ⟨#[b]⟩] w fun e w' => e = .returned (.tuple #[.string (joinI xs b).1, .bool (joinI xs b).2]) ∧ Below w.heap.size w w' := by
  rcases ownS_cases hv with ⟨rfl, rfl⟩ | ⟨g, cap, rfl, hg1, hg2, hg3, hg4, hgc, hgf⟩
  · go_enter Tryd.func30, Tryd.ntmps30
    go_wp2
    go_ret2
    exact ⟨rfl, Below.refl _ _⟩
  · obtain ⟨n, hn⟩ : ∃ n, xs.length = n := ⟨_, rfl⟩
    have HN := Lib.hid hn
    have HJ := Lib.hid (fun h => Tryd.strings_Join g 0 cap xs ⟨#[b]⟩ w (fun j x h => by rw [Nat.zero_add]; exact hgc j x h) hg2 (by omega) hg3 h)
    rw [hn] at hx HJ ⊢
    have HC := Lib.hid hgc
    have HS := Lib.hid hs
    clear hgc hgf hn hv hg1 hg3 hg4 hs
    rcases Nat.eq_zero_or_pos n with rfl | hpos
    · obtain rfl : xs = [] := List.eq_nil_of_length_eq_zero HN.out
      go_enter Tryd.func30, Tryd.ntmps30
      go_wp2
      go_ret2
      exact ⟨rfl, Below.refl _ _⟩
    · have HNE : Hid (xs ≠ []) := Lib.hid (fun e => by rw [e] at HN; have := HN.out; simp at this; omega)
      go_enter Tryd.func30, Tryd.ntmps30
      go_wp2
      go_loop [6, 22] (fun sv iv => ∃ k : Nat, k ≤ n ∧ iv = .int .i64 k ∧ sv = .int .i64 ((n - 1 + Lib.lens ((bsL xs).take k) : Nat) : Int) ∧ (k = 0 ∨ n - 1 + Lib.lens ((bsL xs).take k) ≤ 4000) ∧ (∀ j s, j < k → (bsL xs)[j]? = some s → b ∉ s)) (fun _ iv => n - (intOf iv).toNat)
      case atStart => exact ⟨0, by omega, rfl, by simp [Lib.lens]; omega, .inl rfl, fun j s h => absurd h (Nat.not_lt_zero _)⟩
      case round =>
        obtain ⟨k, hk, rfl, rfl, hlen, hall⟩ := hrel
        have HA := Lib.hid hall
        clear hall
        by_cases hlt : k < n
        · obtain ⟨x, hxk⟩ : ∃ x, xs[k]? = some x := ⟨_, List.getElem?_eq_getElem (by rw [HN.out]; exact hlt)⟩
          have hcell : w.cell? ⟨g, k, none⟩ = some (.string x) := HC.out k x hxk
          have hsz : x.size ≤ 1048576 := HS.out x (List.mem_of_getElem? hxk)
          have hat := bsL_at xs k x hxk
          have HAT := Lib.hid hat
          have hxl : x.data.toList.length = x.size := by rw [Array.length_toList]; rfl
          have hls := Lib.lens_take_succ (bsL xs) k _ hat
          rw [hxl] at hls
          have HLS := Lib.hid hls
          have hl0 : k = 0 → Lib.lens ((bsL xs).take k) = 0 := fun h => by subst h; rfl
          have HOK0 := Lib.hid (joinI_no xs b)
          have HLONG := Lib.hid (joinOk_long (bsL xs) b (k + 1))
          rw [bsL_len, HN.out, hls] at HLONG
          have HCo := Lib.hid (Tryd.strings_Contains_one x b)
          have hk0 : (k : Int) < (n : Int) := by omega
          generalize Lib.lens ((bsL xs).take k) = q at hlen hls HLS hl0 HLONG ⊢
          have hq : q ≤ 4000 := by rcases hlen with h | h; (have := hl0 h; omega); omega
          have hnn : ((n - 1 + q : Nat) : Int) = (n : Int) - 1 + (q : Int) := by omega
          rw [hnn]
          clear hl0 hls hlen hnn
          by_cases hgt : 4000 < n - 1 + (q + x.size)
          · have HR : Hid (joinI xs b = (⟨#[]⟩, false)) := Lib.hid (HOK0.out (HLONG.out hgt))
            clear hat hxk hxl
            go_wp2_with ((go_at_call 46; refine (HCo.out _).mono ?_; rintro e w1 ⟨rfl, rfl⟩))
            go_ret2
            exact ⟨(by rw [HR.out] <;> first | done | rfl), Below.refl _ _⟩
          · cases hst : stB x.data.toList b with
            | true =>
              have HR : Hid (joinI xs b = (⟨#[]⟩, false)) := Lib.hid (HOK0.out (joinOk_bears _ b k _ HAT.out ((stB_mem _ _).1 hst)))
              have HST : Hid (decide (0 ≤ Lib.indexByte x.data.toList b) = true) := Lib.hid hst
              clear hat hxk hxl hst
              go_wp2_with ((go_at_call 46; refine (HCo.out _).mono ?_; rintro e w1 ⟨rfl, rfl⟩; rw [HST.out]))
              go_ret2
              exact ⟨(by rw [HR.out] <;> first | done | rfl), Below.refl _ _⟩
            | false =>
              have HNB : Hid (b ∉ x.data.toList) := Lib.hid (fun hm => by rw [(stB_mem _ _).2 hm] at hst; cases hst)
              have HST : Hid (decide (0 ≤ Lib.indexByte x.data.toList b) = false) := Lib.hid hst
              clear hat hxk hxl hst
              go_wp2_with ((go_at_call 46; refine (HCo.out _).mono ?_; rintro e w1 ⟨rfl, rfl⟩; rw [HST.out]))
              go_round
              case rel => exact ⟨k + 1, by omega, by go_num, by rw [HLS.out]; go_num, .inr (by rw [HLS.out]; omega), fun j s hj hs => by by_cases e : j = k; (subst e; rw [HAT.out] at hs; injection hs with hs; rw [← hs]; exact HNB.out); exact HA.out j s (by omega) hs⟩
              case measure => simp [intOf]; omega
        · obtain rfl : k = n := by omega
          have he : (bsL xs).take k = bsL xs := List.take_of_length_le (by rw [bsL_len, HN.out]; exact Nat.le_refl _)
          rw [he] at hlen ⊢
          have hl4 : k - 1 + Lib.lens (bsL xs) ≤ 4000 := by rcases hlen with h | h; omega; exact h
          have h1 := join_len (bsL xs) k hpos (by rw [bsL_len, HN.out]; exact Nat.le_refl _) b
          rw [he] at h1
          have HR : Hid (joinI xs b = (⟨(Lib.join (bsL xs) [b]).toArray⟩, true)) := Lib.hid (joinI_yes xs b HNE.out (joinOk_yes _ b (fun i s h => HA.out i s (by have := (List.getElem?_eq_some_iff.1 h).1; rw [bsL_len, HN.out] at this; exact this) h) (by
            rw [bsL_len, HN.out]; exact hl4)))
          have HJ2 := Lib.hid (HJ.out (show (Lib.join (bsL xs) [b]).length ≤ 140737488355328 by omega))
          try rw [show xs.map (·.data.toList) = bsL xs from rfl] at HJ2
          clear he hlen
          go_wp2_with ((go_at_call 54; refine HJ2.out.mono ?_; rintro e w1 ⟨rfl, hb1⟩))
          go_ret2
          exact ⟨(by rw [HR.out] <;> first | done | rfl), hb1⟩

def joinS (xs : List ByteArray) (sep : ByteArray) : ByteArray × Bool := if h : sep.size = 1 then joinI xs (sep[0]'(by omega)) else (⟨#[]⟩, false)
theorem joinS_one (xs : List ByteArray) (b : UInt8) : joinS xs ⟨#[b]⟩ = joinI xs b := rfl
theorem one_byte' (sep : ByteArray) (h : sep.size = 1) : ∃ c : UInt8, sep = ⟨#[c]⟩ := by
  obtain ⟨⟨l⟩⟩ := sep
  cases l with
  | nil => simp [ByteArray.size] at h
  | cons c t =>
    cases t with
    | nil => exact ⟨c, rfl⟩
    | cons _ _ => simp [ByteArray.size] at h
set_option maxHeartbeats 1000000 in
theorem specJoin_any {A : Nat} (v : Value) (xs : List ByteArray) (sep : ByteArray) (w : World) (hv : OwnS A w v xs) (hx : xs.length ≤ 1048576) (hs : ∀ x ∈ xs, x.size ≤ 1048576) (hsep : sep.size ≤ 1048576) :
    Calls Tryd.prog 31 #[v, .string sep] w fun e w' => e = .returned (.tuple #[.string (joinS xs sep).1, .bool (joinS xs sep).2]) ∧ Below w.heap.size w w' := by
  by_cases h1 : sep.size = 1
  · obtain ⟨b, rfl⟩ := one_byte' sep h1
    rw [joinS_one]
    exact specJoin_one v xs b w hv hx hs
  · have e : joinS xs sep = (⟨#[]⟩, false) := dif_neg h1
    rw [e]
    have hne : ((sep.size : Int) == 1) = false := by rw [beq_eq_false_iff_ne]; omega
    have hne2 : ((sep.size : Int) != 1) = true := by rw [bne_iff_ne]; omega
    obtain ⟨a0, c0, rfl⟩ := ownS_shape hv
    generalize xs.length = n at hx ⊢
    clear e hv hs
    go_enter Tryd.func31, Tryd.ntmps31
    go_wp2
    go_ret2
    exact ⟨rfl, Below.refl _ _⟩
set_option maxHeartbeats 1000000 in
theorem implJoin_any {A : Nat} (v : Value) (xs : List ByteArray) (sep : ByteArray) (w : World) (hv : OwnS A w v xs) (hx : xs.length ≤ 1048576) (hs : ∀ x ∈ xs, x.size ≤ 1048576) (hsep : sep.size ≤ 1048576) :
    Calls Tryd.prog 30 #[v, .string sep] w fun e w' => e = .returned (.tuple #[.string (joinS xs sep).1, .bool (joinS xs sep).2]) ∧ Below w.heap.size w w' := by
  by_cases h1 : sep.size = 1
  · obtain ⟨b, rfl⟩ := one_byte' sep h1
    rw [joinS_one]
    exact implJoin_one v xs b w hv hx hs
  · have e : joinS xs sep = (⟨#[]⟩, false) := dif_neg h1
    rw [e]
    have hne : ((sep.size : Int) == 1) = false := by rw [beq_eq_false_iff_ne]; omega
    have hne2 : ((sep.size : Int) != 1) = true := by rw [bne_iff_ne]; omega
    obtain ⟨a0, c0, rfl⟩ := ownS_shape hv
    rcases Nat.eq_zero_or_pos xs.length with h0 | h0
    · rw [h0]
      clear e hv hs
      go_enter Tryd.func30, Tryd.ntmps30
      go_wp2
      go_ret2
      exact ⟨rfl, Below.refl _ _⟩
    · have hn0 : ((xs.length : Int) == 0) = false := by rw [beq_eq_false_iff_ne]; omega
      generalize xs.length = n at hx hn0 h0 ⊢
      clear e hv hs
      go_enter Tryd.func30, Tryd.ntmps30
      go_wp2
      go_ret2
      exact ⟨rfl, Below.refl _ _⟩

end Go.Proofs.YtegpbgdmehipnaaDoor
