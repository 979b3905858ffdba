/- The reference's bits and digits; Bit. -/
import Derived.WalkSmall
import Derived.Test.YtnecpkoibknacaaW36
namespace Go.Proofs.Ytnecpkoibknacaa
open Go.RowKit

/-- A bit of a number. -/
def bitN (m i : Nat) : Nat := m / 2 ^ i % 2
theorem bitN_lt (m i : Nat) : bitN m i < 2 := Nat.mod_lt _ (by omega)
theorem bit_limb {xs : List Nat} (h : ∀ x ∈ xs, x < B64) (i : Nat) : xs[i / 64]?.getD 0 / 2 ^ (i % 64) % 2 = bitN (val xs) i := by
  rw [limb_at h]
  have e : B64 = 2 ^ (i % 64) * (2 * 2 ^ (63 - i % 64)) := by
    rw [Nat.mul_comm 2, ← Nat.pow_succ, ← Nat.pow_add, B64_two]; congr 1; omega
  rw [show val xs / B64 ^ (i / 64) % B64 = val xs / B64 ^ (i / 64) % (2 ^ (i % 64) * (2 * 2 ^ (63 - i % 64))) by rw [← e], Nat.mod_mul_right_div_self, Nat.mod_mul_right_mod, Nat.div_div_eq_div_mul, B64_pow, ← Nat.pow_add]
  unfold bitN
  congr 3
  omega
theorem bit_far {xs : List Nat} {i : Nat} (h : xs.length ≤ i / 64) (hx : ∀ x ∈ xs, x < B64) : bitN (val xs) i = 0 := by
  rw [← bit_limb hx, List.getElem?_eq_none h]; simp

set_option maxHeartbeats 400000 in
theorem rbit_any (a : Option Addr) (n c : Nat) (xs : List Nat) (i : Nat) (w : World) (h : Nums w a n c xs) (hi : i ≤ 9223372036854775807) :
    Calls Try.prog 51 #[.slice a n c, .int .i64 i] w fun e w' => e = .returned (.int .u64 (bitN (val xs) i)) ∧ w = w' := by
  obtain rfl := h.len
  have hfew := h.few
  by_cases hn : xs.length ≤ i / 64
  · rw [bit_far hn h.lt]
    go_enter Try.func51, Try.ntmps51
    go_wp2
    go_ret
    exact ⟨by simp, rfl⟩
  · obtain ⟨b, off, rfl, hc⟩ := h.at (i := i / 64) (by omega)
    have hbd := h.bd (i / 64)
    have hb := bit_limb h.lt i
    generalize xs[i / 64]?.getD 0 = x at *
    have hbd' : (x : Int) ≤ 18446744073709551615 := by unfold B64 at hbd; omega
    have HB := Lib.hid hb
    have h64 : i % 64 < 64 := Nat.mod_lt _ (by omega)
    have hd0 : 0 ≤ (x : Int) / 2 ^ (i % 64) := Int.ediv_nonneg (by omega) (by exact_mod_cast Nat.zero_le _)
    have hd1 : (x : Int) / 2 ^ (i % 64) ≤ 18446744073709551615 := Int.le_trans (Int.ediv_le_self _ (by omega)) hbd'
    have hand := and_one_u64 _ hd0 hd1
    clear hb
    go_enter Try.func51, Try.ntmps51
    go_wp2
    go_ret
    refine ⟨?_, rfl⟩
    rw [← HB.out]
    show Ending.returned (.int .u64 ((x : Int) / 2 ^ (i % 64) % 2)) = _
    congr 2

theorem rbit_n {w : World} {v : Value} {m : Nat} (i : Nat) (h : IsN w v m) (hi : i ≤ 9223372036854775807) :
    Calls Try.prog 51 #[v, .int .i64 i] w fun e w' => e = .returned (.int .u64 (bitN m i)) ∧ w = w' := by
  obtain ⟨a, n, c, xs, rfl, h, hn, rfl⟩ := h
  exact rbit_any a n c xs i w h hi
theorem rbit_neg {w : World} {v : Value} (i : Int) (hi : i < 0) :
    Calls Try.prog 51 #[v, .int .i64 i] w fun e w' => e = .returned (.int .u64 0) ∧ w = w' := by
  have hd : decide (i < 0) = true := decide_eq_true hi
  go_enter Try.func51, Try.ntmps51
  go_wp2
  go_ret
  exact ⟨rfl, rfl⟩
/-- Bit's answer, at whatever place. -/
def bitB (m : Nat) (i : Int) : Bool := decide (0 ≤ i) && bitN m i.toNat == 1
theorem rBit_n {w : World} {v : Value} {m : Nat} (i : Int) (h : IsN w v m) (hi : i ≤ 9223372036854775807) :
    Calls Try.prog 40 #[v, .int .i64 i] w fun e w' => e = .returned (.bool (bitB m i)) ∧ w = w' := by
  by_cases h0 : 0 ≤ i
  · obtain ⟨k, rfl⟩ := Int.eq_ofNat_of_zero_le h0
    have hc := rbit_n k h (by omega)
    have e : bitB m k = (((bitN m k : Nat) : Int) == 1) := by
      unfold bitB
      rw [decide_eq_true h0, Int.toNat_natCast, Bool.true_and, Bool.eq_iff_iff]
      simp
      omega
    rw [e]
    have hb := bitN_lt m k
    generalize bitN m k = x at *
    clear e h0
    go_enter Try.func40, Try.ntmps40
    go_wp2_with fail
    refine hc.mono ?_
    rintro e w' ⟨rfl, rfl⟩
    go_wp2
    go_ret
    exact ⟨rfl, rfl⟩
  · have e : bitB m i = false := by unfold bitB; rw [decide_eq_false h0]; rfl
    rw [e]
    go_enter Try.func40, Try.ntmps40
    go_wp2_with fail
    refine (rbit_neg i (by omega)).mono ?_
    rintro e w' ⟨rfl, rfl⟩
    go_wp2
    go_ret
    exact ⟨rfl, rfl⟩
set_option maxHeartbeats 400000 in
theorem Bit_n {w : World} {v : Value} {m : Nat} (i : Int) (h : IsN w v m) (hi : i ≤ 9223372036854775807) :
    Calls Try.prog 39 #[v, .int .i64 i] w fun e w' => e = .returned (.bool (bitB m i)) ∧ w = w' := by
  obtain ⟨a, n, c, xs, rfl, h, hn, rfl⟩ := h
  obtain rfl := h.len
  have hfew := h.few
  by_cases h0 : 0 ≤ i
  · obtain ⟨k, rfl⟩ := Int.eq_ofNat_of_zero_le h0
    have e : bitB (val xs) k = (((bitN (val xs) k : Nat) : Int) == 1) := by
      unfold bitB
      rw [decide_eq_true h0, Int.toNat_natCast, Bool.true_and, Bool.eq_iff_iff]
      simp
      omega
    rw [e]
    clear e h0
    by_cases hn : xs.length ≤ k / 64
    · rw [bit_far hn h.lt]
      go_enter Try.func39, Try.ntmps39
      go_wp2
      go_ret
      exact ⟨by simp, rfl⟩
    · obtain ⟨b, off, rfl, hc⟩ := h.at (i := k / 64) (by omega)
      have hbd := h.bd (k / 64)
      have hb := bit_limb h.lt k
      generalize xs[k / 64]?.getD 0 = x at *
      have hbd' : (x : Int) ≤ 18446744073709551615 := by unfold B64 at hbd; omega
      have h64 : k % 64 < 64 := Nat.mod_lt _ (by omega)
      have hd0 : 0 ≤ (x : Int) / 2 ^ (k % 64) := Int.ediv_nonneg (by omega) (by exact_mod_cast Nat.zero_le _)
      have hd1 : (x : Int) / 2 ^ (k % 64) ≤ 18446744073709551615 := Int.le_trans (Int.ediv_le_self _ (by omega)) hbd'
      have hand := and_one_u64 _ hd0 hd1
      have e : (x : Int) / 2 ^ (k % 64) % 2 = ((x / 2 ^ (k % 64) % 2 : Nat) : Int) := by push_cast; rfl
      have HE := Lib.hid e
      have HB := Lib.hid hb
      clear hb e
      go_enter Try.func39, Try.ntmps39
      go_wp2
      go_ret
      refine ⟨?_, rfl⟩
      rw [← HB.out, ← HE.out]
      rfl
  · have e : bitB (val xs) i = false := by unfold bitB; rw [decide_eq_false h0]; rfl
    rw [e]
    have hd : decide (0 ≤ i) = false := decide_eq_false h0
    clear e
    go_enter Try.func39, Try.ntmps39
    go_wp2
    go_ret
    exact ⟨by simp, rfl⟩

theorem digit_n {w : World} {v : Value} {m : Nat} (i : Nat) (h : IsN w v m) (hi : i ≤ 1000000) :
    Calls Try.prog 53 #[v, .int .i64 i] w fun e w' => e = .returned (.int .u64 (dg m i)) ∧ w = w' := by
  obtain ⟨a, n, c, xs, rfl, h, hn, rfl⟩ := h
  rw [← digit_dg h.lt]
  exact digit_any a n c xs i w h hi
theorem digit_neg {w : World} {v : Value} (i : Int) (hi : i < 0) :
    Calls Try.prog 53 #[v, .int .i64 i] w fun e w' => e = .returned (.int .u64 0) ∧ w = w' := by
  have hd : decide (i < 0) = true := decide_eq_true hi
  go_enter Try.func53, Try.ntmps53
  go_wp2
  go_ret
  exact ⟨rfl, rfl⟩

theorem blen_down {m k : Nat} (h : blen m ≤ k + 1) (hb : bitN m k = 0) : blen m ≤ k := by
  rw [← blen_iff] at h ⊢
  unfold bitN at hb
  rw [Nat.pow_succ] at h
  have h2 : m / 2 ^ k < 2 := Nat.div_lt_of_lt_mul h
  have h0 : m / 2 ^ k = 0 := by generalize m / 2 ^ k = t at *; omega
  rcases Nat.div_eq_zero_iff.1 h0 with h1 | h1
  · have := Nat.two_pow_pos k; omega
  · exact h1
theorem blen_here {m k : Nat} (h : blen m ≤ k + 1) (hb : bitN m k ≠ 0) : blen m = k + 1 := by
  have : k < blen m := by
    apply blen_le_of
    have hn : ¬ m < 2 ^ k := fun hlt => hb (by unfold bitN; rw [Nat.div_eq_of_lt hlt])
    omega
  omega
theorem rBits_any (a : Option Addr) (n c : Nat) (xs : List Nat) (w : World) (h : Nums w a n c xs) :
    Calls Try.prog 17 #[.slice a n c] w fun e w' => e = .returned (.int .i64 (blen (val xs))) ∧ w = w' := by
  have hfew := h.few
  have hb : blen (val xs) ≤ 64 * n := by rw [← blen_iff, ← B64_pow, ← h.len]; exact val_lt h.lt
  have HB0 := Lib.hid hb
  clear hb
  go_enter Try.func17, Try.ntmps17
  go_wp2
  go_loop [3] (fun i => ∃ j : Nat, j ≤ 64 * n ∧ i = .int .i64 j ∧ Hid (blen (val xs) ≤ j)) (fun i => (intOf i).toNat)
  case atStart => exact ⟨64 * n, Nat.le_refl _, by congr 1, HB0⟩
  case round =>
    obtain ⟨j, hj, rfl, HB⟩ := hrel
    by_cases h0 : j = 0
    · subst h0
      go_wp2
      go_ret
      exact ⟨by have := HB.out; rw [show blen (val xs) = 0 by omega]; rfl, rfl⟩
    · obtain ⟨j, rfl⟩ : ∃ i, j = i + 1 := ⟨j - 1, by omega⟩
      have hc := rbit_any a n c xs j w h (by omega)
      by_cases hz : bitN (val xs) j = 0
      · have H2 := Lib.hid (blen_down HB.out hz)
        rw [hz] at hc
        clear hz
        go_wp2_with (go_at_call 51; refine hc.mono ?_; rintro e w' ⟨rfl, rfl⟩)
        go_round
        case rel => exact ⟨j, by omega, by go_num, H2⟩
        case measure => simp [intOf]
      · have H2 := Lib.hid (blen_here HB.out hz)
        have h1 : bitN (val xs) j = 1 := by have := bitN_lt (val xs) j; omega
        rw [h1] at hc
        clear hz h1
        go_wp2_with (go_at_call 51; refine hc.mono ?_; rintro e w' ⟨rfl, rfl⟩)
        go_ret
        exact ⟨by rw [H2.out]; rfl, rfl⟩
theorem rBits_n {w : World} {v : Value} {m : Nat} (h : IsN w v m) :
    Calls Try.prog 17 #[v] w fun e w' => e = .returned (.int .i64 (blen m)) ∧ w = w' := by
  obtain ⟨a, n, c, xs, rfl, h, hn, rfl⟩ := h
  exact rBits_any a n c xs w h
end Go.Proofs.Ytnecpkoibknacaa
