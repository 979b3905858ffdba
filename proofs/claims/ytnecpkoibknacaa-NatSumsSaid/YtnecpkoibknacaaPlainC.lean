/- How many bits a number has; shifts. -/
import Derived.Lib.ItoaNum
import Derived.Test.YtnecpkoibknacaaPlainB
namespace Go.Proofs.Ytnecpkoibknacaa

/-- How many bits a number has. -/
def blen (n : Nat) : Nat := if n = 0 then 0 else Nat.log2 n + 1
theorem blen_iff (n k : Nat) : n < 2 ^ k ↔ blen n ≤ k := by
  unfold blen
  split
  · rename_i h; subst h; simp [Nat.two_pow_pos]
  · rename_i h; rw [← Nat.log2_lt h]; omega
theorem lt_blen (n : Nat) : n < 2 ^ blen n := (blen_iff n _).2 (Nat.le_refl _)
theorem blen_zero : blen 0 = 0 := by simp [blen]
theorem blen_le_of {n k : Nat} (h : 2 ^ k ≤ n) : k < blen n := by
  by_cases h' : blen n ≤ k
  · have := (blen_iff n k).2 h'; omega
  · omega
theorem blen_eq {n k : Nat} (h1 : 2 ^ k ≤ n) (h2 : n < 2 ^ (k + 1)) : blen n = k + 1 := by
  have a := blen_le_of h1
  have b := (blen_iff n (k + 1)).1 h2
  omega
theorem pow_blen {n : Nat} (h : n ≠ 0) : 2 ^ (blen n - 1) ≤ n := by
  have h1 : ¬ blen n ≤ blen n - 1 := by
    have : 0 < blen n := by
      have := lt_blen n
      by_cases h0 : blen n = 0
      · rw [h0] at this; simp at this; omega
      · omega
    omega
  have := mt (blen_iff n (blen n - 1)).1 h1
  omega
theorem bitLen_blen (x : Nat) (hx : x < B64) : Lib.bitLen x = blen x := by
  by_cases h : x = 0
  · subst h; rw [blen_zero]; rfl
  · have hx' : x < 2 ^ 64 := hx
    obtain ⟨h1, h2, h3⟩ := Lib.bitLenAux_bounds 64 x hx' h
    have e : Lib.bitLen x = Lib.bitLenAux 64 x := rfl
    rw [e]
    have := blen_eq (n := x) (k := Lib.bitLenAux 64 x - 1) h2 (by rw [show Lib.bitLenAux 64 x - 1 + 1 = Lib.bitLenAux 64 x by omega]; exact h3)
    omega
theorem B64_two : B64 = 2 ^ 64 := rfl
theorem B64_pow (k : Nat) : B64 ^ k = 2 ^ (64 * k) := by rw [B64_two, ← Nat.pow_mul]
theorem blen_mul_add {x n k : Nat} (hx : x < 2 ^ k) (hn : n ≠ 0) : blen (x + 2 ^ k * n) = k + blen n := by
  have h1 := pow_blen hn
  have h2 := lt_blen n
  have hb : 0 < blen n := by
    by_cases h0 : blen n = 0
    · rw [h0] at h2; simp at h2; omega
    · omega
  have := blen_eq (n := x + 2 ^ k * n) (k := k + blen n - 1) (by
    rw [show k + blen n - 1 = k + (blen n - 1) by omega, Nat.pow_add]
    exact Nat.le_trans (Nat.mul_le_mul_left _ h1) (Nat.le_add_left _ _)) (by
    rw [show k + blen n - 1 + 1 = k + blen n by omega, Nat.pow_add]
    have : 2 ^ k * (n + 1) ≤ 2 ^ k * 2 ^ blen n := Nat.mul_le_mul_left _ h2
    rw [Nat.mul_add] at this
    omega)
  omega
/-- Of normal limbs: 64 for each but the last one. -/
theorem blen_snoc (xs : List Nat) (t : Nat) (hx : ∀ x ∈ xs, x < B64) (ht : t ≠ 0) : blen (val (xs ++ [t])) = 64 * xs.length + blen t := by
  rw [val_append]
  have h := val_lt hx
  rw [B64_pow] at h ⊢
  rw [val, val, Nat.mul_zero, Nat.add_zero]
  exact blen_mul_add h ht
/-- Normal limbs have a last one that is not 0. -/
theorem limbs_last {n : Nat} (h : n ≠ 0) : ∃ xs t, limbs n = xs ++ [t] ∧ t ≠ 0 ∧ t < B64 ∧ (∀ x ∈ xs, x < B64) := by
  have hl : limbs n ≠ [] := fun e => h (limbs_eq_nil.1 e)
  obtain ⟨xs, t, e⟩ : ∃ xs t, limbs n = xs ++ [t] := ⟨_, _, (List.dropLast_concat_getLast hl).symm⟩
  have hlt := lt_limbs n
  refine ⟨xs, t, e, ?_, hlt t (by rw [e]; simp), fun x hx => hlt x (by rw [e]; simp [hx])⟩
  intro ht
  subst ht
  have hv := val_limbs n
  rw [e, val_append, val, val, Nat.mul_zero, Nat.add_zero, Nat.mul_zero, Nat.add_zero] at hv
  have h1 := val_lt (xs := xs) fun x hx => hlt x (by rw [e]; simp [hx])
  rw [hv] at h1
  have h2 := length_limbs_le h1
  rw [e] at h2
  simp at h2
  omega
theorem blen_limbs {n : Nat} (h : n ≠ 0) : blen n = 64 * ((limbs n).length - 1) + blen ((limbs n)[(limbs n).length - 1]?.getD 0) := by
  obtain ⟨xs, t, e, h0, h1, h2⟩ := limbs_last h
  have hv := val_limbs n
  conv => lhs; rw [← hv, e]
  rw [blen_snoc xs t h2 h0, e]
  simp
theorem length_limbs_pos {n : Nat} (h : n ≠ 0) : 0 < (limbs n).length := by
  cases e : limbs n with
  | nil => exact absurd (limbs_eq_nil.1 e) h
  | cons _ _ => simp
end Go.Proofs.Ytnecpkoibknacaa
