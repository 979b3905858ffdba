/- Natural numbers as limbs of 64 bits, with no program in sight. -/
import Derived.Test.YtnecpkoibknacaaBase
namespace Go.Proofs.Ytnecpkoibknacaa

theorem B64_pos : 0 < B64 := by unfold B64; omega
theorem B64_one : 1 < B64 := by unfold B64; omega

/-- What limbs come to. -/
def val : List Nat → Nat
  | [] => 0
  | x :: xs => x + B64 * val xs

/-- The limbs of a number, normal. -/
def limbs (n : Nat) : List Nat := if _h : n = 0 then [] else n % B64 :: limbs (n / B64)
termination_by n
decreasing_by exact Nat.div_lt_self (by omega) B64_one

theorem limbs_zero : limbs 0 = [] := by rw [limbs]; simp
theorem limbs_pos {n : Nat} (h : n ≠ 0) : limbs n = n % B64 :: limbs (n / B64) := by rw [limbs, dif_neg h]
theorem val_limbs (n : Nat) : val (limbs n) = n := by
  induction n using Nat.strongRecOn with
  | _ n ih =>
    by_cases h : n = 0
    · subst h; rw [limbs_zero]; rfl
    · rw [limbs_pos h, val, ih _ (Nat.div_lt_self (by omega) B64_one)]
      exact Nat.mod_add_div n B64
theorem lt_limbs (n : Nat) : ∀ x ∈ limbs n, x < B64 := by
  induction n using Nat.strongRecOn with
  | _ n ih =>
    by_cases h : n = 0
    · subst h; rw [limbs_zero]; intro x hx; simp at hx
    · rw [limbs_pos h]
      intro x hx
      rcases List.mem_cons.1 hx with rfl | hx
      · exact Nat.mod_lt _ B64_pos
      · exact ih _ (Nat.div_lt_self (by omega) B64_one) x hx
theorem limbs_eq_nil {n : Nat} : limbs n = [] ↔ n = 0 := by
  constructor
  · intro h; have := val_limbs n; rw [h] at this; exact this.symm
  · rintro rfl; exact limbs_zero
theorem limbs_inj {m n : Nat} (h : limbs m = limbs n) : m = n := by rw [← val_limbs m, h, val_limbs]

theorem val_append (xs ys : List Nat) : val (xs ++ ys) = val xs + B64 ^ xs.length * val ys := by
  induction xs with
  | nil => simp [val]
  | cons x xs ih => rw [List.cons_append, val, val, ih, List.length_cons, Nat.pow_succ, Nat.mul_add, Nat.add_assoc]; congr 2; rw [← Nat.mul_assoc, Nat.mul_comm B64]
theorem val_zeros (k : Nat) : val (List.replicate k 0) = 0 := by
  induction k with
  | zero => rfl
  | succ k ih => rw [List.replicate_succ, val, ih]; simp
theorem val_lt {xs : List Nat} (h : ∀ x ∈ xs, x < B64) : val xs < B64 ^ xs.length := by
  induction xs with
  | nil => simp [val]
  | cons x xs ih =>
    have h1 := h x (by simp)
    have h2 := ih fun y hy => h y (by simp [hy])
    rw [val, List.length_cons, Nat.pow_succ]
    have : B64 * (val xs + 1) ≤ B64 * B64 ^ xs.length := Nat.mul_le_mul_left _ h2
    rw [Nat.mul_comm (B64 ^ xs.length)]
    rw [Nat.mul_add] at this
    omega

/-- Limbs whose last one is not 0 are normal. -/
theorem limbs_val {xs : List Nat} (h : ∀ x ∈ xs, x < B64) (hl : xs = [] ∨ xs.getLast?.getD 0 ≠ 0) : limbs (val xs) = xs := by
  induction xs with
  | nil => exact limbs_zero
  | cons x xs ih =>
    have hx := h x (by simp)
    have ht : ∀ y ∈ xs, y < B64 := fun y hy => h y (by simp [hy])
    have hpos : val (x :: xs) ≠ 0 := by
      intro h0
      rw [val] at h0
      have hx0 : x = 0 := by omega
      have hv : val xs = 0 := by
        have : B64 * val xs = 0 := by omega
        rcases Nat.mul_eq_zero.1 this with h | h
        · exact absurd h (by have := B64_pos; omega)
        · exact h
      rcases hl with hl | hl
      · cases hl
      · cases xs with
        | nil => simp at hl; exact hl hx0
        | cons y ys =>
          have := ih ht (.inr (by simpa using hl))
          rw [hv, limbs_zero] at this
          cases this
    rw [limbs_pos hpos]
    have e1 : val (x :: xs) % B64 = x := by rw [val, Nat.add_mul_mod_self_left, Nat.mod_eq_of_lt hx]
    have e2 : val (x :: xs) / B64 = val xs := by
      rw [val, Nat.add_mul_div_left _ _ B64_pos, Nat.div_eq_of_lt hx, Nat.zero_add]
    rw [e1, e2]
    cases xs with
    | nil => rw [val, limbs_zero]
    | cons y ys => rw [ih ht (.inr (by rcases hl with hl | hl; · cases hl
                                       · simpa using hl))]

theorem val_take_drop (xs : List Nat) (k : Nat) (hk : k ≤ xs.length) : val xs = val (xs.take k) + B64 ^ k * val (xs.drop k) := by
  have := val_append (xs.take k) (xs.drop k)
  rw [List.take_append_drop, List.length_take, Nat.min_eq_left hk] at this
  exact this
/-- Zeros on top say nothing. -/
theorem val_take_of_zeros {xs : List Nat} {k : Nat} (hk : k ≤ xs.length) (h : ∀ i, k ≤ i → xs[i]?.getD 0 = 0) : val (xs.take k) = val xs := by
  have e : xs.drop k = List.replicate (xs.length - k) 0 := by
    apply List.ext_getElem
    · simp
    · intro i h1 h2
      have := h (k + i) (by omega)
      simp only [List.length_drop] at h1
      rw [List.getElem?_eq_getElem (by omega)] at this
      simpa using this
  rw [val_take_drop xs k hk, e, val_zeros]; simp
/-- What is left of limbs without zeros on top is normal. -/
theorem take_normal {xs : List Nat} {k : Nat} (hk : k ≤ xs.length) (hx : ∀ x ∈ xs, x < B64) (h : ∀ i, k ≤ i → xs[i]?.getD 0 = 0) (hn : k = 0 ∨ xs[k - 1]?.getD 0 ≠ 0) : xs.take k = limbs (val xs) := by
  rw [← val_take_of_zeros hk h]
  refine (limbs_val (fun x hx' => hx x (List.mem_of_mem_take hx')) ?_).symm
  rcases hn with rfl | hn
  · exact .inl rfl
  · by_cases h0 : k = 0
    · subst h0; exact .inl rfl
    · right
      rw [List.getLast?_eq_getElem?, List.length_take, Nat.min_eq_left hk, List.getElem?_take, if_pos (by omega)]
      exact hn
theorem length_limbs_le {n k : Nat} (h : n < B64 ^ k) : (limbs n).length ≤ k := by
  induction k generalizing n with
  | zero => have : n = 0 := by simpa using h
            subst this; rw [limbs_zero]; simp
  | succ k ih =>
    by_cases h0 : n = 0
    · subst h0; rw [limbs_zero]; simp
    · rw [limbs_pos h0, List.length_cons]
      have := ih (n := n / B64) (Nat.div_lt_of_lt_mul (by rw [Nat.mul_comm, ← Nat.pow_succ]; exact h))
      omega
theorem lt_of_length_limbs {n k : Nat} (h : (limbs n).length ≤ k) : n < B64 ^ k := by
  have := val_lt (lt_limbs n)
  rw [val_limbs] at this
  exact Nat.lt_of_lt_of_le this (Nat.pow_le_pow_right B64_pos h)

/-- Numbers of k limbs lie below. -/
def topOf (k : Nat) : Nat := B64 ^ k
theorem topOf_iff (n k : Nat) : (limbs n).length ≤ k ↔ n < topOf k := ⟨lt_of_length_limbs, length_limbs_le⟩
/-- Numbers from here on are too long. -/
def Top : Nat := topOf 2048
theorem fits_iff (n : Nat) : (limbs n).length ≤ 2048 ↔ n < Top := topOf_iff n 2048
attribute [irreducible] Top topOf
end Go.Proofs.Ytnecpkoibknacaa
