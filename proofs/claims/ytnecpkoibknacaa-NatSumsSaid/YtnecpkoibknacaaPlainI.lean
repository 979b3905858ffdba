/- The whole root, by Newton's steps. -/
import Derived.Test.YtnecpkoibknacaaPlainC
namespace Go.Proofs.Ytnecpkoibknacaa

/-- r is the whole root of a. -/
def IsRoot (a r : Nat) : Prop := r * r ≤ a ∧ a < (r + 1) * (r + 1)
theorem IsRoot.unique {a r s : Nat} (h : IsRoot a r) (k : IsRoot a s) : r = s := by
  by_cases h1 : r < s
  · have := Nat.mul_le_mul (show r + 1 ≤ s by omega) (show r + 1 ≤ s by omega)
    have := h.2; have := k.1; omega
  · by_cases h2 : s < r
    · have := Nat.mul_le_mul (show s + 1 ≤ r by omega) (show s + 1 ≤ r by omega)
      have := h.1; have := k.2; omega
    · omega
theorem root_quo {a x : Nat} (hx : 0 < x) (h : a < (x + 1) * (x + 1)) : a / x ≤ x + 2 := by
  have h1 : a < (x + 3) * x := by
    rw [Nat.add_mul, Nat.mul_add] at h
    rw [Nat.add_mul]; omega
  have := (Nat.div_lt_iff_lt_mul hx).2 h1
  omega
/-- A step of Newton's stays at or above the root. -/
theorem root_step {a x : Nat} (hx : 0 < x) : a < ((x + a / x) / 2 + 1) * ((x + a / x) / 2 + 1) := by
  have h1 := Nat.div_add_mod a x
  have h2 := Nat.mod_lt a hx
  generalize a / x = q at *
  have h3 : a + 1 ≤ x * (q + 1) := by rw [Nat.mul_add]; omega
  obtain ⟨y, hy⟩ : ∃ y, (x + q) / 2 = y := ⟨_, rfl⟩
  rw [hy]
  -- x + (q + 1) ≤ 2 (y + 1)
  have h4 : x + (q + 1) ≤ 2 * (y + 1) := by omega
  have h5 : 4 * (x * (q + 1)) ≤ (x + (q + 1)) * (x + (q + 1)) := by
    generalize q + 1 = z
    rcases Nat.le_total x z with h | h
    · obtain ⟨d, rfl⟩ : ∃ d, z = x + d := ⟨z - x, by omega⟩
      have e1 : (x + (x + d)) * (x + (x + d)) = 4 * (x * (x + d)) + d * d := by
        simp only [Nat.add_mul, Nat.mul_add, Nat.mul_comm d x]; omega
      omega
    · obtain ⟨d, rfl⟩ : ∃ d, x = z + d := ⟨x - z, by omega⟩
      have e1 : (z + d + z) * (z + d + z) = 4 * ((z + d) * z) + d * d := by
        simp only [Nat.add_mul, Nat.mul_add, Nat.mul_comm d z]; omega
      omega
  have h6 : (x + (q + 1)) * (x + (q + 1)) ≤ (2 * (y + 1)) * (2 * (y + 1)) := Nat.mul_le_mul h4 h4
  have h7 : (2 * (y + 1)) * (2 * (y + 1)) = 4 * ((y + 1) * (y + 1)) := by
    generalize y + 1 = z
    rw [Nat.mul_assoc, Nat.mul_left_comm z 2 z]; omega
  omega
theorem root_stop {a x : Nat} (hx : 0 < x) (h : a < (x + 1) * (x + 1)) (hy : x ≤ (x + a / x) / 2) : IsRoot a x := by
  refine ⟨?_, h⟩
  have h1 : x ≤ a / x := by omega
  have := (Nat.le_div_iff_mul_le hx).1 h1
  exact this
theorem root_start {a : Nat} : a < (2 ^ ((blen a + 1) / 2) + 1) * (2 ^ ((blen a + 1) / 2) + 1) := by
  have h1 := lt_blen a
  have h2 : 2 ^ blen a ≤ 2 ^ ((blen a + 1) / 2) * 2 ^ ((blen a + 1) / 2) := by
    rw [← Nat.pow_add]; exact Nat.pow_le_pow_right (by omega) (by omega)
  have h3 : 2 ^ ((blen a + 1) / 2) * 2 ^ ((blen a + 1) / 2) ≤ (2 ^ ((blen a + 1) / 2) + 1) * (2 ^ ((blen a + 1) / 2) + 1) := Nat.mul_le_mul (Nat.le_succ _) (Nat.le_succ _)
  omega
theorem root_pos {a x : Nat} (ha : a ≠ 0) (h : a < (x + 1) * (x + 1)) : 0 < x := by
  by_cases h0 : x = 0
  · subst h0; omega
  · omega
end Go.Proofs.Ytnecpkoibknacaa
