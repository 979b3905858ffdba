/- Decimal digits. -/
import Derived.Test.YtnecpkoibknacaaPlainC
namespace Go.Proofs.Ytnecpkoibknacaa

/-- The decimal digits of n as bytes, the last one ahead; none for 0. -/
def rdig (n : Nat) : List Nat := if h : n = 0 then [] else (48 + n % 10) :: rdig (n / 10)
termination_by n
decreasing_by omega
theorem rdig_zero : rdig 0 = [] := by rw [rdig]; simp
theorem rdig_pos {n : Nat} (h : n ≠ 0) : rdig n = (48 + n % 10) :: rdig (n / 10) := by rw [rdig, dif_neg h]
theorem rdig_lt (n : Nat) : ∀ x ∈ rdig n, 48 ≤ x ∧ x < 58 := by
  induction n using Nat.strongRecOn with
  | _ n ih =>
    by_cases h : n = 0
    · subst h; rw [rdig_zero]; intro x hx; cases hx
    · rw [rdig_pos h]
      intro x hx
      rcases List.mem_cons.1 hx with rfl | hx
      · omega
      · exact ih (n / 10) (by omega) x hx
theorem rdig_len {n k : Nat} (h : n < 2 ^ k) : (rdig n).length ≤ k := by
  induction k generalizing n with
  | zero => have : n = 0 := by simpa using h
            subst this; rw [rdig_zero]; simp
  | succ k ih =>
    by_cases h0 : n = 0
    · subst h0; rw [rdig_zero]; simp
    · rw [rdig_pos h0, List.length_cons]
      have := ih (n := n / 10) (by rw [Nat.pow_succ] at h; omega)
      omega
/-- The bytes as a string. -/
def txt (l : List Nat) : ByteArray := ⟨(l.map UInt8.ofNat).toArray⟩
/-- The decimal text of a number. -/
def decT (n : Nat) : List Nat := if n = 0 then [48] else (rdig n).reverse

/-- What is kept while a group of 19 digits is laid: q above it, r of it left, k places to go. -/
def GroupOk (N q r k : Nat) (D : List Nat) : Prop := D ++ rdig (q * 10 ^ k + r) = rdig N ∧ r < 10 ^ k
theorem GroupOk.start {N A : Nat} {D : List Nat} (h : D ++ rdig A = rdig N) : GroupOk N (A / 10000000000000000000) (A % 10000000000000000000) 19 D := by
  refine ⟨?_, Nat.mod_lt _ (by omega)⟩
  have := Nat.div_add_mod A 10000000000000000000
  rw [show (10 : Nat) ^ 19 = 10000000000000000000 from rfl, Nat.mul_comm, this]; exact h
theorem GroupOk.step {N q r k : Nat} {D : List Nat} (h : GroupOk N q r (k + 1) D) (hn : 0 < r ∨ 0 < q) : GroupOk N q (r / 10) k (D ++ [48 + r % 10]) := by
  obtain ⟨h1, h2⟩ := h
  have e : q * 10 ^ (k + 1) + r = 10 * (q * 10 ^ k) + r := by rw [Nat.pow_succ, Nat.mul_comm (10 ^ k), Nat.mul_left_comm]
  have hp : 0 < 10 ^ k := Nat.pow_pos (by omega)
  have h0 : q * 10 ^ (k + 1) + r ≠ 0 := by
    rw [e]
    rcases hn with h | h
    · omega
    · have := Nat.mul_pos h hp; omega
  refine ⟨?_, by rw [Nat.pow_succ] at h2; omega⟩
  rw [rdig_pos h0, e] at h1
  rw [← h1, List.append_assoc, List.singleton_append]
  congr 2
  · omega
  · congr 1; omega
theorem GroupOk.done {N q r k : Nat} {D : List Nat} (h : GroupOk N q r k D) (hk : k = 0 ∨ r = 0 ∧ q = 0) : D ++ rdig q = rdig N := by
  obtain ⟨h1, h2⟩ := h
  rcases hk with rfl | ⟨rfl, rfl⟩
  · have : r = 0 := by simpa using h2
    subst this
    simpa using h1
  · simpa using h1
theorem GroupOk.len {N q r k : Nat} {D : List Nat} (h : GroupOk N q r k D) : D.length ≤ (rdig N).length := by
  rw [← h.1, List.length_append]; omega
end Go.Proofs.Ytnecpkoibknacaa
