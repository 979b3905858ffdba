/- Numbers in digits of 32 bits, with no program in sight. -/
import Derived.Test.YtnecpkoibknacaaPlainB
import Derived.Test.YtnecpkoibknacaaPlainD
namespace Go.Proofs.Ytnecpkoibknacaa

/-- The bound of a digit of 32 bits. -/
def B32 : Nat := 4294967296
theorem B32_pos : 0 < B32 := by unfold B32; omega
theorem B64_sq : B64 = B32 * B32 := rfl
theorem B64_pow2 (q : Nat) : B64 ^ q = B32 ^ (2 * q) := by rw [Nat.pow_mul, Nat.pow_two, B64_sq]
theorem B32_two : B32 = 2 ^ 32 := rfl
theorem B32_pow (k : Nat) : B32 ^ k = 2 ^ (32 * k) := by rw [B32_two, ← Nat.pow_mul]
/-- A digit of a number. -/
def dg (m i : Nat) : Nat := m / B32 ^ i % B32
theorem dg_lt (m i : Nat) : dg m i < B32 := Nat.mod_lt _ B32_pos
theorem dg_big {m i : Nat} (h : m < B32 ^ i) : dg m i = 0 := by unfold dg; rw [Nat.div_eq_of_lt h, Nat.zero_mod]
theorem limb_at {xs : List Nat} (h : ∀ x ∈ xs, x < B64) (q : Nat) : xs[q]?.getD 0 = val xs / B64 ^ q % B64 := by
  induction xs generalizing q with
  | nil => simp [val]
  | cons x xs ih =>
    have hx := h x (by simp)
    cases q with
    | zero => simp only [List.getElem?_cons_zero, Option.getD_some, val, Nat.pow_zero, Nat.div_one, Nat.add_mul_mod_self_left]; exact (Nat.mod_eq_of_lt hx).symm
    | succ q =>
      rw [List.getElem?_cons_succ, ih (fun y hy => h y (by simp [hy])), val, Nat.pow_succ, Nat.mul_comm (B64 ^ q), ← Nat.div_div_eq_div_mul]
      congr 2
      rw [Nat.add_mul_div_left _ _ B64_pos, Nat.div_eq_of_lt hx, Nat.zero_add]
theorem digit_dg {xs : List Nat} (h : ∀ x ∈ xs, x < B64) (i : Nat) : (if i % 2 = 0 then xs[i / 2]?.getD 0 % 4294967296 else xs[i / 2]?.getD 0 / 4294967296) = dg (val xs) i := by
  rw [limb_at h, B64_pow2]
  show (if i % 2 = 0 then _ % B32 else _ / B32) = _
  unfold dg
  rw [B64_sq]
  by_cases h2 : i % 2 = 0
  · rw [if_pos h2, show 2 * (i / 2) = i by omega, Nat.mod_mul_right_mod]
  · rw [if_neg h2, Nat.mod_mul_right_div_self, Nat.div_div_eq_div_mul, ← Nat.pow_succ, show (2 * (i / 2)).succ = i by omega]

/-- What digits come to. -/
def dval : List Nat → Nat
  | [] => 0
  | x :: xs => x + B32 * dval xs
theorem dval_append (xs ys : List Nat) : dval (xs ++ ys) = dval xs + B32 ^ xs.length * dval ys := by
  induction xs with
  | nil => simp [dval]
  | cons x xs ih => rw [List.cons_append, dval, dval, ih, List.length_cons, Nat.pow_succ, Nat.mul_add, Nat.add_assoc]; congr 2; rw [← Nat.mul_assoc, Nat.mul_comm B32]
theorem dval_snoc (xs : List Nat) (x : Nat) : dval (xs ++ [x]) = dval xs + B32 ^ xs.length * x := by rw [dval_append]; simp [dval]
theorem dval_zeros (k : Nat) : dval (List.replicate k 0) = 0 := by
  induction k with
  | zero => rfl
  | succ k ih => rw [List.replicate_succ, dval, ih]; simp
theorem dval_set (L : List Nat) (i x : Nat) (hi : i < L.length) : dval (L.set i x) + B32 ^ i * L[i]?.getD 0 = dval L + B32 ^ i * x := by
  induction L generalizing i with
  | nil => simp at hi
  | cons y L ih =>
    cases i with
    | zero => simp [dval]; omega
    | succ i =>
      have := ih i (by simpa using hi)
      rw [List.set_cons_succ, List.getElem?_cons_succ, dval, dval, Nat.pow_succ, Nat.mul_comm (B32 ^ i), Nat.mul_assoc, Nat.mul_assoc, Nat.add_assoc, Nat.add_assoc, ← Nat.mul_add, ← Nat.mul_add, this]
theorem dval_lt {xs : List Nat} (h : ∀ x ∈ xs, x < B32) : dval xs < B32 ^ xs.length := by
  induction xs with
  | nil => simp [dval]
  | cons x xs ih =>
    have h1 := h x (by simp)
    have h2 := ih fun y hy => h y (by simp [hy])
    rw [dval, List.length_cons, Nat.pow_succ]
    have : B32 * (dval xs + 1) ≤ B32 * B32 ^ xs.length := Nat.mul_le_mul_left _ h2
    rw [Nat.mul_comm (B32 ^ xs.length)]
    rw [Nat.mul_add] at this
    omega
/-- The low digits of a number, one more. -/
theorem mod_step (m i : Nat) : m % B32 ^ (i + 1) = m % B32 ^ i + B32 ^ i * dg m i := by
  unfold dg
  rw [Nat.pow_succ, Nat.mod_mul]
theorem mod_big {m i : Nat} (h : m < B32 ^ i) : m % B32 ^ i = m := Nat.mod_eq_of_lt h

/-- The limbs made of digits, so far. -/
def MadeOk (L : List Nat) (j : Nat) (R : List Nat) : Prop :=
  R.length = (L.length + 1) / 2 ∧ (∀ x ∈ R, x < B64) ∧ val R = dval (L.take j) ∧ (∀ q, j ≤ 2 * q → R[q]?.getD 0 = 0) ∧ R[j / 2]?.getD 0 < B32
theorem MadeOk.start (L : List Nat) : MadeOk L 0 (List.replicate ((L.length + 1) / 2) 0) :=
  ⟨by simp, fun x hx => by rw [(List.mem_replicate.1 hx).2]; exact B64_pos, by rw [val_zeros]; rfl, fun q _ => getD_replicate _ _, by rw [getD_replicate]; exact B32_pos⟩
theorem dval_take (L : List Nat) (j : Nat) (hj : j < L.length) : dval (L.take (j + 1)) = dval (L.take j) + B32 ^ j * L[j]?.getD 0 := by
  rw [List.take_add_one, List.getElem?_eq_getElem hj, Option.toList_some, dval_snoc, List.length_take, Nat.min_eq_left (Nat.le_of_lt hj)]
  rfl
theorem MadeOk.even {L : List Nat} {j x : Nat} {R : List Nat} (h : MadeOk L j R) (hj : j < L.length) (he : j % 2 = 0) (hx : L[j]?.getD 0 = x) (hb : x < B32) : MadeOk L (j + 1) (R.set (j / 2) x) := by
  obtain ⟨hl, hlt, hv, hz, hb2⟩ := h
  have h0 := hz (j / 2) (by omega)
  refine ⟨by simp [hl], lt_set hlt (Nat.lt_trans hb (by unfold B32 B64; omega)) _, ?_, fun q hq => ?_, ?_⟩
  · have := val_set R (j / 2) x (by omega)
    rw [h0, Nat.mul_zero, Nat.add_zero, hv, B64_pow2, show 2 * (j / 2) = j by omega] at this
    rw [this, dval_take L j hj, hx]
  · rw [getD_set, if_neg (by omega)]; exact hz q (by omega)
  · rw [getD_set, if_pos ⟨by omega, by omega⟩]; exact hb
theorem MadeOk.odd {L : List Nat} {j x y : Nat} {R : List Nat} (h : MadeOk L j R) (hj : j < L.length) (he : j % 2 = 1) (hx : L[j]?.getD 0 = x) (hb : x < B32) (hy : R[j / 2]?.getD 0 = y) : y + x * 4294967296 < B64 ∧ MadeOk L (j + 1) (R.set (j / 2) (y + x * 4294967296)) := by
  obtain ⟨hl, hlt, hv, hz, hb2⟩ := h
  have hlt2 : y + x * 4294967296 < B64 := by unfold B64; unfold B32 at hb hb2; omega
  refine ⟨hlt2, by simp [hl], lt_set hlt hlt2 _, ?_, fun q hq => ?_, ?_⟩
  · have := val_set R (j / 2) (y + x * 4294967296) (by omega)
    rw [hy, Nat.mul_add, hv, B64_pow2] at this
    have e : B32 ^ (2 * (j / 2)) * (x * 4294967296) = B32 ^ j * x := by
      have e1 : B32 ^ j = B32 ^ (2 * (j / 2)) * B32 := by rw [← Nat.pow_succ]; congr 1; omega
      rw [e1, Nat.mul_assoc]; show _ * (x * B32) = _; rw [Nat.mul_comm x]
    rw [e] at this
    rw [dval_take L j hj, hx]
    omega
  · rw [getD_set, if_neg (by omega)]; exact hz q (by omega)
  · rw [getD_set, if_neg (by omega), hz _ (by omega)]; exact B32_pos
theorem MadeOk.done {L : List Nat} {R : List Nat} (h : MadeOk L L.length R) : val R = dval L := by rw [h.2.2.1, List.take_length]
end Go.Proofs.Ytnecpkoibknacaa
