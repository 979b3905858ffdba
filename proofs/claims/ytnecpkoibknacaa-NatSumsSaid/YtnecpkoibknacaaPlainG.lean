/- Long division: the plain law, and the rows that are cleared and copied over. -/
import Derived.Laws.CopyOwn
import Derived.Lib.SliceRun
import Derived.Test.YtnecpkoibknacaaW17
namespace Go.Proofs.Ytnecpkoibknacaa
open Go.RowKit

theorem splice_two (U R : List Nat) (j n : Nat) (hj : j + n ≤ U.length) (hR : R.length ≤ n) :
    splice (splice U j (List.replicate n 0)) j R = U.take j ++ (R ++ (List.replicate (n - R.length) 0 ++ U.drop (j + n))) := by
  have h1 : (U.take j).length = j := by rw [List.length_take]; omega
  unfold splice
  rw [List.length_replicate]
  generalize hA : U.take j = A at *
  rw [List.take_append_of_le_length (by omega), List.take_of_length_le (by omega)]
  congr 2
  rw [List.drop_append, List.drop_of_length_le (by omega), List.nil_append, h1, show j + R.length - j = R.length by omega, List.drop_append, List.drop_replicate, List.length_replicate, show R.length - n = 0 by omega, List.drop_zero]

/-- What is kept, digit by digit, while X is divided by V (k limbs): j digits are still wanted. -/
structure DivOk (X V k m j : Nat) (U q : List Nat) : Prop where
  lu : U.length = m + 1
  bu : ∀ x ∈ U, x < B64
  lq : q.length = m + 1 - k
  bq : ∀ x ∈ q, x < B64
  sum : val U + V * val q = X
  top : val (U.drop j) < V
  zero : ∀ t, t < j → q[t]?.getD 0 = 0
theorem DivOk.start {x y s k m : Nat} {U : List Nat} (hl : U.length = m + 1) (hb : ∀ x ∈ U, x < B64) (hv : val U = x * 2 ^ s) (hk : k ≤ m) (hk1 : 0 < k) (hx : x < B64 ^ m) (hy : B64 ^ (k - 1) ≤ y) :
    DivOk (x * 2 ^ s) (y * 2 ^ s) k m (m + 1 - k) U (List.replicate (m + 1 - k) 0) := by
  refine ⟨hl, hb, by simp, fun x hx => ?_, by rw [val_zeros, hv]; omega, ?_, fun t _ => getD_replicate _ _⟩
  · rw [(List.mem_replicate.1 hx).2]; exact B64_pos
  · rw [val_drop _ hb _ (by omega), hv]
    apply Nat.div_lt_of_lt_mul
    rw [← Nat.mul_assoc]
    apply Nat.mul_lt_mul_of_pos_right _ (Nat.two_pow_pos s)
    have h1 : B64 ^ (m + 1 - k) * B64 ^ (k - 1) ≤ B64 ^ (m + 1 - k) * y := Nat.mul_le_mul_left _ hy
    rw [← Nat.pow_add, show m + 1 - k + (k - 1) = m by omega] at h1
    omega
theorem val_pos_low {xs : List Nat} {V k : Nat} (hk : k ≤ xs.length) (hV : V < B64 ^ k) (h : val xs < V) : val (xs.drop k) = 0 := by
  rw [val_take_drop xs k hk] at h
  by_cases h0 : val (xs.drop k) = 0
  · exact h0
  · have : B64 ^ k ≤ B64 ^ k * val (xs.drop k) := Nat.le_mul_of_pos_right _ (by omega)
    omega
/-- The part of the number that the next digit is taken from. -/
theorem DivOk.part {X V k m j : Nat} {U q : List Nat} (h : DivOk X V k m (j + 1) U q) (hV : V < B64 ^ k) (hj : j + k < m + 1) :
    ((U.drop j).take (k + 1)).length = k + 1 ∧ val (U.drop j) = val ((U.drop j).take (k + 1)) ∧ val (U.drop (j + (k + 1))) = 0 ∧ val ((U.drop j).take (k + 1)) < B64 * V := by
  have hlu := h.lu
  have h0 := val_pos_low (xs := U.drop (j + 1)) (k := k) (by rw [List.length_drop]; omega) hV h.top
  rw [List.drop_drop, show j + 1 + k = j + (k + 1) by omega] at h0
  have h1 := val_take_drop (U.drop j) (k + 1) (by rw [List.length_drop]; omega)
  rw [List.drop_drop, h0, Nat.mul_zero, Nat.add_zero] at h1
  refine ⟨by rw [List.length_take, List.length_drop]; omega, h1, h0, ?_⟩
  rw [← h1]
  have h2 : val (U.drop j) = U[j] + B64 * val (U.drop (j + 1)) := by rw [List.drop_eq_getElem_cons (by omega : j < U.length), val]
  have h3 := h.bu U[j] (List.getElem_mem _)
  have h4 : B64 * (val (U.drop (j + 1)) + 1) ≤ B64 * V := Nat.mul_le_mul_left _ h.top
  rw [Nat.mul_add] at h4
  omega
theorem DivOk.step {X V k m j : Nat} {U q : List Nat} (h : DivOk X V k m (j + 1) U q) (hV : V < B64 ^ k) (hj : j + k < m + 1) {g : Nat} {R : List Nat} (hg : g * V ≤ val ((U.drop j).take (k + 1))) (hg2 : val ((U.drop j).take (k + 1)) < (g + 1) * V)
    (hgb : g < B64) (hR : val R = val ((U.drop j).take (k + 1)) - g * V) (hRl : R.length ≤ k + 1) (hRb : ∀ x ∈ R, x < B64) :
    DivOk X V k m j (splice (splice U j (List.replicate (k + 1) 0)) j R) (q.set j g) := by
  obtain ⟨p1, p2, p3, p4⟩ := h.part hV hj
  have hlu := h.lu
  have hlq := h.lq
  have e0 := splice_two U R j (k + 1) (by omega) hRl
  have htl : (U.take j).length = j := by rw [List.length_take]; omega
  have e1 : (U.take j ++ (R ++ (List.replicate (k + 1 - R.length) 0 ++ U.drop (j + (k + 1))))).drop j = R ++ (List.replicate (k + 1 - R.length) 0 ++ U.drop (j + (k + 1))) := by
    rw [List.drop_append, List.drop_of_length_le (by omega), htl, Nat.sub_self]; rfl
  have e2 : val (R ++ (List.replicate (k + 1 - R.length) 0 ++ U.drop (j + (k + 1)))) = val R := by
    rw [val_append, val_append, val_zeros, p3]; simp
  have e3 := val_take_drop U j (by omega)
  have e4 := val_set q j g (by omega)
  rw [h.zero j (by omega), Nat.mul_zero, Nat.add_zero] at e4
  rw [e0]
  refine ⟨?_, ?_, by simp [h.lq], lt_set h.bq hgb _, ?_, ?_, fun t ht => ?_⟩
  · simp only [List.length_append, List.length_replicate, List.length_drop, htl]; omega
  · intro x hx
    rcases List.mem_append.1 hx with hx | hx
    · exact h.bu x (List.mem_of_mem_take hx)
    · rcases List.mem_append.1 hx with hx | hx
      · exact hRb x hx
      · rcases List.mem_append.1 hx with hx | hx
        · rw [(List.mem_replicate.1 hx).2]; exact B64_pos
        · exact h.bu x (List.mem_of_mem_drop hx)
  · rw [val_append, htl, e2, e4, Nat.mul_add, Nat.mul_left_comm, hR, Nat.mul_comm V g, ← h.sum, e3, p2]
    have : B64 ^ j * (val ((U.drop j).take (k + 1)) - g * V) + B64 ^ j * (g * V) = B64 ^ j * val ((U.drop j).take (k + 1)) := by
      rw [← Nat.mul_add]; congr 1; omega
    omega
  · rw [e1, e2, hR]
    rw [Nat.add_mul] at hg2
    omega
  · rw [getD_set, if_neg (by omega)]; exact h.zero t (by omega)
theorem DivOk.done {x y s k m : Nat} {U q : List Nat} (h : DivOk (x * 2 ^ s) (y * 2 ^ s) k m 0 U q) (hy : 0 < y) : val q = x / y ∧ val U / 2 ^ s = x % y ∧ val U < y * 2 ^ s := by
  have ht := h.top
  rw [List.drop_zero] at ht
  have hp := Nat.two_pow_pos s
  have hV : 0 < y * 2 ^ s := Nat.mul_pos hy hp
  have e : x * 2 ^ s = (y * 2 ^ s) * val q + val U := by rw [← h.sum]; omega
  refine ⟨?_, ?_, ht⟩
  · have : x * 2 ^ s / (y * 2 ^ s) = val q := by rw [e, Nat.mul_add_div hV, Nat.div_eq_of_lt ht, Nat.add_zero]
    rw [Nat.mul_div_mul_right _ _ hp] at this
    exact this.symm
  · have : x * 2 ^ s % (y * 2 ^ s) = val U := by rw [e, Nat.mul_add_mod, Nat.mod_eq_of_lt ht]
    rw [Nat.mul_mod_mul_right] at this
    rw [← this, Nat.mul_div_cancel _ hp]
/-- The digit that is wanted is no greater than what its three upper limbs allow. -/
theorem guess_need {vs ps : List Nat} {c Q : Nat} (hv : vs.length = c + 2) (hp : ps.length = c + 3) (hb : ∀ x ∈ ps, x < B64) (h : Q * val vs ≤ val ps) :
    Q * (vs[c + 1]?.getD 0 * B64 + vs[c]?.getD 0) ≤ (ps[c + 2]?.getD 0 * B64 + ps[c + 1]?.getD 0) * B64 + ps[c]?.getD 0 := by
  rw [← pv_add vs (c + 2) (by omega), ← pv_add ps (c + 3) (by omega), pv, pv, pv, pv, pv] at h
  have hl := pv_lt hb c
  have hpos := pow_pos' c
  generalize vs[c + 1]?.getD 0 = t at *
  generalize vs[c]?.getD 0 = n at *
  generalize ps[c + 2]?.getD 0 = a at *
  generalize ps[c + 1]?.getD 0 = b at *
  generalize ps[c]?.getD 0 = d at *
  have h1 : B64 ^ c * (Q * (t * B64 + n)) ≤ Q * (pv vs c + B64 ^ c * n + B64 ^ (c + 1) * t) := by
    rw [Nat.mul_left_comm]
    apply Nat.mul_le_mul_left
    rw [Nat.mul_add, Nat.pow_succ, Nat.mul_assoc, Nat.mul_comm t B64]; omega
  have h2 : pv ps c + B64 ^ c * d + B64 ^ (c + 1) * b + B64 ^ (c + 2) * a < B64 ^ c * ((a * B64 + b) * B64 + d + 1) := by
    have e1 : B64 ^ (c + 2) * a = B64 ^ c * (a * B64 * B64) := by rw [Nat.pow_succ, Nat.pow_succ, Nat.mul_assoc, Nat.mul_assoc, Nat.mul_comm a, ← Nat.mul_assoc B64 B64, Nat.mul_comm (B64 * a) B64, ← Nat.mul_assoc B64 B64 a]
    have e2 : B64 ^ (c + 1) * b = B64 ^ c * (b * B64) := by rw [Nat.pow_succ, Nat.mul_assoc, Nat.mul_comm B64 b]
    rw [e1, e2, Nat.mul_add, Nat.mul_add, Nat.mul_one, Nat.add_mul, Nat.mul_add]; omega
  have h3 := Nat.lt_of_le_of_lt h1 (Nat.lt_of_le_of_lt h h2)
  have := Nat.lt_of_mul_lt_mul_left h3
  omega
end Go.Proofs.Ytnecpkoibknacaa
