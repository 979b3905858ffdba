/- Long division: the divisor, shifted up. -/
import Derived.Test.YtnecpkoibknacaaPlainG
namespace Go.Proofs.Ytnecpkoibknacaa

theorem blen_pos {n : Nat} (h : n ≠ 0) : 0 < blen n := by
  by_cases h0 : blen n = 0
  · have := lt_blen n; rw [h0] at this; simp at this; omega
  · omega
structure Norm (y k s : Nat) : Prop where
  hs : s < 64
  lt : y * 2 ^ s < B64 ^ k
  len : (limbs (y * 2 ^ s)).length = k
  top : 9223372036854775808 ≤ (limbs (y * 2 ^ s))[k - 1]?.getD 0
  low : B64 ^ (k - 1) ≤ y
theorem norm_of {y k : Nat} (hy : y ≠ 0) (hk : (limbs y).length = k) : Norm y k (64 - blen ((limbs y)[k - 1]?.getD 0)) ∧ 64 - blen ((limbs y)[k - 1]?.getD 0) + blen ((limbs y)[k - 1]?.getD 0) = 64 := by
  have hk0 := length_limbs_pos hy
  rw [hk] at hk0
  obtain ⟨xs, t, e, h0, hb, _⟩ := limbs_last hy
  have hbl := blen_limbs hy
  rw [hk] at hbl
  have ht : (limbs y)[k - 1]?.getD 0 = t := by
    have hl : xs.length + 1 = k := by rw [← hk, e]; simp
    rw [e, ← hl, Nat.add_sub_cancel, List.getElem?_append_right (Nat.le_refl _), Nat.sub_self]; rfl
  rw [ht] at hbl ⊢
  have h64 : blen t ≤ 64 := (blen_iff t 64).1 (by rw [← B64_two]; exact hb)
  have hpos := blen_pos h0
  have hy1 := lt_blen y
  have hy2 := pow_blen hy
  have hbp := blen_pos hy
  obtain ⟨s, hs⟩ : ∃ s, 64 - blen t = s := ⟨_, rfl⟩
  rw [hs]
  have hV1 : y * 2 ^ s < B64 ^ k := by
    have : y * 2 ^ s < 2 ^ blen y * 2 ^ s := Nat.mul_lt_mul_of_pos_right hy1 (Nat.two_pow_pos s)
    rw [← Nat.pow_add, hbl, show 64 * (k - 1) + blen t + s = 64 * k by omega, ← B64_pow] at this
    exact this
  have hV2 : 2 ^ (64 * (k - 1) + 63) ≤ y * 2 ^ s := by
    have : 2 ^ (blen y - 1) * 2 ^ s ≤ y * 2 ^ s := Nat.mul_le_mul_right _ hy2
    rw [← Nat.pow_add, hbl, show 64 * (k - 1) + blen t - 1 + s = 64 * (k - 1) + 63 by omega] at this
    exact this
  have hlow : B64 ^ (k - 1) ≤ y := by
    rw [B64_pow]
    exact Nat.le_trans (Nat.pow_le_pow_right (by omega) (by omega)) hy2
  have hlen : (limbs (y * 2 ^ s)).length = k := by
    have h1 := length_limbs_le hV1
    by_cases h2 : (limbs (y * 2 ^ s)).length = k
    · exact h2
    · have h3 := lt_of_length_limbs (n := y * 2 ^ s) (k := k - 1) (by omega)
      rw [B64_pow] at h3
      have : (2 : Nat) ^ (64 * (k - 1)) ≤ 2 ^ (64 * (k - 1) + 63) := Nat.pow_le_pow_right (by omega) (by omega)
      omega
  refine ⟨⟨by omega, hV1, hlen, ?_, hlow⟩, by omega⟩
  have h1 := val_limbs (y * 2 ^ s)
  have hlt := lt_limbs (y * 2 ^ s)
  have h2 := pv_add (limbs (y * 2 ^ s)) k (by omega)
  rw [h1] at h2
  obtain ⟨j, rfl⟩ : ∃ j, k = j + 1 := ⟨k - 1, by omega⟩
  rw [pv] at h2
  have h3 := pv_lt hlt j
  rw [Nat.add_sub_cancel] at hV2 ⊢
  generalize (limbs (y * 2 ^ s))[j]?.getD 0 = u at *
  rw [Nat.pow_add, ← B64_pow, ← h2] at hV2
  have h4 : B64 ^ j * 2 ^ 63 < B64 ^ j * (u + 1) := by rw [Nat.mul_add]; omega
  have := Nat.lt_of_mul_lt_mul_left h4
  omega
/-- The guess is no smaller than the digit. -/
theorem guess_ge {X V k m j k0 i j1 j0 k1 g t nx : Nat} {U q vs : List Nat} (h : DivOk X V k m (j + 1) U q) (hV : V < B64 ^ k) (hj : i = j + k) (him : i < m + 1) (hk : k = k0 + 2) (hk1 : k = k1 + 1) (hi1 : i = j1 + 1) (hi0 : i = j0 + 2) (hvl : vs.length = k) (hvv : val vs = V)
    (ht : vs[k1]?.getD 0 = t) (hn : vs[k0]?.getD 0 = nx)
    (hg : ∀ Q, Q < B64 → Q * (t * B64 + nx) ≤ (U[i]?.getD 0 * B64 + U[j1]?.getD 0) * B64 + U[j0]?.getD 0 → Q ≤ g) : val ((U.drop j).take (k + 1)) / V ≤ g := by
  obtain ⟨p1, _, _, p4⟩ := h.part hV (by omega)
  have hpb : ∀ x ∈ (U.drop j).take (k + 1), x < B64 := fun x hx => h.bu x (List.mem_of_mem_drop (List.mem_of_mem_take hx))
  have hV0 : 0 < V := by have := h.top; omega
  have hQ : val ((U.drop j).take (k + 1)) / V < B64 := (Nat.div_lt_iff_lt_mul hV0).2 p4
  refine hg _ hQ ?_
  have e : ∀ a, a < k + 1 → ((U.drop j).take (k + 1))[a]?.getD 0 = U[j + a]?.getD 0 := fun a ha => by rw [List.getElem?_take_of_lt ha, List.getElem?_drop]
  have := guess_need (vs := vs) (ps := (U.drop j).take (k + 1)) (c := k0) (Q := val ((U.drop j).take (k + 1)) / V) (by omega) (by omega) hpb (by rw [hvv]; exact Nat.div_mul_le_self _ _)
  rw [e _ (by omega), e _ (by omega), e _ (by omega), show k0 + 1 = k1 by omega, ht, hn, show j + (k0 + 2) = i by omega, show j + k1 = j1 by omega, show j + k0 = j0 by omega] at this
  exact this
theorem cmp_le {V g P : Nat} (hle : g * V ≤ P) : cmpN (val (limbs (V * g))) P ≤ 0 := by
  rw [val_limbs, Nat.mul_comm]; unfold cmpN; split
  · omega
  · rw [if_neg (by omega)]; omega
theorem cmp_gt {V g P : Nat} (hle : ¬ g * V ≤ P) : ¬ cmpN (val (limbs (V * g))) P ≤ 0 := by
  rw [val_limbs, Nat.mul_comm]; unfold cmpN; rw [if_neg (by omega), if_pos (by omega)]; omega
theorem le_quo {V g P : Nat} (hV : 0 < V) : g * V ≤ P ↔ g ≤ P / V := (Nat.le_div_iff_mul_le hV).symm
end Go.Proofs.Ytnecpkoibknacaa
