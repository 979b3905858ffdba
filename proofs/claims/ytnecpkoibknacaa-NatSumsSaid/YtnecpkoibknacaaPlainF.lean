/- Products, limb by limb. -/
import Derived.Test.YtnecpkoibknacaaPlainE
namespace Go.Proofs.Ytnecpkoibknacaa

/-- The limbs that one product of two limbs comes to, a limb and a carry added. -/
structure MStep (x y o c hi lo c1 l1 c2 l2 : Nat) : Prop where
  ehi : x * y / 18446744073709551616 = hi
  elo : x * y % 18446744073709551616 = lo
  el1 : (lo + o) % B64 = l1
  ec1 : (lo + o) / B64 = c1
  el2 : (l1 + c) % B64 = l2
  ec2 : (l1 + c) / B64 = c2
  bhi : hi + c1 + c2 < B64
  blo : lo < B64
  bl1 : l1 < B64
  bl2 : l2 < B64
  all : x * y + o + c = B64 * (hi + c1 + c2) + l2
theorem mstep_of {x y o c : Nat} (hx : x < B64) (hy : y < B64) (ho : o < B64) (hc : c < B64) : ∃ hi lo c1 l1 c2 l2, MStep x y o c hi lo c1 l1 c2 l2 := by
  refine ⟨_, _, _, _, _, _, rfl, rfl, rfl, rfl, rfl, rfl, ?_, Nat.mod_lt _ B64_pos, Nat.mod_lt _ B64_pos, Nat.mod_lt _ B64_pos, ?_⟩
  · have h1 : x * y ≤ (B64 - 1) * (B64 - 1) := Nat.mul_le_mul (by omega) (by omega)
    have h2 : (B64 - 1) * (B64 - 1) = 340282366920938463426481119284349108225 := by rfl
    unfold B64 at *
    omega
  · unfold B64
    omega
structure TStep (x y c hi lo c2 l2 : Nat) : Prop where
  ehi : x * y / 18446744073709551616 = hi
  elo : x * y % 18446744073709551616 = lo
  el2 : (lo + c) % B64 = l2
  ec2 : (lo + c) / B64 = c2
  bhi : hi + c2 < B64
  blo : lo < B64
  bl2 : l2 < B64
  all : x * y + c = B64 * (hi + c2) + l2
theorem tstep_of {x y c : Nat} (hx : x < B64) (hy : y < B64) (hc : c < B64) : ∃ hi lo c2 l2, TStep x y c hi lo c2 l2 := by
  refine ⟨_, _, _, _, rfl, rfl, rfl, rfl, ?_, Nat.mod_lt _ B64_pos, Nat.mod_lt _ B64_pos, ?_⟩
  · have h1 : x * y ≤ (B64 - 1) * (B64 - 1) := Nat.mul_le_mul (by omega) (by omega)
    have h2 : (B64 - 1) * (B64 - 1) = 340282366920938463426481119284349108225 := by rfl
    unfold B64 at *
    omega
  · unfold B64
    omega

/-- What is kept, round by round, while a number is multiplied by one limb. -/
def TimesOk (xs : List Nat) (g j carry : Nat) (L : List Nat) : Prop :=
  L.length = xs.length + 1 ∧ (∀ x ∈ L, x < B64) ∧ carry < B64 ∧ val L + B64 ^ j * carry = pv xs j * g ∧ ∀ i, j ≤ i → L[i]?.getD 0 = 0
theorem TimesOk.start (xs : List Nat) (g : Nat) : TimesOk xs g 0 0 (List.replicate (xs.length + 1) 0) := by
  refine ⟨by simp, fun x hx => ?_, B64_pos, by rw [val_zeros, pv]; simp, fun i _ => getD_replicate _ _⟩
  rw [(List.mem_replicate.1 hx).2]; exact B64_pos
theorem TimesOk.step {xs : List Nat} {g j carry x hi lo c2 l2 : Nat} {L : List Nat} (h : TimesOk xs g j carry L) (hj : j < xs.length) (hx : xs[j]?.getD 0 = x) (m : TStep x g carry hi lo c2 l2) :
    TimesOk xs g (j + 1) (hi + c2) (L.set j l2) := by
  obtain ⟨hl, hlt, hc, hv, hz⟩ := h
  have h1 := val_set L j l2 (by omega)
  rw [hz j (Nat.le_refl _), Nat.mul_zero, Nat.add_zero] at h1
  refine ⟨by simp [hl], lt_set hlt m.bl2 _, m.bhi, ?_, fun i hi => ?_⟩
  · have e := congrArg (B64 ^ j * ·) m.all
    simp only [Nat.mul_add] at e
    rw [h1, pv, hx, Nat.add_mul, ← hv, Nat.pow_succ, Nat.mul_assoc (B64 ^ j) x g, Nat.mul_assoc (B64 ^ j) B64, Nat.mul_add, Nat.mul_add]
    omega
  · rw [getD_set, if_neg (by omega)]; exact hz i (by omega)
theorem TimesOk.last {xs : List Nat} {g carry : Nat} {L : List Nat} (h : TimesOk xs g xs.length carry L) : (L.set xs.length carry).length = xs.length + 1 ∧ (∀ x ∈ L.set xs.length carry, x < B64) ∧ val (L.set xs.length carry) = val xs * g := by
  obtain ⟨hl, hlt, hc, hv, hz⟩ := h
  have h1 := val_set L xs.length carry (by omega)
  rw [hz _ (Nat.le_refl _), Nat.mul_zero, Nat.add_zero, hv, pv_add _ _ (Nat.le_refl _)] at h1
  exact ⟨by simp [hl], lt_set hlt hc _, h1⟩

/-- What is kept while two numbers are multiplied: i rows are done; of the next one, k limbs. -/
def MulOk (xs ys : List Nat) (i k carry : Nat) (L : List Nat) : Prop :=
  L.length = xs.length + ys.length ∧ (∀ x ∈ L, x < B64) ∧ carry < B64 ∧ val L + B64 ^ (i + k) * carry = pv xs i * val ys + B64 ^ i * (xs[i]?.getD 0 * pv ys k) ∧ ∀ t, i + ys.length ≤ t → L[t]?.getD 0 = 0
theorem MulOk.start (xs ys : List Nat) : MulOk xs ys 0 0 0 (List.replicate (xs.length + ys.length) 0) := by
  refine ⟨by simp, fun x hx => ?_, B64_pos, by rw [val_zeros, pv, pv]; simp, fun i _ => getD_replicate _ _⟩
  rw [(List.mem_replicate.1 hx).2]; exact B64_pos
theorem MulOk.step {xs ys : List Nat} {i k carry x y hi lo c1 l1 c2 l2 : Nat} {L : List Nat} (h : MulOk xs ys i k carry L) (hi' : i < xs.length) (hk : k < ys.length) (hx : xs[i]?.getD 0 = x) (hy : ys[k]?.getD 0 = y)
    (m : MStep x y (L[i + k]?.getD 0) carry hi lo c1 l1 c2 l2) : MulOk xs ys i (k + 1) (hi + c1 + c2) (L.set (i + k) l2) := by
  obtain ⟨hl, hlt, hc, hv, hz⟩ := h
  have h1 := val_set L (i + k) l2 (by omega)
  refine ⟨by simp [hl], lt_set hlt m.bl2 _, m.bhi, ?_, fun t ht => ?_⟩
  · have e := congrArg (B64 ^ (i + k) * ·) m.all
    simp only [Nat.mul_add] at e
    rw [hx] at hv ⊢
    rw [pv, hy, ← Nat.add_assoc i k 1, Nat.pow_succ, Nat.mul_assoc (B64 ^ (i + k)) B64, Nat.mul_add x, Nat.mul_add (B64 ^ i), ← Nat.add_assoc, ← hv, Nat.mul_left_comm x, ← Nat.mul_assoc (B64 ^ i), ← Nat.pow_add, Nat.mul_add B64, Nat.mul_add B64, Nat.mul_add (B64 ^ (i + k)), Nat.mul_add (B64 ^ (i + k))]
    omega
  · rw [getD_set, if_neg (by omega)]; exact hz t ht
theorem MulOk.next {xs ys : List Nat} {i carry : Nat} {L : List Nat} (h : MulOk xs ys i ys.length carry L) (hi : i < xs.length) : MulOk xs ys (i + 1) 0 0 (L.set (i + ys.length) carry) := by
  obtain ⟨hl, hlt, hc, hv, hz⟩ := h
  have h1 := val_set L (i + ys.length) carry (by omega)
  rw [hz _ (Nat.le_refl _), Nat.mul_zero, Nat.add_zero, hv, pv_add _ _ (Nat.le_refl _)] at h1
  refine ⟨by simp [hl], lt_set hlt hc _, B64_pos, ?_, fun t ht => ?_⟩
  · rw [h1, pv, pv, Nat.add_mul, Nat.mul_zero, Nat.mul_zero, Nat.mul_zero, Nat.mul_assoc]
  · rw [getD_set, if_neg (by omega)]; exact hz t (by omega)
theorem MulOk.last {xs ys : List Nat} {carry : Nat} {L : List Nat} (h : MulOk xs ys xs.length 0 carry L) (hc0 : carry = 0) : L.length = xs.length + ys.length ∧ (∀ x ∈ L, x < B64) ∧ val L = val xs * val ys := by
  obtain ⟨hl, hlt, hc, hv, hz⟩ := h
  refine ⟨hl, hlt, ?_⟩
  rw [hc0, pv_add _ _ (Nat.le_refl _), pv] at hv
  simpa using hv
end Go.Proofs.Ytnecpkoibknacaa
