/- Sums, differences, shifts and products in digits of 32 bits. -/
import Derived.Test.YtnecpkoibknacaaPlainK
namespace Go.Proofs.Ytnecpkoibknacaa

/-- Digits so far, what is carried, and what both come to. -/
structure Carry (L : List Nat) (i c T : Nat) : Prop where
  len : L.length = i
  lt : ∀ x ∈ L, x < B32
  eq : dval L + B32 ^ i * c = T
theorem lt_snoc {L : List Nat} {x B : Nat} (h : ∀ y ∈ L, y < B) (hx : x < B) : ∀ y ∈ L ++ [x], y < B := by
  intro y hy
  rcases List.mem_append.1 hy with hy | hy
  · exact h y hy
  · rw [List.mem_singleton.1 hy]; exact hx
theorem Carry.step {L : List Nat} {i c T T' : Nat} (t s : Nat) (h : Carry L i c T) (hs : s = t + c) (hT : T' = T + B32 ^ i * t) : Carry (L ++ [s % B32]) (i + 1) (s / B32) T' := by
  refine ⟨by simp [h.len], lt_snoc h.lt (Nat.mod_lt _ B32_pos), ?_⟩
  rw [dval_snoc, h.len, Nat.pow_succ, Nat.mul_assoc, Nat.add_assoc, ← Nat.mul_add, Nat.mod_add_div, hs, hT, ← h.eq, Nat.mul_add]
  omega
theorem Carry.done {L : List Nat} {i c T : Nat} (h : Carry L i c T) (hT : T < B32 ^ i) : dval L = T ∧ c = 0 := by
  have := h.eq
  have hc : c = 0 := by
    by_cases h0 : c = 0
    · exact h0
    · have : B32 ^ i * 1 ≤ B32 ^ i * c := Nat.mul_le_mul_left _ (by omega)
      omega
  subst hc
  exact ⟨by omega, rfl⟩

def addT (m n i : Nat) : Nat := m % B32 ^ i + n % B32 ^ i
theorem addT_zero (m n : Nat) : addT m n 0 = 0 := by simp [addT, Nat.mod_one]
theorem addT_step (m n i : Nat) : addT m n (i + 1) = addT m n i + B32 ^ i * (dg m i + dg n i) := by unfold addT; rw [mod_step, mod_step, Nat.mul_add]; omega
theorem addT_done {m n k : Nat} (hm : m < B32 ^ k) (hn : n < B32 ^ k) : addT m n (k + 1) = m + n ∧ m + n < B32 ^ (k + 1) := by
  have h2 : B32 ^ k * 2 ≤ B32 ^ k * B32 := Nat.mul_le_mul_left _ (by unfold B32; omega)
  have e : B32 ^ (k + 1) = B32 ^ k * B32 := Nat.pow_succ ..
  unfold addT
  rw [mod_big (by omega), mod_big (by omega)]
  exact ⟨rfl, by omega⟩

def shlT (m q r i : Nat) : Nat := B32 ^ q * (m % B32 ^ i * 2 ^ r)
theorem shlT_step (m q r i : Nat) : shlT m q r (i + 1) = shlT m q r i + B32 ^ (q + i) * (dg m i * 2 ^ r) := by
  unfold shlT
  rw [mod_step, Nat.add_mul, Nat.mul_add, Nat.pow_add]
  congr 1
  simp only [Nat.mul_assoc]
theorem shl_split (q r n : Nat) (h : 32 * q + r = n) : 2 ^ n = B32 ^ q * 2 ^ r := by rw [← h, Nat.pow_add, B32_pow]
theorem shlT_done {m q r k : Nat} (hm : m < B32 ^ k) (hr : r < 32) : shlT m q r (k + 1) = m * (B32 ^ q * 2 ^ r) ∧ shlT m q r (k + 1) < B32 ^ (q + (k + 1)) := by
  have e : shlT m q r (k + 1) = B32 ^ q * (m * 2 ^ r) := by
    unfold shlT
    rw [mod_big (Nat.lt_of_lt_of_le hm (Nat.pow_le_pow_right B32_pos (by omega)))]
  refine ⟨by rw [e, Nat.mul_left_comm], ?_⟩
  rw [e, Nat.pow_add]
  apply Nat.mul_lt_mul_of_pos_left _ (Nat.pow_pos B32_pos)
  rw [Nat.pow_succ]
  exact Nat.mul_lt_mul_of_lt_of_le hm (by rw [B32_two]; exact Nat.pow_le_pow_right (by omega) (by omega)) B32_pos

/-- Digits so far of a difference. -/
structure Borrow (m n i : Nat) (L : List Nat) (c : Nat) : Prop where
  len : L.length = i
  lt : ∀ x ∈ L, x < B32
  c1 : c ≤ 1
  eq : dval L + n % B32 ^ i = m % B32 ^ i + B32 ^ i * c
theorem Borrow.start (m n : Nat) : Borrow m n 0 [] 0 := ⟨rfl, by simp, by omega, by simp [dval, Nat.mod_one]⟩
theorem Borrow.step {m n i c d : Nat} {L : List Nat} (h : Borrow m n i L c) (hd : d + dg n i + c = B32 + dg m i) : d / B32 ≤ 1 ∧ Borrow m n (i + 1) (L ++ [d % B32]) (1 - d / B32) := by
  have h1 := dg_lt m i
  have h2 := dg_lt n i
  have hc := h.c1
  have hq : d / B32 ≤ 1 := by
    have : d < B32 * 2 := by omega
    have := (Nat.div_lt_iff_lt_mul B32_pos).2 (show d < 2 * B32 by omega)
    omega
  refine ⟨hq, by simp [h.len], lt_snoc h.lt (Nat.mod_lt _ B32_pos), Nat.sub_le _ _, ?_⟩
  rw [dval_snoc, h.len, mod_step, mod_step, Nat.pow_succ]
  have hdm := Nat.mod_add_div d B32
  generalize d % B32 = u at *
  generalize d / B32 = t at *
  have key : u + dg n i + c = dg m i + B32 * (1 - t) := by
    have : t = 0 ∨ t = 1 := by omega
    rcases this with e | e
    · subst e; omega
    · subst e; omega
  have key2 := congrArg (B32 ^ i * ·) key
  simp only [Nat.mul_add] at key2
  have := h.eq
  rw [Nat.mul_assoc]
  omega
theorem Borrow.done {m n i c : Nat} {L : List Nat} (h : Borrow m n i L c) (hm : m < B32 ^ i) (hle : n ≤ m) : dval L = m - n := by
  have e := h.eq
  rw [mod_big hm, mod_big (by omega)] at e
  have hl := dval_lt h.lt
  rw [h.len] at hl
  have hc : c = 0 := by
    have h1 := h.c1
    have : c = 0 ∨ c = 1 := by omega
    rcases this with e1 | e1
    · exact e1
    · subst e1; omega
  subst hc
  omega

/-- Digits so far of a number shifted down. -/
structure Down (M k : Nat) (L : List Nat) : Prop where
  len : L.length = k
  lt : ∀ x ∈ L, x < B32
  eq : dval L = M % B32 ^ k
theorem Down.start (M : Nat) : Down M 0 [] := ⟨rfl, by simp, by simp [dval, Nat.mod_one]⟩
theorem Down.step {M k x : Nat} {L : List Nat} (h : Down M k L) (hx : x = dg M k) : Down M (k + 1) (L ++ [x]) :=
  ⟨by simp [h.len], lt_snoc h.lt (by rw [hx]; exact dg_lt _ _), by rw [dval_snoc, h.len, h.eq, mod_step, hx]⟩
theorem down_digit (m q r i : Nat) (hr : r < 32) (hq : q ≤ i) : (dg m i + dg m (i + 1) * B32) / 2 ^ r % B32 = dg (m / 2 ^ (32 * q + r)) (i - q) := by
  have e1 : dg m i + dg m (i + 1) * B32 = m / B32 ^ i % (B32 * B32) := by
    unfold dg
    rw [Nat.pow_succ, ← Nat.div_div_eq_div_mul, Nat.mod_mul, Nat.mul_comm B32]
  have e2 : (B32 * B32) = 2 ^ r * 2 ^ (64 - r) := by rw [← Nat.pow_add, show r + (64 - r) = 64 by omega]; rfl
  have e3 : (2 : Nat) ^ (64 - r) = B32 * 2 ^ (32 - r) := by rw [B32_two, ← Nat.pow_add]; congr 1; omega
  rw [e1, e2, Nat.mod_mul_right_div_self, e3, Nat.mod_mul_right_mod]
  unfold dg
  rw [Nat.div_div_eq_div_mul, Nat.div_div_eq_div_mul]
  congr 2
  rw [Nat.pow_add, ← B32_pow, Nat.mul_right_comm, ← Nat.pow_add, show q + (i - q) = i by omega]
theorem down_small {m q r k : Nat} (hm : m < B32 ^ k) : m / 2 ^ (32 * q + r) < B32 ^ (k - q) := by
  apply Nat.div_lt_of_lt_mul
  rw [Nat.pow_add, ← B32_pow]
  by_cases h : q ≤ k
  · have : B32 ^ k = B32 ^ q * B32 ^ (k - q) := by rw [← Nat.pow_add]; congr 1; omega
    rw [Nat.mul_right_comm, ← this]
    exact Nat.lt_of_lt_of_le hm (Nat.le_mul_of_pos_right _ (Nat.two_pow_pos r))
  · rw [show k - q = 0 by omega, Nat.pow_zero, Nat.mul_one]
    exact Nat.lt_of_lt_of_le (Nat.lt_of_lt_of_le hm (Nat.pow_le_pow_right B32_pos (by omega))) (Nat.le_mul_of_pos_right _ (Nat.two_pow_pos r))

/-- A product, digit by digit: the row so far. -/
structure MulR (a b lb N i k : Nat) (L : List Nat) (c : Nat) : Prop where
  len : L.length = N
  lt : ∀ x ∈ L, x < B32
  c1 : c < B32
  eq : dval L + B32 ^ (i + k) * c = a % B32 ^ i * b + B32 ^ i * (dg a i * (b % B32 ^ k))
theorem MulR.start (a b lb N : Nat) : MulR a b lb N 0 0 (List.replicate N 0) 0 :=
  ⟨by simp, fun x hx => by rw [(List.mem_replicate.1 hx).2]; exact B32_pos, B32_pos, by rw [dval_zeros]; simp [Nat.mod_one]⟩
theorem prod_lt {x y B : Nat} (hx : x < B) (hy : y < B) : x * y + 2 * B ≤ B * B + 1 := by
  obtain ⟨u, rfl⟩ : ∃ u, B = x + 1 + u := ⟨B - x - 1, by omega⟩
  obtain ⟨v, hv⟩ : ∃ v, x + 1 + u = y + 1 + v := ⟨x + 1 + u - y - 1, by omega⟩
  have h1 : x * y ≤ x * (x + u) := Nat.mul_le_mul_left _ (by omega)
  have e1 : (x + 1 + u) * (x + 1 + u) = x * (x + u) + x + (x + u) + u * (x + u) + u + 1 := by
    simp only [Nat.add_mul, Nat.mul_add, Nat.mul_one, Nat.one_mul]; omega
  have h3 : 0 ≤ u * (x + u) := Nat.zero_le _
  by_cases hu : u = 0
  · subst hu; simp at *; omega
  · have : 1 * (x + u) ≤ u * (x + u) := Nat.mul_le_mul_right _ (by omega)
    omega
theorem MulR.step {a b lb N i k c s : Nat} {L : List Nat} (h : MulR a b lb N i k L c) (hik : i + k < N) (hs : s = L[i + k]?.getD 0 + dg a i * dg b k + c) : s < B64 ∧ MulR a b lb N i (k + 1) (L.set (i + k) (s % B32)) (s / B32) := by
  have h1 := dg_lt a i
  have h2 := dg_lt b k
  have h3 : L[i + k]?.getD 0 < B32 := by rw [List.getElem?_eq_getElem (by rw [h.len]; exact hik)]; exact h.lt _ (List.getElem_mem _)
  have hp := prod_lt h1 h2
  have hc := h.c1
  have hsb : s < B32 * B32 := by omega
  refine ⟨hsb, by simp [h.len], fun y hy => ?_, Nat.div_lt_of_lt_mul hsb, ?_⟩
  · rcases List.mem_or_eq_of_mem_set hy with hy | rfl
    · exact h.lt y hy
    · exact Nat.mod_lt _ B32_pos
  · have hset := dval_set L (i + k) (s % B32) (by rw [h.len]; exact hik)
    have hdm := Nat.mod_add_div s B32
    have e := h.eq
    rw [mod_step, Nat.mul_add, Nat.mul_add, ← Nat.add_assoc, ← Nat.add_assoc, ← e]
    have e2 : B32 ^ i * (dg a i * (B32 ^ k * dg b k)) = B32 ^ (i + k) * (dg a i * dg b k) := by
      rw [Nat.pow_add, Nat.mul_left_comm (dg a i), Nat.mul_assoc]
    rw [e2, Nat.pow_succ, Nat.mul_assoc]
    have e3 := congrArg (B32 ^ (i + k) * ·) hdm
    simp only [Nat.mul_add] at e3
    have e4 := congrArg (B32 ^ (i + k) * ·) hs
    simp only [Nat.mul_add] at e4
    omega
theorem MulR.next {a b lb N i c : Nat} {L : List Nat} (h : MulR a b lb N i (lb + 1) L c) (hb : b < B32 ^ lb) : MulR a b lb N (i + 1) 0 L 0 := by
  have e := h.eq
  have hb1 : b < B32 ^ (lb + 1) := Nat.lt_of_lt_of_le hb (Nat.pow_le_pow_right B32_pos (by omega))
  rw [mod_big hb1, ← Nat.mul_assoc, ← Nat.add_mul, ← mod_step] at e
  have hlt : a % B32 ^ (i + 1) * b < B32 ^ (i + (lb + 1)) := by
    have e5 : B32 ^ (i + (lb + 1)) = B32 ^ (i + 1) * B32 ^ lb := by rw [← Nat.pow_add]; congr 1; omega
    rw [e5]
    exact Nat.mul_lt_mul_of_lt_of_le (Nat.mod_lt _ (Nat.pow_pos B32_pos)) (Nat.le_of_lt hb) (Nat.pow_pos B32_pos)
  have hc : c = 0 := by
    by_cases h0 : c = 0
    · exact h0
    · have : B32 ^ (i + (lb + 1)) * 1 ≤ B32 ^ (i + (lb + 1)) * c := Nat.mul_le_mul_left _ (by omega)
      omega
  subst hc
  refine ⟨h.len, h.lt, B32_pos, ?_⟩
  rw [Nat.mul_zero, Nat.add_zero] at e
  rw [Nat.mul_zero, Nat.add_zero, Nat.pow_zero, Nat.mod_one, Nat.mul_zero, Nat.mul_zero, Nat.add_zero]
  exact e
theorem MulR.done {a b lb N i : Nat} {L : List Nat} (h : MulR a b lb N i 0 L 0) (ha : a < B32 ^ i) : dval L = a * b := by
  have e := h.eq
  rw [mod_big ha, Nat.mul_zero, Nat.add_zero, Nat.pow_zero, Nat.mod_one, Nat.mul_zero, Nat.mul_zero, Nat.add_zero] at e
  exact e
end Go.Proofs.Ytnecpkoibknacaa
