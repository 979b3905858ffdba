/- Loops over limbs from below: what the first k come to. -/
import Derived.Test.YtnecpkoibknacaaPlain
namespace Go.Proofs.Ytnecpkoibknacaa

theorem snoc_ind {α : Type} {p : List α → Prop} (h0 : p []) (h1 : ∀ l a, p l → p (l ++ [a])) (l : List α) : p l := by
  have : ∀ r : List α, p r.reverse := by
    intro r
    induction r with
    | nil => exact h0
    | cons a r ih => rw [List.reverse_cons]; exact h1 _ _ ih
  have h := this l.reverse
  rwa [List.reverse_reverse] at h

/-- What the first k limbs come to. -/
def pv (xs : List Nat) : Nat → Nat
  | 0 => 0
  | k + 1 => pv xs k + B64 ^ k * xs[k]?.getD 0
theorem getD_lt {xs : List Nat} (h : ∀ x ∈ xs, x < B64) (k : Nat) : xs[k]?.getD 0 < B64 := by
  cases hi : xs[k]? with
  | none => simp [B64]
  | some x => exact h x (List.mem_of_getElem? hi)
theorem pv_lt {xs : List Nat} (h : ∀ x ∈ xs, x < B64) (k : Nat) : pv xs k < B64 ^ k := by
  induction k with
  | zero => simp [pv]
  | succ k ih =>
    have hb := getD_lt h k
    have : B64 ^ k * (xs[k]?.getD 0 + 1) ≤ B64 ^ k * B64 := Nat.mul_le_mul_left _ hb
    rw [pv, Nat.pow_succ]
    rw [Nat.mul_add] at this
    omega
theorem pv_take (xs : List Nat) (k : Nat) (hk : k ≤ xs.length) : pv xs k = val (xs.take k) := by
  induction k with
  | zero => simp [pv, val]
  | succ k ih =>
    rw [pv, ih (by omega), List.take_add_one, val_append, List.length_take, Nat.min_eq_left (by omega), List.getElem?_eq_getElem (by omega)]
    simp [val]
theorem pv_add (xs : List Nat) (k : Nat) (hk : xs.length ≤ k) : pv xs k = val xs := by
  induction k with
  | zero => have : xs = [] := List.eq_nil_of_length_eq_zero (by omega)
            subst this; rfl
  | succ k ih =>
    by_cases h : xs.length ≤ k
    · rw [pv, ih h, List.getElem?_eq_none h]; simp
    · have : k + 1 = xs.length := by omega
      rw [pv_take xs (k + 1) (by omega), this, List.take_length]
theorem pow_pos' (k : Nat) : 0 < B64 ^ k := Nat.pow_pos B64_pos

/-- Holding numbers against each other, from below. -/
def cmpL (l : List (Nat × Nat)) : Int := l.foldl (fun o p => if p.1 < p.2 then -1 else if p.2 < p.1 then 1 else o) 0
def cmpN (x y : Nat) : Int := if x < y then -1 else if y < x then 1 else 0
theorem cmpL_snoc (l : List (Nat × Nat)) (p : Nat × Nat) : cmpL (l ++ [p]) = if p.1 < p.2 then -1 else if p.2 < p.1 then 1 else cmpL l := by simp [cmpL]
def prs (xs ys : List Nat) (k : Nat) : List (Nat × Nat) := (List.range k).map fun i => (xs[i]?.getD 0, ys[i]?.getD 0)
theorem prs_succ (xs ys : List Nat) (k : Nat) : prs xs ys (k + 1) = prs xs ys k ++ [(xs[k]?.getD 0, ys[k]?.getD 0)] := by simp [prs, List.range_succ]
theorem length_prs (xs ys : List Nat) (k : Nat) : (prs xs ys k).length = k := by simp [prs]
theorem mul_lt_add {B x y u v : Nat} (hu : u < B) (h : x < y) : u + B * x < v + B * y := by
  have : B * (x + 1) ≤ B * y := Nat.mul_le_mul_left _ h
  rw [Nat.mul_add] at this
  omega
theorem cmpL_prs {xs ys : List Nat} (hx : ∀ x ∈ xs, x < B64) (hy : ∀ y ∈ ys, y < B64) (k : Nat) : cmpL (prs xs ys k) = cmpN (pv xs k) (pv ys k) := by
  induction k with
  | zero => rfl
  | succ k ih =>
    rw [prs_succ, cmpL_snoc, ih]
    have h1 := pv_lt hx k
    have h2 := pv_lt hy k
    unfold cmpN
    simp only [pv]
    by_cases a : xs[k]?.getD 0 < ys[k]?.getD 0
    · have := mul_lt_add (v := pv ys k) h1 a
      simp [a, this]
    · by_cases b : ys[k]?.getD 0 < xs[k]?.getD 0
      · have := mul_lt_add (v := pv xs k) h2 b
        have h3 : ¬ (pv xs k + B64 ^ k * xs[k]?.getD 0 < pv ys k + B64 ^ k * ys[k]?.getD 0) := by omega
        simp [a, b, this, h3]
      · have e : xs[k]?.getD 0 = ys[k]?.getD 0 := by omega
        simp [e]
theorem cmpL_val {xs ys : List Nat} (hx : ∀ x ∈ xs, x < B64) (hy : ∀ y ∈ ys, y < B64) (k : Nat) (h1 : xs.length ≤ k) (h2 : ys.length ≤ k) : cmpL (prs xs ys k) = cmpN (val xs) (val ys) := by
  rw [cmpL_prs hx hy, pv_add _ _ h1, pv_add _ _ h2]

/-- Adding, from below: the limbs told, and the carry. -/
def addL (l : List (Nat × Nat)) : List Nat × Nat := l.foldl (fun s p => (s.1 ++ [(p.1 + p.2 + s.2) % B64], (p.1 + p.2 + s.2) / B64)) ([], 0)
theorem addL_snoc (l : List (Nat × Nat)) (p : Nat × Nat) : addL (l ++ [p]) = ((addL l).1 ++ [(p.1 + p.2 + (addL l).2) % B64], (p.1 + p.2 + (addL l).2) / B64) := by simp [addL]
theorem addL_ok (l : List (Nat × Nat)) (h : ∀ p ∈ l, p.1 < B64 ∧ p.2 < B64) : (addL l).1.length = l.length ∧ (addL l).2 ≤ 1 ∧ ∀ x ∈ (addL l).1, x < B64 := by
  induction l using snoc_ind with
  | h0 => simp [addL]
  | h1 l p ih =>
    obtain ⟨h1, h2, h3⟩ := ih fun q hq => h q (by simp [hq])
    obtain ⟨h4, h5⟩ := h p (by simp)
    rw [addL_snoc]
    refine ⟨by simp [h1], ?_, ?_⟩
    · have : (p.1 + p.2 + (addL l).2) / B64 < 2 := Nat.div_lt_of_lt_mul (by omega)
      show _ / B64 ≤ 1
      omega
    · intro x hx
      rcases List.mem_append.1 hx with hx | hx
      · exact h3 x hx
      · rw [List.mem_singleton.1 hx]; exact Nat.mod_lt _ B64_pos
theorem addL_prs (xs ys : List Nat) (k : Nat) : val (addL (prs xs ys k)).1 + B64 ^ k * (addL (prs xs ys k)).2 = pv xs k + pv ys k ∧ (addL (prs xs ys k)).1.length = k := by
  induction k with
  | zero => simp [prs, addL, val, pv]
  | succ k ih =>
    obtain ⟨e, hl⟩ := ih
    rw [prs_succ, addL_snoc]
    refine ⟨?_, by simp [hl]⟩
    show val (_ ++ [_]) + _ * _ = _
    rw [val_append, hl]
    simp only [val, Nat.mul_zero, Nat.add_zero, pv]
    generalize xs[k]?.getD 0 = x at *
    generalize ys[k]?.getD 0 = y at *
    generalize (addL (prs xs ys k)).2 = c at *
    have h1 := Nat.mod_add_div (x + y + c) B64
    have h2 : B64 ^ k * ((x + y + c) % B64) + B64 ^ (k + 1) * ((x + y + c) / B64) = B64 ^ k * (x + y + c) := by
      conv => rhs; rw [← h1]
      rw [Nat.pow_succ, Nat.mul_assoc, ← Nat.mul_add]
    rw [Nat.mul_add, Nat.mul_add] at h2
    omega

theorem sub_key (B x y c : Nat) (hx : x < B) (hy : y < B) (hc : c ≤ 1) : (x + 2 * B - y - c) % B + y + c = x + B * (if x < y + c then 1 else 0) := by
  split
  · have : x + 2 * B - y - c = (x + B - y - c) + B := by omega
    rw [this, Nat.add_mod_right, Nat.mod_eq_of_lt (by omega)]
    omega
  · have : x + 2 * B - y - c = (x - y - c) + B + B := by omega
    rw [this, Nat.add_mod_right, Nat.add_mod_right, Nat.mod_eq_of_lt (by omega)]
    omega
theorem sub_step (B k v p q x y c r t : Nat) (key : r + y + c = x + B * t) (e : v + p = q + B ^ k * c) : v + B ^ k * r + (p + B ^ k * y) = q + B ^ k * x + B ^ (k + 1) * t := by
  have h2 := congrArg (B ^ k * ·) key
  simp only [Nat.mul_add, ← Nat.mul_assoc, ← Nat.pow_succ, Nat.succ_eq_add_one] at h2
  omega
/-- A limb less another one, and the borrow. -/
def difOf (B x y c : Nat) : Nat := (x + 2 * B - y - c) % B
def borOf (x y c : Nat) : Nat := if x < y + c then 1 else 0
theorem borOf_le (x y c : Nat) : borOf x y c ≤ 1 := by unfold borOf; split <;> omega
theorem difOf_lt {B : Nat} (hB : 0 < B) (x y c : Nat) : difOf B x y c < B := Nat.mod_lt _ hB
theorem difOf_key (B x y c : Nat) (hx : x < B) (hy : y < B) (hc : c ≤ 1) : difOf B x y c + y + c = x + B * borOf x y c := sub_key B x y c hx hy hc

/-- Subtracting, from below. -/
def subS (s : List Nat × Nat) (p : Nat × Nat) : List Nat × Nat := (s.1 ++ [difOf B64 p.1 p.2 s.2], borOf p.1 p.2 s.2)
def subL (l : List (Nat × Nat)) : List Nat × Nat := l.foldl subS ([], 0)
theorem subL_snoc (l : List (Nat × Nat)) (p : Nat × Nat) : subL (l ++ [p]) = subS (subL l) p := by rw [subL, List.foldl_append]; rfl
theorem subL_ok (l : List (Nat × Nat)) : (subL l).1.length = l.length ∧ (subL l).2 ≤ 1 ∧ ∀ x ∈ (subL l).1, x < B64 := by
  induction l using snoc_ind with
  | h0 => simp [subL]
  | h1 l p ih =>
    obtain ⟨h1, h2, h3⟩ := ih
    rw [subL_snoc]
    unfold subS
    refine ⟨by simp [h1], borOf_le _ _ _, ?_⟩
    · intro x hx
      rcases List.mem_append.1 hx with hx | hx
      · exact h3 x hx
      · rw [List.mem_singleton.1 hx]; exact difOf_lt B64_pos _ _ _
theorem subL_prs {xs ys : List Nat} (hx : ∀ x ∈ xs, x < B64) (hy : ∀ y ∈ ys, y < B64) (k : Nat) : val (subL (prs xs ys k)).1 + pv ys k = pv xs k + B64 ^ k * (subL (prs xs ys k)).2 ∧ (subL (prs xs ys k)).1.length = k := by
  induction k with
  | zero => exact ⟨rfl, rfl⟩
  | succ k ih =>
    obtain ⟨e, hl⟩ := ih
    have hc := (subL_ok (prs xs ys k)).2.1
    have hx' := getD_lt hx k
    have hy' := getD_lt hy k
    rw [prs_succ, subL_snoc]
    unfold subS
    dsimp only
    rw [val_append, hl]
    refine ⟨?_, by simp [hl]⟩
    rw [val, val, Nat.mul_zero, Nat.add_zero, pv, pv]
    exact sub_step B64 k _ _ _ _ _ _ _ _ (difOf_key B64 _ _ _ hx' hy' hc) e
theorem sub_end (P v y x c : Nat) (hv : v < P) (e : v + y = x + P * c) (hle : y ≤ x) (hc : c ≤ 1) : v = x - y := by
  have : c = 0 ∨ c = 1 := by omega
  rcases this with rfl | rfl
  · omega
  · rw [Nat.mul_one] at e; omega
theorem subL_val {xs ys : List Nat} (hx : ∀ x ∈ xs, x < B64) (hy : ∀ y ∈ ys, y < B64) (k : Nat) (h1 : xs.length ≤ k) (h2 : ys.length ≤ k) (hle : val ys ≤ val xs) : val (subL (prs xs ys k)).1 = val xs - val ys := by
  obtain ⟨e, hl⟩ := subL_prs hx hy k
  obtain ⟨_, hc, hlt⟩ := subL_ok (prs xs ys k)
  rw [pv_add _ _ h1, pv_add _ _ h2] at e
  have hv := val_lt hlt
  rw [hl] at hv
  exact sub_end _ _ _ _ _ hv e hle hc
theorem addL_val {xs ys : List Nat} (k : Nat) (h1 : xs.length ≤ k) (h2 : ys.length ≤ k) : val ((addL (prs xs ys k)).1 ++ [(addL (prs xs ys k)).2]) = val xs + val ys := by
  obtain ⟨e, hl⟩ := addL_prs xs ys k
  rw [pv_add _ _ h1, pv_add _ _ h2] at e
  rw [val_append, hl, val, val, Nat.mul_zero, Nat.add_zero]
  exact e
end Go.Proofs.Ytnecpkoibknacaa
