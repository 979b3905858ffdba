/- The numbers of package nat as values: what each call tells, with the slices' insides out of sight. -/
import Derived.Test.YtnecpkoibknacaaW28
namespace Go.Proofs.Ytnecpkoibknacaa
open Go.RowKit

/-- The value reads as limbs that come to m. -/
def IsN (w : World) (v : Value) (m : Nat) : Prop := ∃ a n c xs, v = .slice a n c ∧ Nums w a n c xs ∧ n ≤ 4096 ∧ val xs = m
/-- The value is the number m, normal. -/
def Num (w : World) (v : Value) (m : Nat) : Prop := m < Top ∧ ∃ a n c, v = .slice a n c ∧ Nums w a n c (limbs m)
theorem IsN.ext {w w' : World} {v : Value} {m : Nat} (h : IsN w v m) (e : Ext w w') : IsN w' v m := by
  obtain ⟨a, n, c, xs, rfl, h, hn, hv⟩ := h
  exact ⟨a, n, c, xs, rfl, h.ext e, hn, hv⟩
theorem Num.ext {w w' : World} {v : Value} {m : Nat} (h : Num w v m) (e : Ext w w') : Num w' v m := by
  obtain ⟨ht, a, n, c, rfl, h⟩ := h
  exact ⟨ht, a, n, c, rfl, h.ext e⟩
theorem Num.is {w : World} {v : Value} {m : Nat} (h : Num w v m) : IsN w v m := by
  obtain ⟨ht, a, n, c, rfl, h⟩ := h
  exact ⟨a, n, c, _, rfl, h, by have := few_of_top h ht; omega, val_limbs m⟩
theorem Num.lt {w : World} {v : Value} {m : Nat} (h : Num w v m) : m < Top := h.1
theorem Num.nil (w : World) : Num w (.slice none 0 0) 0 := ⟨Top_pos, none, 0, 0, rfl, by rw [limbs_zero]; exact Nums.nil _ _ _⟩
theorem Num.at {w : World} {v : Value} {m n : Nat} (h : Num w v m) (e : m = n) : Num w v n := e ▸ h
theorem IsN.at {w : World} {v : Value} {m n : Nat} (h : IsN w v m) (e : m = n) : IsN w v n := e ▸ h
theorem IsN.of {w : World} {a : Option Addr} {n c : Nat} {xs : List Nat} (h : Nums w a n c xs) (hn : n ≤ 4096) : IsN w (.slice a n c) (val xs) := ⟨a, n, c, xs, rfl, h, hn, rfl⟩
theorem IsN.one {w : World} {b x c : Nat} (h : w.cell? ⟨b, 0, none⟩ = some (.int .u64 x)) (hx : x < B64) (hc : 1 ≤ c) : IsN w (.slice (some ⟨b, 0, none⟩) 1 c) x :=
  ⟨_, _, _, _, rfl, Nums.one h hx hc, by omega, val_one x⟩
/-- A number and no error. -/
def NOk (w : World) (v : Value) (m : Nat) : Prop := ∃ x, v = .tuple #[x, .int .i64 0] ∧ Num w x m
theorem NRes.ok {w : World} {v : Value} {m : Nat} (h : NRes w v (some m)) (ht : m < Top) : NOk w v m := by
  obtain ⟨a, n, c, rfl, h⟩ := h
  exact ⟨_, rfl, ht, a, n, c, rfl, h⟩
theorem NRes.fit_ok {w : World} {v : Value} {m : Nat} (h : NRes w v (fit m)) (ht : m < Top) : NOk w v m := by
  rw [fit_some ht] at h; exact h.ok ht

theorem of_n {x : Nat} (hx : x < B64) (w : World) : Calls Try.prog 32 #[.int .u64 x] w (Post w fun v w' => Num w' v x) := by
  refine (of_any x hx w).mono ?_
  rintro e w' ⟨v, rfl, hext, a, n, c, rfl, hn⟩
  exact Post.mk hext ⟨Nat.lt_of_lt_of_le hx Top_big, a, n, c, rfl, hn⟩
theorem norm_n {w : World} {v : Value} {m : Nat} (h : IsN w v m) (ht : m < Top) : Calls Try.prog 34 #[v] w (Post w fun v w' => NOk w' v m) := by
  obtain ⟨a, n, c, xs, rfl, h, hn, rfl⟩ := h
  refine (norm_any a n c xs w h).mono ?_
  rintro e w' ⟨v, rfl, hext, h⟩
  exact Post.mk hext (h.fit_ok ht)
theorem bits_n {w : World} {v : Value} {m : Nat} (h : IsN w v m) : Calls Try.prog 33 #[v] w (Post w fun v _ => v = .int .i64 (blen m)) := by
  obtain ⟨a, n, c, xs, rfl, h, hn, rfl⟩ := h
  exact bits_any a n c xs w h
theorem cmp_n {w : World} {v1 v2 : Value} {m1 m2 : Nat} (h1 : IsN w v1 m1) (h2 : IsN w v2 m2) : Calls Try.prog 30 #[v1, v2] w (Post w fun v _ => v = .int .i64 (cmpN m1 m2)) := by
  obtain ⟨a1, n1, c1, xs, rfl, h1, hn1, rfl⟩ := h1
  obtain ⟨a2, n2, c2, ys, rfl, h2, hn2, rfl⟩ := h2
  exact cmp_any a1 a2 n1 c1 n2 c2 xs ys w h1 h2
theorem add_n {w : World} {v1 v2 : Value} {m1 m2 : Nat} (h1 : IsN w v1 m1) (h2 : IsN w v2 m2) : Calls Try.prog 28 #[v1, v2] w (Post w fun v w' => NRes w' v (fit (m1 + m2))) := by
  obtain ⟨a1, n1, c1, xs, rfl, h1, hn1, rfl⟩ := h1
  obtain ⟨a2, n2, c2, ys, rfl, h2, hn2, rfl⟩ := h2
  exact add_any a1 a2 n1 c1 n2 c2 xs ys w h1 h2 (by omega) (by omega)
theorem add_ok {w : World} {v1 v2 : Value} {m1 m2 : Nat} (h1 : IsN w v1 m1) (h2 : IsN w v2 m2) (ht : m1 + m2 < Top) : Calls Try.prog 28 #[v1, v2] w (Post w fun v w' => NOk w' v (m1 + m2)) := by
  refine (add_n h1 h2).mono ?_
  rintro e w' ⟨v, rfl, hext, h⟩
  exact Post.mk hext (h.fit_ok ht)
theorem sub_ok {w : World} {v1 v2 : Value} {m1 m2 : Nat} (h1 : IsN w v1 m1) (h2 : IsN w v2 m2) (ht : m1 < Top) (hle : m2 ≤ m1) : Calls Try.prog 31 #[v1, v2] w (Post w fun v w' => NOk w' v (m1 - m2)) := by
  obtain ⟨a1, n1, c1, xs, rfl, h1, hn1, rfl⟩ := h1
  obtain ⟨a2, n2, c2, ys, rfl, h2, hn2, rfl⟩ := h2
  refine (sub_any a1 a2 n1 c1 n2 c2 xs ys w h1 h2).mono ?_
  rintro e w' ⟨v, rfl, hext, h⟩
  rw [if_pos ⟨ht, by omega⟩, if_pos hle] at h
  exact Post.mk hext (h.ok (by omega))
theorem sub_none {w : World} {v1 v2 : Value} {m1 m2 : Nat} (h1 : IsN w v1 m1) (h2 : IsN w v2 m2) (ht1 : m1 < Top) (ht2 : m2 < Top) (hlt : m1 < m2) : Calls Try.prog 31 #[v1, v2] w (Post w fun v _ => v = .tuple #[.slice none 0 0, .int .i64 7]) := by
  obtain ⟨a1, n1, c1, xs, rfl, h1, hn1, rfl⟩ := h1
  obtain ⟨a2, n2, c2, ys, rfl, h2, hn2, rfl⟩ := h2
  refine (sub_any a1 a2 n1 c1 n2 c2 xs ys w h1 h2).mono ?_
  rintro e w' ⟨v, rfl, hext, h⟩
  rw [if_pos ⟨ht1, ht2⟩, if_neg (by omega)] at h
  exact Post.mk hext h
theorem mul_n {w : World} {v1 v2 : Value} {m1 m2 : Nat} (h1 : IsN w v1 m1) (h2 : IsN w v2 m2) (ht1 : m1 < Top) (ht2 : m2 < Top) : Calls Try.prog 29 #[v1, v2] w (Post w fun v w' => NRes w' v (fit (m1 * m2))) := by
  obtain ⟨a1, n1, c1, xs, rfl, h1, hn1, rfl⟩ := h1
  obtain ⟨a2, n2, c2, ys, rfl, h2, hn2, rfl⟩ := h2
  exact mul_any a1 a2 n1 c1 n2 c2 xs ys w h1 h2 ht1 ht2
theorem mul_ok {w : World} {v1 v2 : Value} {m1 m2 : Nat} (h1 : IsN w v1 m1) (h2 : IsN w v2 m2) (ht1 : m1 < Top) (ht2 : m2 < Top) (ht : m1 * m2 < Top) : Calls Try.prog 29 #[v1, v2] w (Post w fun v w' => NOk w' v (m1 * m2)) := by
  refine (mul_n h1 h2 ht1 ht2).mono ?_
  rintro e w' ⟨v, rfl, hext, h⟩
  exact Post.mk hext (h.fit_ok ht)
/-- A quotient and a rest, and no error. -/
def DOk (w : World) (v : Value) (Q R : Nat) : Prop := ∃ q r, v = .tuple #[q, r, .int .i64 0] ∧ Num w q Q ∧ Num w r R
theorem div_ok {w : World} {v1 v2 : Value} {m1 m2 : Nat} (h1 : IsN w v1 m1) (h2 : IsN w v2 m2) (ht1 : m1 < Top) (ht2 : m2 < Top) (h0 : m2 ≠ 0) : Calls Try.prog 11 #[v1, v2] w (Post w fun v w' => DOk w' v (m1 / m2) (m1 % m2)) := by
  obtain ⟨a1, n1, c1, xs, rfl, h1, hn1, rfl⟩ := h1
  obtain ⟨a2, n2, c2, ys, rfl, h2, hn2, rfl⟩ := h2
  refine (div_any a1 a2 n1 c1 n2 c2 xs ys w h1 h2 ht1 ht2 h0).mono ?_
  rintro e w' ⟨v, rfl, hext, aq, nq, cq, ar, nr, cr, rfl, hq, hr⟩
  exact Post.mk hext ⟨_, _, rfl, ⟨Nat.lt_of_le_of_lt (Nat.div_le_self _ _) ht1, _, _, _, rfl, hq⟩, ⟨Nat.lt_of_le_of_lt (Nat.mod_le _ _) ht1, _, _, _, rfl, hr⟩⟩
theorem div_arg {w : World} {v1 v2 : Value} {m1 : Nat} (h1 : IsN w v1 m1) (h2 : IsN w v2 0) (ht1 : m1 < Top) : Calls Try.prog 11 #[v1, v2] w (Post w fun v _ => v = .tuple #[.slice none 0 0, .slice none 0 0, .int .i64 2]) := by
  obtain ⟨a1, n1, c1, xs, rfl, h1, hn1, rfl⟩ := h1
  obtain ⟨a2, n2, c2, ys, rfl, h2, hn2, h0⟩ := h2
  exact div_zero a1 a2 n1 c1 n2 c2 xs ys w h1 h2 ht1 h0
theorem shl_n {w : World} {v1 : Value} {m1 : Nat} (k : Nat) (h1 : IsN w v1 m1) (hk : k ≤ 4611686018427387904) : Calls Try.prog 19 #[v1, .int .i64 k] w (Post w fun v w' => NRes w' v (fit (m1 * 2 ^ k))) := by
  obtain ⟨a1, n1, c1, xs, rfl, h1, hn1, rfl⟩ := h1
  exact shl_any a1 n1 c1 xs k w h1 hk
theorem shl_ok {w : World} {v1 : Value} {m1 : Nat} (k : Nat) (h1 : IsN w v1 m1) (hk : k ≤ 4611686018427387904) (ht : m1 * 2 ^ k < Top) : Calls Try.prog 19 #[v1, .int .i64 k] w (Post w fun v w' => NOk w' v (m1 * 2 ^ k)) := by
  refine (shl_n k h1 hk).mono ?_
  rintro e w' ⟨v, rfl, hext, h⟩
  exact Post.mk hext (h.fit_ok ht)
theorem shl_arg {w : World} {v1 : Value} {m1 : Nat} (k : Int) (h1 : IsN w v1 m1) (hk : k < 0) (ht : m1 < Top) : Calls Try.prog 19 #[v1, .int .i64 k] w (Post w fun v _ => v = .tuple #[.slice none 0 0, .int .i64 2]) := by
  obtain ⟨a1, n1, c1, xs, rfl, h1, hn1, rfl⟩ := h1
  exact shl_neg a1 n1 c1 xs k hk w h1 ht
theorem shr_ok {w : World} {v1 : Value} {m1 : Nat} (k : Nat) (h1 : IsN w v1 m1) (ht : m1 < Top) (hk : k ≤ 4611686018427387904) : Calls Try.prog 20 #[v1, .int .i64 k] w (Post w fun v w' => NOk w' v (m1 / 2 ^ k)) := by
  obtain ⟨a1, n1, c1, xs, rfl, h1, hn1, rfl⟩ := h1
  refine (shr_any a1 n1 c1 xs k w h1 ht hk).mono ?_
  rintro e w' ⟨v, rfl, hext, h⟩
  exact Post.mk hext (h.ok (Nat.lt_of_le_of_lt (Nat.div_le_self _ _) ht))
theorem shr_arg {w : World} {v1 : Value} {m1 : Nat} (k : Int) (h1 : IsN w v1 m1) (hk : k < 0) (ht : m1 < Top) : Calls Try.prog 20 #[v1, .int .i64 k] w (Post w fun v _ => v = .tuple #[.slice none 0 0, .int .i64 2]) := by
  obtain ⟨a1, n1, c1, xs, rfl, h1, hn1, rfl⟩ := h1
  exact shr_neg a1 n1 c1 xs k hk w h1 ht
theorem gcd_lt {m n T : Nat} (h1 : m < T) (h2 : n < T) : Nat.gcd m n < T := by
  by_cases h : m = 0
  · subst h; simpa using h2
  · exact Nat.lt_of_le_of_lt (Nat.gcd_le_left _ (by omega)) h1
theorem gcd_ok {w : World} {v1 v2 : Value} {m1 m2 : Nat} (h1 : IsN w v1 m1) (h2 : IsN w v2 m2) (ht1 : m1 < Top) (ht2 : m2 < Top) : Calls Try.prog 12 #[v1, v2] w (Post w fun v w' => NOk w' v (Nat.gcd m1 m2)) := by
  obtain ⟨a1, n1, c1, xs, rfl, h1, hn1, rfl⟩ := h1
  obtain ⟨a2, n2, c2, ys, rfl, h2, hn2, rfl⟩ := h2
  refine (gcd_any a1 a2 n1 c1 n2 c2 xs ys w h1 h2 ht1 ht2).mono ?_
  rintro e w' ⟨v, rfl, hext, h⟩
  exact Post.mk hext (h.ok (gcd_lt ht1 ht2))
theorem IsRoot.le {a r : Nat} (h : IsRoot a r) : r ≤ a := by
  have := h.1
  rcases Nat.eq_zero_or_pos r with h0 | h0
  · omega
  · exact Nat.le_trans (Nat.le_mul_of_pos_left r h0) this
theorem root_ok {w : World} {v1 : Value} {m1 : Nat} (h1 : IsN w v1 m1) (ht1 : m1 < Top) : Calls Try.prog 13 #[v1] w (Post w fun v w' => ∃ r, IsRoot m1 r ∧ NOk w' v r) := by
  obtain ⟨a1, n1, c1, xs, rfl, h1, hn1, rfl⟩ := h1
  by_cases h0 : val xs = 0
  · refine (root_zero a1 n1 c1 xs w h1 h0).mono ?_
    rintro e w' ⟨v, rfl, hext, h⟩
    exact Post.mk hext ⟨0, by rw [h0]; exact ⟨by omega, by omega⟩, h.ok Top_pos⟩
  · refine (root_main a1 n1 c1 xs w h1 ht1 h0).mono ?_
    rintro e w' ⟨v, rfl, hext, r, hr, h⟩
    exact Post.mk hext ⟨r, hr, h.ok (Nat.lt_of_le_of_lt hr.le ht1)⟩
theorem text_n {w : World} {v1 : Value} {m1 : Nat} (h1 : IsN w v1 m1) (ht1 : m1 < Top) : Calls Try.prog 23 #[v1] w (Post w fun v _ => v = .string (txt (decT m1))) := by
  obtain ⟨a1, n1, c1, xs, rfl, h1, hn1, rfl⟩ := h1
  exact text_any a1 n1 c1 xs w h1 ht1
end Go.Proofs.Ytnecpkoibknacaa
