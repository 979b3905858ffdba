/- Parts of the proof: contracts of the functions that the law reaches, and the arithmetic that they rest on; no condition beyond those that each theorem states. -/
import Derived.Test.YtgihjgkpmochcaaM1
import Derived.Test.YtgihjgkpmochcaaM3
import Derived.Test.YtgihjgkpmochcaaM6

namespace Go.Proofs.Ytgihjgkpmochcaa
open Go.RowKit

set_option maxHeartbeats 400000 in
theorem clone_o (a : Option Addr) (n c : Nat) (xs : List Nat) (w : World) (h : Nums w a n c xs) :
    Calls Try.prog 60 #[.slice a n c] w (Post w fun v w' => Own w' w.heap.size v xs) := by
  obtain ⟨i0, hi, hz0, hz1, hz2⟩ := info_parts info_u64
  obtain rfl := h.len
  have hfew := h.few
  have e1 := fun w => Lib.run_eql_slice_nil (P := Try.prog) w 26 34 a xs.length c 0 0 Try.underlying26
  by_cases ha : a = none
  · subst ha
    have h0 : xs.length = 0 := by rcases h.at_ with h0 | ⟨b, off, ha, _⟩; exact h0; cases ha
    go_enter Try.func60, Try.ntmps60
    have H0 := Lib.hid h0
    clear h0
    go_wp2
    go_ret
    refine Post.mk (Ext.refl _) ?_
    rw [List.eq_nil_of_length_eq_zero H0.out]
    exact Own.nil _ _
  · have ha' : a.isNone = false := by cases a <;> simp_all
    go_enter Try.func60, Try.ntmps60
    go_wp2_with (at_builtin; refine wpList_app w (Ext.of_alloc _ _) rfl _ _ 26 rfl 34 i0 (.int .u64 0) 1 8 Try.underlying26 hi hz0 hz1 hz2 rfl (by decide) _ 0 [] rfl (World.ownsRow_made w _ _ (Nat.le_refl _) (by decide) (by simp)) a xs.length c (xs.map fun (x : Nat) => Value.int .u64 (x : Int)) rfl (by simp) (h.cells.ext (Ext.of_alloc _ _)) (oneCell_u64 _) (by omega) (by omega) ?_; intro v' w1 hown hext _)
    go_ret
    rw [Nat.zero_add, List.nil_append] at hown
    exact Post.mk hext hown
theorem Own.mono {w : World} {B B' : Nat} {v : Value} {L : List Nat} (h : Own w B v L) (hb : B' ≤ B) : Own w B' v L := by
  refine ⟨h.1, ?_⟩
  rcases h.2 with h | ⟨g, cap, cur, h, h1, h2, h3⟩
  · exact .inl h
  · exact .inr ⟨g, cap, cur, h, by omega, h2, h3⟩

set_option maxHeartbeats 400000 in
theorem normal_o (a : Option Addr) (n c : Nat) (xs : List Nat) (w : World) (h : Nums w a n c xs) :
    Calls Try.prog 35 #[.slice a n c] w (Post w fun v w' => Own w' w.heap.size v (limbs (val xs))) := by
  have hfew := h.few
  have hcap := h.cap
  go_enter Try.func35, Try.ntmps35
  go_wp2
  go_loopw [3] (fun k wr => ∃ j : Nat, j ≤ n ∧ k = .int .i64 j ∧ nz xs j = nz xs n ∧ Ext w wr) (fun k _ => (intOf k).toNat)
  case atStart => exact ⟨n, Nat.le_refl _, rfl, rfl, Ext.refl _⟩
  case round =>
    obtain ⟨j, hj, rfl, hnz, hext⟩ := hrel
    have Hnz := Lib.hid hnz
    clear hnz
    by_cases h0 : j = 0
    · subst h0
      go_wp2_with (go_at_call 60; refine (clone_o _ _ _ _ _ ((h.take 0 0 (by omega) (by omega)).ext hext)).mono ?_; rintro e w1 ⟨v, rfl, hext1, hn⟩)
      go_ret
      refine Post.mk (hext.trans hext1) ?_
      have e := take_nz h.lt
      rw [h.len, ← Hnz.out, nz] at e
      rw [← e]; exact hn.mono hext.size
    · obtain ⟨j, rfl⟩ : ∃ i, j = i + 1 := ⟨j - 1, by omega⟩
      rcases h.at_ with h0 | ⟨b, off, rfl, hc⟩
      · omega
      have hcell := hext.cell (hc j (by omega))
      clear hc
      have hbd := h.bd j
      by_cases hz : xs[j]?.getD 0 = 0
      · have hz' : (((xs[j]?.getD 0 : Nat) : Int) == 0) = true := by rw [hz]; rfl
        have Hz := Lib.hid hz
        clear hz
        go_wp2
        go_roundw
        case rel => exact ⟨j, by omega, by go_num, by rw [← Hnz.out, nz, if_pos Hz.out], hext⟩
        case measure => simp [intOf]
      · have hz' : (((xs[j]?.getD 0 : Nat) : Int) == 0) = false := by simp [hz]
        go_wp2_with (go_at_call 60; refine (clone_o _ _ _ _ _ ((h.take (j + 1) (j + 1) (by omega) (by omega)).ext hext)).mono ?_; rintro e w1 ⟨v, rfl, hext1, hn⟩)
        go_ret
        refine Post.mk (hext.trans hext1) ?_
        have e := take_nz h.lt
        rw [h.len, ← Hnz.out, nz, if_neg hz] at e
        rw [← e]; exact hn.mono hext.size
/-- Norm's number, in a row of its own. -/
theorem norm_o {w : World} {v : Value} {m : Nat} (h : IsN w v m) (ht : m < Top) :
    Calls Try.prog 23 #[v] w (Post w fun v w' => ∃ x, v = .tuple #[x, .int .i64 0] ∧ Own w' w.heap.size x (limbs m)) := by
  obtain ⟨a, n, c, xs, rfl, h, hn, rfl⟩ := h
  have hf := (fits_iff _).2 ht
  have told : Calls Try.prog 28 #[.slice a n c] w (Post w fun v w' => ∃ x, v = .tuple #[x, .int .i64 0] ∧ Own w' w.heap.size x (limbs (val xs))) := by
    go_enter Try.func28, Try.ntmps28
    go_wp2_with fail
    refine (normal_o _ _ _ _ _ h).mono ?_
    rintro e w1 ⟨v, rfl, hext1, hown⟩
    have hlt := lt_limbs (val xs)
    generalize hL : limbs (val xs) = L at *
    have HL := Lib.hid hL
    clear hL
    obtain ⟨a', c', rfl, hN, _⟩ := hown.nums (by omega) hlt
    by_cases h0 : L = []
    · subst h0
      have H := Lib.hid hown
      clear hown
      go_wp2
      go_ret2
      exact Post.mk hext1 ⟨_, rfl, by rw [HL.out]; exact Own.nil _ _⟩
    · have hpos : 0 < L.length := List.length_pos_iff.2 h0
      have H := Lib.hid hown
      clear hown h0
      go_wp2
      go_ret2
      exact Post.mk hext1 ⟨_, rfl, by rw [HL.out]; exact H.out⟩
  go_enter Try.func23, Try.ntmps23
  go_wp2_with fail
  refine told.mono ?_
  rintro e w1 ⟨v, rfl, hext1, x, rfl, hown⟩
  have H := Lib.hid hown
  clear hown told
  go_wp2
  go_ret2
  exact Post.mk hext1 ⟨_, rfl, H.out⟩
end Go.Proofs.Ytgihjgkpmochcaa

namespace Go.Proofs.Ytgihjgkpmochcaa

/-- A divisor whose top digit has its top bit set. -/
structure Top32 (y n : Nat) : Prop where
  pos : 0 < n
  lo : B32 ^ n ≤ 2 * y
  hi : y < B32 ^ n
theorem Top32.y0 {y n : Nat} (h : Top32 y n) : 0 < y := by
  have := Nat.pow_pos (n := n) B32_pos
  have := h.lo; omega
theorem Top32.top {y n : Nat} (h : Top32 y (n + 1)) : 2147483648 ≤ dg y n ∧ dg y n * B32 ^ n ≤ y := by
  have h1 := h.lo
  have h2 := h.hi
  rw [Nat.pow_succ] at h1 h2
  have hd : y / B32 ^ n < B32 := Nat.div_lt_of_lt_mul h2
  have e : dg y n = y / B32 ^ n := by unfold dg; exact Nat.mod_eq_of_lt hd
  rw [e]
  refine ⟨?_, Nat.div_mul_le_self _ _⟩
  apply (Nat.le_div_iff_mul_le (Nat.pow_pos B32_pos)).2
  have e2 : B32 = 2 * 2147483648 := rfl
  have e3 : B32 ^ n * B32 = 2 * (2147483648 * B32 ^ n) := by rw [Nat.mul_comm (B32 ^ n), ← Nat.mul_assoc]; rfl
  omega
/-- The two digits on top of the rest. -/
theorem two_digits {r n : Nat} (h : r < B32 ^ (n + 2)) : dg r (n + 1) * B32 + dg r n = r / B32 ^ n := by
  have h2 : r / B32 ^ n < B32 * B32 := by
    apply Nat.div_lt_of_lt_mul
    rw [← Nat.mul_assoc, ← Nat.pow_succ, ← Nat.pow_succ]; exact h
  unfold dg
  rw [Nat.pow_succ, ← Nat.div_div_eq_div_mul]
  generalize r / B32 ^ n = t at *
  have h3 : t / B32 < B32 := Nat.div_lt_of_lt_mul h2
  rw [Nat.mod_eq_of_lt h3]
  have := Nat.div_add_mod t B32
  rw [Nat.mul_comm] at this
  exact this
/-- A guess that is not below the quotient. -/
theorem guess32 {y n r g : Nat} (hy : Top32 y (n + 1)) (hr : r < y * B32) (hg : g = min ((dg r (n + 1) * B32 + dg r n) / dg y n) (B32 - 1)) : r / y ≤ g ∧ g < B32 := by
  have hlt : r < B32 ^ (n + 2) := by
    rw [Nat.pow_succ]
    exact Nat.lt_of_lt_of_le hr (Nat.mul_le_mul_right _ (Nat.le_of_lt hy.hi))
  have hq : r / y < B32 := Nat.div_lt_of_lt_mul hr
  obtain ⟨ht, htl⟩ := hy.top
  rw [two_digits hlt] at hg
  have key : r / y ≤ r / B32 ^ n / dg y n := by
    apply (Nat.le_div_iff_mul_le (by omega)).2
    apply (Nat.le_div_iff_mul_le (Nat.pow_pos B32_pos)).2
    rw [Nat.mul_assoc]
    exact Nat.le_trans (Nat.mul_le_mul_left _ htl) (Nat.div_mul_le_self _ _)
  have hB : 0 < B32 := B32_pos
  rw [hg]
  refine ⟨Nat.le_min.2 ⟨key, by omega⟩, ?_⟩
  have := Nat.min_le_right (r / B32 ^ n / dg y n) (B32 - 1)
  omega
/-- The quotient so far. -/
structure Quo (x y N j : Nat) (R : List Nat) (r : Nat) : Prop where
  len : R.length = N
  lt : ∀ u ∈ R, u < B32
  q : dval (R.drop j) = x / B32 ^ j / y
  r : r = x / B32 ^ j % y
theorem Quo.start {x y N : Nat} (h : x / B32 ^ N < y) : Quo x y N N (List.replicate N 0) (x / B32 ^ N) :=
  ⟨by simp, fun u hu => by rw [(List.mem_replicate.1 hu).2]; exact B32_pos, by rw [Nat.div_eq_of_lt h]; simp [dval], (Nat.mod_eq_of_lt h).symm⟩
theorem Quo.down {x y N j r : Nat} {R : List Nat} (h : Quo x y N (j + 1) R r) (hy : 0 < y) : r * B32 + dg x j < y * B32 ∧ r * B32 + dg x j = (x / B32 ^ (j + 1) % y) * B32 + dg x j := by
  have h1 := dg_lt x j
  have h2 : r < y := by rw [h.r]; exact Nat.mod_lt _ hy
  refine ⟨?_, by rw [h.r]⟩
  have : (r + 1) * B32 ≤ y * B32 := Nat.mul_le_mul_right _ h2
  rw [Nat.add_mul] at this
  omega
theorem Quo.step {x y N j r r' : Nat} {R : List Nat} (h : Quo x y N (j + 1) R r) (hy : 0 < y) (hj : j < N) (hr : r' = r * B32 + dg x j) (hq : r' / y < B32) : Quo x y N j (R.set j (r' / y)) (r' - y * (r' / y)) := by
  have hd := h.down hy
  rw [← hr] at hd
  have ex : x / B32 ^ j = B32 * (x / B32 ^ (j + 1)) + dg x j := by
    unfold dg; rw [Nat.pow_succ, ← Nat.div_div_eq_div_mul, Nat.div_add_mod]
  have e1 := Nat.div_add_mod (x / B32 ^ (j + 1)) y
  have e2 : x / B32 ^ j = y * (B32 * (x / B32 ^ (j + 1) / y)) + r' := by
    rw [hd.2, ex]
    conv => lhs; rw [← e1]
    rw [Nat.mul_add, Nat.add_assoc, Nat.mul_left_comm B32 y, Nat.mul_comm B32 (_ % y)]
  refine ⟨by simp [h.len], fun u hu => ?_, ?_, ?_⟩
  · rcases List.mem_or_eq_of_mem_set hu with hu | rfl
    · exact h.lt u hu
    · exact hq
  · rw [List.drop_eq_getElem_cons (by simp [h.len, hj]), dval, List.getElem_set_self, List.drop_set, if_pos (by omega), h.q, e2, Nat.mul_add_div hy, Nat.add_comm]
  · rw [e2, Nat.mul_add_mod]
    have := Nat.div_add_mod r' y
    omega
theorem Quo.done {x y N r : Nat} {R : List Nat} (h : Quo x y N 0 R r) : dval R = x / y ∧ r = x % y := by
  have h1 := h.q
  have h2 := h.r
  rw [List.drop_zero, Nat.pow_zero, Nat.div_one] at h1
  rw [Nat.pow_zero, Nat.div_one] at h2
  exact ⟨h1, h2⟩
theorem blen_shl {m s : Nat} (h : m ≠ 0) : blen (m * 2 ^ s) = blen m + s := by
  have := blen_mul_add (x := 0) (n := m) (k := s) (Nat.two_pow_pos s) h
  rw [Nat.zero_add, Nat.mul_comm] at this
  omega
theorem lt_digits (m : Nat) : m < B32 ^ ((blen m + 31) / 32) := by
  rw [B32_pow]
  exact (blen_iff _ _).2 (by omega)
theorem div_norm {b : Nat} (h : b ≠ 0) : Top32 (b * 2 ^ ((32 - blen b % 32) % 32)) ((blen (b * 2 ^ ((32 - blen b % 32) % 32)) + 31) / 32) := by
  have hp := blen_pos h
  have hl := pow_blen (n := b * 2 ^ ((32 - blen b % 32) % 32)) (Nat.mul_ne_zero h (Nat.pos_iff_ne_zero.1 (Nat.two_pow_pos _)))
  have hh := lt_blen (b * 2 ^ ((32 - blen b % 32) % 32))
  rw [blen_shl h] at *
  obtain ⟨n, hn⟩ : ∃ n, blen b + (32 - blen b % 32) % 32 = 32 * (n + 1) := ⟨(blen b + (32 - blen b % 32) % 32) / 32 - 1, by omega⟩
  generalize b * 2 ^ ((32 - blen b % 32) % 32) = y at *
  rw [hn] at *
  have e : (32 * (n + 1) + 31) / 32 = n + 1 := by omega
  rw [e]
  refine ⟨by omega, ?_, by rw [B32_pow]; exact hh⟩
  have e3 : (2 : Nat) ^ (32 * (n + 1)) = 2 * 2 ^ (32 * (n + 1) - 1) := by
    conv => lhs; rw [show 32 * (n + 1) = (32 * (n + 1) - 1) + 1 by omega]
    rw [Nat.pow_succ, Nat.mul_comm]
  rw [B32_pow, e3]
  omega
end Go.Proofs.Ytgihjgkpmochcaa

namespace Go.Proofs.Ytgihjgkpmochcaa
open Go.RowKit

theorem Num.only {w w' : World} {v : Value} {m b B : Nat} (h : Num w v m) (hf : FreshV B v) (hb : b < B) (o : Only b w w') : Num w' v m := by
  obtain ⟨ht, a, n, c, rfl, h⟩ := h
  exact ⟨ht, a, n, c, rfl, h.only o fun p hp => by have := hf a n c rfl p hp; omega⟩
theorem wrap_u64 {q : Nat} (h : q < B64) : IntKind.u64.wrap (q : Int) = q := IntWalk.u64_in _ (by unfold B64 at h; omega)
theorem two_lt {u v : Nat} (h1 : u < B32) (h2 : v < B32) : u * B32 + v < B64 := by unfold B32 at *; unfold B64; omega
/-- Two numbers, both normal. -/
def Two (w : World) (v : Value) (Q R : Nat) : Prop := ∃ q r, v = .tuple #[q, r] ∧ Num w q Q ∧ Num w r R

end Go.Proofs.Ytgihjgkpmochcaa

namespace Go.Proofs.Ytgihjgkpmochcaa
open Go.RowKit

theorem or_bit {x r : Nat} (h : x / 2 ^ r % 2 = 0) : x ||| 2 ^ r = x + 2 ^ r := by
  have e := Nat.div_add_mod x (2 ^ (r + 1))
  have e2 : x % 2 ^ (r + 1) = x % 2 ^ r := by
    rw [Nat.pow_succ, Nat.mod_mul, h, Nat.mul_zero, Nat.add_zero]
  rw [e2] at e
  have hlo : x % 2 ^ r < 2 ^ r := Nat.mod_lt _ (Nat.two_pow_pos r)
  generalize x % 2 ^ r = lo at *
  generalize x / 2 ^ (r + 1) = hi at *
  have h1 : lo < 2 ^ (r + 1) := Nat.lt_of_lt_of_le hlo (Nat.pow_le_pow_right (by omega) (by omega))
  have h2 : lo + 2 ^ r < 2 ^ (r + 1) := by rw [Nat.pow_succ]; omega
  have e3 : x = lo ||| (2 ^ (r + 1) * hi) := by rw [or_low _ _ _ h1]; omega
  have e4 : lo ||| 2 ^ r = lo + 2 ^ r := by have := or_low lo 1 r hlo; rwa [Nat.mul_one] at this
  rw [e3, Nat.or_assoc, Nat.or_comm _ (2 ^ r), ← Nat.or_assoc, e4, or_low _ _ _ h2, or_low _ _ _ h1]
  omega

set_option maxHeartbeats 400000 in
theorem rnorm_o {w : World} {v : Value} {m : Nat} (h : IsN w v m) :
    Calls Try.prog 40 #[v] w (Post w fun v w' => Own w' w.heap.size v (limbs m)) := by
  obtain ⟨i0, hi, hz0, hz1, hz2⟩ := info_parts info_u64
  obtain ⟨a, n, c, xs, rfl, h, hn, rfl⟩ := h
  have hfew := h.few
  have hcap := h.cap
  go_enter Try.func40, Try.ntmps40
  go_wp2
  go_loopw [3] (fun k wr => ∃ j : Nat, j ≤ n ∧ k = .int .i64 j ∧ Hid (nz xs j = nz xs n) ∧ w = wr) (fun k _ => (intOf k).toNat)
  case atStart => exact ⟨n, Nat.le_refl _, rfl, Lib.hid rfl, rfl⟩
  case round =>
    obtain ⟨j, hj, rfl, Hnz, rfl⟩ := hrel
    by_cases h0 : j = 0
    · subst h0
      have e := take_nz h.lt
      rw [h.len, ← Hnz.out, nz, List.take_zero] at e
      have HE := Lib.hid e
      clear e
      go_wp2_with (at_builtin; refine wpList_app w (Ext.refl _) rfl _ _ 26 rfl 34 i0 (.int .u64 0) 1 8 Try.underlying26 hi hz0 hz1 hz2 rfl (by decide) _ 0 [] rfl (World.ownsRow_nil _ _ _ _) a 0 _ [] rfl rfl (.inl rfl) (by simp) (by omega) (by omega) ?_; intro v' w1 hown hext _)
      go_ret
      exact Post.mk hext (by rw [← HE.out]; exact hown)
    · obtain ⟨j, rfl⟩ : ∃ i, j = i + 1 := ⟨j - 1, by omega⟩
      obtain ⟨b, off, rfl, hcell⟩ := h.at (i := j) (by omega)
      have hbd := h.bd j
      by_cases hz : xs[j]?.getD 0 = 0
      · have hz' : (((xs[j]?.getD 0 : Nat) : Int) == 0) = true := by rw [hz]; rfl
        have Hz := Lib.hid hz
        clear hz h
        go_wp2
        go_roundw
        case rel => exact ⟨j, by omega, by go_num, Lib.hid (by rw [← Hnz.out, nz, if_pos Hz.out]), trivial⟩
        case measure => simp [intOf]
      · have hz' : (((xs[j]?.getD 0 : Nat) : Int) == 0) = false := by simp [hz]
        have e := take_nz h.lt
        rw [h.len, ← Hnz.out, nz, if_neg hz] at e
        have hT := h.take (j + 1) (j + 1) hj (Nat.le_refl _)
        have hl := hT.len
        have hcs := hT.cells
        have hone := oneCell_u64 (xs.take (j + 1))
        generalize xs.take (j + 1) = ys at *
        have HE := Lib.hid e
        have HL := Lib.hid hl
        clear e hz h hT hl
        go_wp2_with (at_builtin; refine wpList_app w (Ext.refl _) rfl _ _ 26 rfl 34 i0 (.int .u64 0) 1 8 Try.underlying26 hi hz0 hz1 hz2 rfl (by decide) _ 0 [] rfl (World.ownsRow_nil _ _ _ _) _ (j + 1) _ (ys.map fun (x : Nat) => Value.int .u64 (x : Int)) rfl (by rw [List.length_map, HL.out]; omega) hcs hone (by omega) (by omega) ?_; intro v' w1 hown hext _)
        go_ret
        rw [Nat.zero_add, List.nil_append, ← HL.out] at hown
        exact Post.mk hext (by rw [← HE.out]; exact hown)

theorem Two.num {w : World} {v : Value} {Q R : Nat} (h : Two w v Q R) : ∃ q r, v = .tuple #[q, r] ∧ Num w q Q ∧ Num w r R := h
theorem Num.slice {w : World} {v : Value} {m : Nat} (h : Num w v m) : ∃ a n c, v = .slice a n c ∧ (n = 0 ↔ m = 0) ∧ n ≤ 2048 ∧ Num w (.slice a n c) m := by
  obtain ⟨ht, a, n, c, rfl, h⟩ := h
  refine ⟨a, n, c, rfl, ?_, few_of_top h ht, ht, a, n, c, rfl, h⟩
  rw [← h.len, List.length_eq_zero_iff]; exact limbs_eq_nil

end Go.Proofs.Ytgihjgkpmochcaa

namespace Go.Proofs.Ytgihjgkpmochcaa
open Go.RowKit

theorem own_slice {w : World} {B : Nat} {v : Value} {L : List Nat} (h : Own w B v L) (h0 : L ≠ []) : ∃ g cap, v = .slice (some ⟨g, 0, none⟩) L.length cap ∧ B ≤ g ∧ L.length ≤ cap ∧ w.ownsRow B 34 1 (.slice (some ⟨g, 0, none⟩) L.length cap) L.length (lims L) := by
  rcases h.2 with ⟨h1, h2⟩ | ⟨g, cap, cur, h1, h2, h3, h4, h5⟩
  · exact absurd (List.eq_nil_of_length_eq_zero h2) h0
  · exact ⟨g, cap, h1, h2, h4, by subst h1; exact h⟩
theorem own_nums {w : World} {B : Nat} {v : Value} {L : List Nat} (h : Own w B v L) : ∃ a c, v = .slice a L.length c ∧ L.length ≤ c ∧ c ≤ maxLen := by
  rcases h.2 with ⟨rfl, h0⟩ | ⟨g, cap, cur, rfl, _, _, h4, h5, _⟩
  · exact ⟨none, 0, by rw [h0], by omega, by unfold maxLen; omega⟩
  · exact ⟨_, cap, rfl, h4, h5⟩
/-- A row with a bit more. -/
theorem set_val {L : List Nat} {i q r x : Nat} (hq : i / 64 = q) (hr : i % 64 = r) (hL : q < L.length) (hx : L[q]?.getD 0 = x) (hlt : ∀ y ∈ L, y < B64) (hb : bitN (val L) i = 0) :
    x ||| 2 ^ r = x + 2 ^ r ∧ x + 2 ^ r < B64 ∧ val (L.set q (x + 2 ^ r)) = val L + 2 ^ i := by
  have hbit := bit_limb hlt i
  rw [hq, hr, hx, hb] at hbit
  have e := or_bit hbit
  have hxb : x < B64 := by rw [← hx, List.getElem?_eq_getElem hL]; exact hlt _ (List.getElem_mem hL)
  have hrb : (2 : Nat) ^ r < B64 := by rw [B64_two]; exact Nat.pow_lt_pow_right (by omega) (by omega)
  refine ⟨e, ?_, ?_⟩
  · rw [← e, B64_two]
    exact Nat.or_lt_two_pow (by rw [← B64_two]; exact hxb) (by rw [← B64_two]; exact hrb)
  · have hs := val_set L q (x + 2 ^ r) hL
    rw [hx, Nat.mul_add, B64_pow, ← Nat.pow_add, show 64 * q + r = i by omega] at hs
    omega
theorem getLast_set {L : List Nat} {q y : Nat} (hy : y ≠ 0) (hq : q < L.length) (h : q + 1 = L.length ∨ L.getLast?.getD 0 ≠ 0) : (L.set q y).getLast?.getD 0 ≠ 0 := by
  rw [List.getLast?_eq_getElem?, List.length_set, getD_set]
  split
  · exact hy
  · rename_i hne
    rcases h with h | h
    · exact absurd ⟨by omega, hq⟩ hne
    · rwa [List.getLast?_eq_getElem?] at h

theorem Sm.up {j k m : Nat} (h : Sm j m) (hk : j ≤ k) : Sm k m := Nat.lt_of_lt_of_le h (Nat.pow_le_pow_right B64_pos hk)
theorem Sm.blen {k m : Nat} (h : Sm k m) : blen m ≤ 64 * k := by
  apply (blen_iff _ _).1
  unfold Sm at h
  rwa [B64_pow] at h
theorem Sm.pow {k i : Nat} (h : i < 64 * k) : Sm k (2 ^ i) := by unfold Sm; rw [B64_pow]; exact Nat.pow_lt_pow_right (by omega) h
theorem cmpN_le {m n : Nat} (h : m ≤ n) : cmpN m n ≤ 0 := by
  unfold cmpN
  split
  · omega
  · rw [if_neg (by omega)]; omega
/-- The root's bits from above. -/
structure RootOk (a j o : Nat) : Prop where
  lo : o * o ≤ a
  hi : a < (o + 2 ^ j) * (o + 2 ^ j)
  mul : o % 2 ^ j = 0
theorem RootOk.start {a j : Nat} (h : j = blen a / 2 + 1) : RootOk a j 0 := by
  refine ⟨by simp, ?_, by simp⟩
  rw [Nat.zero_add, ← Nat.pow_add]
  exact (blen_iff _ _).2 (by omega)
theorem RootOk.bit {a i o : Nat} (h : RootOk a (i + 1) o) : bitN o i = 0 := by
  have := h.mul
  rw [Nat.pow_succ, Nat.mod_mul] at this
  unfold bitN
  have h2 := Nat.two_pow_pos i
  rcases Nat.eq_zero_or_pos (o / 2 ^ i % 2) with h3 | h3
  · exact h3
  · have : 2 ^ i * 1 ≤ 2 ^ i * (o / 2 ^ i % 2) := Nat.mul_le_mul_left _ h3
    omega
theorem RootOk.mod {a i o : Nat} (h : RootOk a (i + 1) o) : o % 2 ^ i = 0 := by
  have := h.mul
  rw [Nat.pow_succ, Nat.mod_mul] at this
  omega
theorem RootOk.yes {a i o : Nat} (h : RootOk a (i + 1) o) (hle : (o + 2 ^ i) * (o + 2 ^ i) ≤ a) : RootOk a i (o + 2 ^ i) := by
  refine ⟨hle, ?_, by rw [Nat.add_mod_right]; exact h.mod⟩
  have := h.hi
  rw [Nat.pow_succ] at this
  rw [Nat.add_assoc, show 2 ^ i + 2 ^ i = 2 ^ i * 2 by omega]
  exact this
theorem RootOk.no {a i o : Nat} (h : RootOk a (i + 1) o) (hlt : a < (o + 2 ^ i) * (o + 2 ^ i)) : RootOk a i o := ⟨h.lo, hlt, h.mod⟩
theorem RootOk.done {a o : Nat} (h : RootOk a 0 o) : IsRoot a o := ⟨h.lo, by have := h.hi; rwa [Nat.pow_zero] at this⟩
theorem RootOk.le {a j o : Nat} (h : RootOk a j o) : o ≤ a := by
  have := h.lo
  rcases Nat.eq_zero_or_pos o with h0 | h0
  · omega
  · exact Nat.le_trans (Nat.le_mul_of_pos_left o h0) this

end Go.Proofs.Ytgihjgkpmochcaa
