/- Parts of the proof: contracts of the functions that the law reaches, and the arithmetic that they rest on; no condition beyond those that each theorem states. -/
import Derived.Test.YtbncdghbnnefdaaGreatM1
import Derived.Test.YtbncdghbnnefdaaGreatM3
import Derived.Test.YtbncdghbnnefdaaGreatM6

namespace Go.Proofs.YtbncdghbnnefdaaGreat
open Go.RowKit

set_option maxHeartbeats 400000 in
theorem clone_o (a : Option Addr) (n c : Nat) (xs : List Nat) (w : World) (h : Nums w a n c xs) :
    Calls Tryz.prog 57 #[.slice a n c] w (Post w fun v w' => Own w' w.heap.size v xs) := by
  obtain ⟨i0, hi, hz0, hz1, hz2⟩ := info_parts info_u64
  obtain rfl := h.len
  have hfew := h.few
  have e1 := fun w => Lib.run_eql_slice_nil (P := Tryz.prog) w 31 94 a xs.length c 0 0 Tryz.underlying31
  by_cases ha : a = none
  · subst ha
    have h0 : xs.length = 0 := by rcases h.at_ with h0 | ⟨b, off, ha, _⟩; exact h0; cases ha
    go_enter Tryz.func57, Tryz.ntmps57
    have H0 := Lib.hid h0
    clear h0
    go_wp2
    go_ret
    refine Post.mk (Ext.refl _) ?_
    rw [List.eq_nil_of_length_eq_zero H0.out]
    exact Own.nil _ _
  · have ha' : a.isNone = false := by cases a <;> simp_all
    go_enter Tryz.func57, Tryz.ntmps57
    go_wp2_with (at_builtin; refine wpList_app w (Ext.of_alloc _ _) rfl _ _ 31 rfl 94 i0 (.int .u64 0) 1 8 Tryz.underlying31 hi hz0 hz1 hz2 rfl (by decide) _ 0 [] rfl (World.ownsRow_made w _ _ (Nat.le_refl _) (by decide) (by simp)) a xs.length c (xs.map fun (x : Nat) => Value.int .u64 (x : Int)) rfl (by simp) (h.cells.ext (Ext.of_alloc _ _)) (oneCell_u64 _) (by omega) (by omega) ?_; intro v' w1 hown hext _)
    go_ret
    rw [Nat.zero_add, List.nil_append] at hown
    exact Post.mk hext hown
theorem Own.mono {w : World} {B B' : Nat} {v : Value} {L : List Nat} (h : Own w B v L) (hb : B' ≤ B) : Own w B' v L := by
  refine ⟨h.1, ?_⟩
  rcases h.2 with h | ⟨g, cap, cur, h, h1, h2, h3⟩
  · exact .inl h
  · exact .inr ⟨g, cap, cur, h, by omega, h2, h3⟩

set_option maxHeartbeats 400000 in
theorem normal_o (a : Option Addr) (n c : Nat) (xs : List Nat) (w : World) (h : Nums w a n c xs) :
    Calls Tryz.prog 80 #[.slice a n c] w (Post w fun v w' => Own w' w.heap.size v (limbs (val xs))) := by
  have hfew := h.few
  have hcap := h.cap
  go_enter Tryz.func80, Tryz.ntmps80
  go_wp2
  go_loopw [3] (fun k wr => ∃ j : Nat, j ≤ n ∧ k = .int .i64 j ∧ nz xs j = nz xs n ∧ Ext w wr) (fun k _ => (intOf k).toNat)
  case atStart => exact ⟨n, Nat.le_refl _, rfl, rfl, Ext.refl _⟩
  case round =>
    obtain ⟨j, hj, rfl, hnz, hext⟩ := hrel
    have Hnz := Lib.hid hnz
    clear hnz
    by_cases h0 : j = 0
    · subst h0
      go_wp2_with (go_at_call 57; refine (clone_o _ _ _ _ _ ((h.take 0 0 (by omega) (by omega)).ext hext)).mono ?_; rintro e w1 ⟨v, rfl, hext1, hn⟩)
      go_ret
      refine Post.mk (hext.trans hext1) ?_
      have e := take_nz h.lt
      rw [h.len, ← Hnz.out, nz] at e
      rw [← e]; exact hn.mono hext.size
    · obtain ⟨j, rfl⟩ : ∃ i, j = i + 1 := ⟨j - 1, by omega⟩
      rcases h.at_ with h0 | ⟨b, off, rfl, hc⟩
      · omega
      have hcell := hext.cell (hc j (by omega))
      clear hc
      have hbd := h.bd j
      by_cases hz : xs[j]?.getD 0 = 0
      · have hz' : (((xs[j]?.getD 0 : Nat) : Int) == 0) = true := by rw [hz]; rfl
        have Hz := Lib.hid hz
        clear hz
        go_wp2
        go_roundw
        case rel => exact ⟨j, by omega, by go_num, by rw [← Hnz.out, nz, if_pos Hz.out], hext⟩
        case measure => simp [intOf]
      · have hz' : (((xs[j]?.getD 0 : Nat) : Int) == 0) = false := by simp [hz]
        go_wp2_with (go_at_call 57; refine (clone_o _ _ _ _ _ ((h.take (j + 1) (j + 1) (by omega) (by omega)).ext hext)).mono ?_; rintro e w1 ⟨v, rfl, hext1, hn⟩)
        go_ret
        refine Post.mk (hext.trans hext1) ?_
        have e := take_nz h.lt
        rw [h.len, ← Hnz.out, nz, if_neg hz] at e
        rw [← e]; exact hn.mono hext.size
/-- Norm's number, in a row of its own. -/
theorem norm_o {w : World} {v : Value} {m : Nat} (h : IsN w v m) (ht : m < Top) :
    Calls Tryz.prog 79 #[v] w (Post w fun v w' => ∃ x, v = .tuple #[x, .int .i64 0] ∧ Own w' w.heap.size x (limbs m)) := by
  obtain ⟨a, n, c, xs, rfl, h, hn, rfl⟩ := h
  have hf := (fits_iff _).2 ht
  have told : Calls Tryz.prog 64 #[.slice a n c] w (Post w fun v w' => ∃ x, v = .tuple #[x, .int .i64 0] ∧ Own w' w.heap.size x (limbs (val xs))) := by
    go_enter Tryz.func64, Tryz.ntmps64
    go_wp2_with fail
    refine (normal_o _ _ _ _ _ h).mono ?_
    rintro e w1 ⟨v, rfl, hext1, hown⟩
    have hlt := lt_limbs (val xs)
    generalize hL : limbs (val xs) = L at *
    have HL := Lib.hid hL
    clear hL
    obtain ⟨a', c', rfl, hN, _⟩ := hown.nums (by omega) hlt
    by_cases h0 : L = []
    · subst h0
      have H := Lib.hid hown
      clear hown
      go_wp2
      go_ret2
      exact Post.mk hext1 ⟨_, rfl, by rw [HL.out]; exact Own.nil _ _⟩
    · have hpos : 0 < L.length := List.length_pos_iff.2 h0
      have H := Lib.hid hown
      clear hown h0
      go_wp2
      go_ret2
      exact Post.mk hext1 ⟨_, rfl, by rw [HL.out]; exact H.out⟩
  go_enter Tryz.func79, Tryz.ntmps79
  go_wp2_with fail
  refine told.mono ?_
  rintro e w1 ⟨v, rfl, hext1, x, rfl, hown⟩
  have H := Lib.hid hown
  clear hown told
  go_wp2
  go_ret2
  exact Post.mk hext1 ⟨_, rfl, H.out⟩
end Go.Proofs.YtbncdghbnnefdaaGreat

namespace Go.Proofs.YtbncdghbnnefdaaGreat

/-- A divisor whose top digit has its top bit set. -/
structure Top32 (y n : Nat) : Prop where
  pos : 0 < n
  lo : B32 ^ n ≤ 2 * y
  hi : y < B32 ^ n
theorem Top32.y0 {y n : Nat} (h : Top32 y n) : 0 < y := by
  have := Nat.pow_pos (n := n) B32_pos
  have := h.lo; omega
theorem Top32.top {y n : Nat} (h : Top32 y (n + 1)) : 2147483648 ≤ dg y n ∧ dg y n * B32 ^ n ≤ y := by
  have h1 := h.lo
  have h2 := h.hi
  rw [Nat.pow_succ] at h1 h2
  have hd : y / B32 ^ n < B32 := Nat.div_lt_of_lt_mul h2
  have e : dg y n = y / B32 ^ n := by unfold dg; exact Nat.mod_eq_of_lt hd
  rw [e]
  refine ⟨?_, Nat.div_mul_le_self _ _⟩
  apply (Nat.le_div_iff_mul_le (Nat.pow_pos B32_pos)).2
  have e2 : B32 = 2 * 2147483648 := rfl
  have e3 : B32 ^ n * B32 = 2 * (2147483648 * B32 ^ n) := by rw [Nat.mul_comm (B32 ^ n), ← Nat.mul_assoc]; rfl
  omega
/-- The two digits on top of the rest. -/
theorem two_digits {r n : Nat} (h : r < B32 ^ (n + 2)) : dg r (n + 1) * B32 + dg r n = r / B32 ^ n := by
  have h2 : r / B32 ^ n < B32 * B32 := by
    apply Nat.div_lt_of_lt_mul
    rw [← Nat.mul_assoc, ← Nat.pow_succ, ← Nat.pow_succ]; exact h
  unfold dg
  rw [Nat.pow_succ, ← Nat.div_div_eq_div_mul]
  generalize r / B32 ^ n = t at *
  have h3 : t / B32 < B32 := Nat.div_lt_of_lt_mul h2
  rw [Nat.mod_eq_of_lt h3]
  have := Nat.div_add_mod t B32
  rw [Nat.mul_comm] at this
  exact this
/-- A guess that is not below the quotient. -/
theorem guess32 {y n r g : Nat} (hy : Top32 y (n + 1)) (hr : r < y * B32) (hg : g = min ((dg r (n + 1) * B32 + dg r n) / dg y n) (B32 - 1)) : r / y ≤ g ∧ g < B32 := by
  have hlt : r < B32 ^ (n + 2) := by
    rw [Nat.pow_succ]
    exact Nat.lt_of_lt_of_le hr (Nat.mul_le_mul_right _ (Nat.le_of_lt hy.hi))
  have hq : r / y < B32 := Nat.div_lt_of_lt_mul hr
  obtain ⟨ht, htl⟩ := hy.top
  rw [two_digits hlt] at hg
  have key : r / y ≤ r / B32 ^ n / dg y n := by
    apply (Nat.le_div_iff_mul_le (by omega)).2
    apply (Nat.le_div_iff_mul_le (Nat.pow_pos B32_pos)).2
    rw [Nat.mul_assoc]
    exact Nat.le_trans (Nat.mul_le_mul_left _ htl) (Nat.div_mul_le_self _ _)
  have hB : 0 < B32 := B32_pos
  rw [hg]
  refine ⟨Nat.le_min.2 ⟨key, by omega⟩, ?_⟩
  have := Nat.min_le_right (r / B32 ^ n / dg y n) (B32 - 1)
  omega
/-- The quotient so far. -/
structure Quo (x y N j : Nat) (R : List Nat) (r : Nat) : Prop where
  len : R.length = N
  lt : ∀ u ∈ R, u < B32
  q : dval (R.drop j) = x / B32 ^ j / y
  r : r = x / B32 ^ j % y
theorem Quo.start {x y N : Nat} (h : x / B32 ^ N < y) : Quo x y N N (List.replicate N 0) (x / B32 ^ N) :=
  ⟨by simp, fun u hu => by rw [(List.mem_replicate.1 hu).2]; exact B32_pos, by rw [Nat.div_eq_of_lt h]; simp [dval], (Nat.mod_eq_of_lt h).symm⟩
theorem Quo.down {x y N j r : Nat} {R : List Nat} (h : Quo x y N (j + 1) R r) (hy : 0 < y) : r * B32 + dg x j < y * B32 ∧ r * B32 + dg x j = (x / B32 ^ (j + 1) % y) * B32 + dg x j := by
  have h1 := dg_lt x j
  have h2 : r < y := by rw [h.r]; exact Nat.mod_lt _ hy
  refine ⟨?_, by rw [h.r]⟩
  have : (r + 1) * B32 ≤ y * B32 := Nat.mul_le_mul_right _ h2
  rw [Nat.add_mul] at this
  omega
theorem Quo.step {x y N j r r' : Nat} {R : List Nat} (h : Quo x y N (j + 1) R r) (hy : 0 < y) (hj : j < N) (hr : r' = r * B32 + dg x j) (hq : r' / y < B32) : Quo x y N j (R.set j (r' / y)) (r' - y * (r' / y)) := by
  have hd := h.down hy
  rw [← hr] at hd
  have ex : x / B32 ^ j = B32 * (x / B32 ^ (j + 1)) + dg x j := by
    unfold dg; rw [Nat.pow_succ, ← Nat.div_div_eq_div_mul, Nat.div_add_mod]
  have e1 := Nat.div_add_mod (x / B32 ^ (j + 1)) y
  have e2 : x / B32 ^ j = y * (B32 * (x / B32 ^ (j + 1) / y)) + r' := by
    rw [hd.2, ex]
    conv => lhs; rw [← e1]
    rw [Nat.mul_add, Nat.add_assoc, Nat.mul_left_comm B32 y, Nat.mul_comm B32 (_ % y)]
  refine ⟨by simp [h.len], fun u hu => ?_, ?_, ?_⟩
  · rcases List.mem_or_eq_of_mem_set hu with hu | rfl
    · exact h.lt u hu
    · exact hq
  · rw [List.drop_eq_getElem_cons (by simp [h.len, hj]), dval, List.getElem_set_self, List.drop_set, if_pos (by omega), h.q, e2, Nat.mul_add_div hy, Nat.add_comm]
  · rw [e2, Nat.mul_add_mod]
    have := Nat.div_add_mod r' y
    omega
theorem Quo.done {x y N r : Nat} {R : List Nat} (h : Quo x y N 0 R r) : dval R = x / y ∧ r = x % y := by
  have h1 := h.q
  have h2 := h.r
  rw [List.drop_zero, Nat.pow_zero, Nat.div_one] at h1
  rw [Nat.pow_zero, Nat.div_one] at h2
  exact ⟨h1, h2⟩
theorem blen_shl {m s : Nat} (h : m ≠ 0) : blen (m * 2 ^ s) = blen m + s := by
  have := blen_mul_add (x := 0) (n := m) (k := s) (Nat.two_pow_pos s) h
  rw [Nat.zero_add, Nat.mul_comm] at this
  omega
theorem lt_digits (m : Nat) : m < B32 ^ ((blen m + 31) / 32) := by
  rw [B32_pow]
  exact (blen_iff _ _).2 (by omega)
theorem div_norm {b : Nat} (h : b ≠ 0) : Top32 (b * 2 ^ ((32 - blen b % 32) % 32)) ((blen (b * 2 ^ ((32 - blen b % 32) % 32)) + 31) / 32) := by
  have hp := blen_pos h
  have hl := pow_blen (n := b * 2 ^ ((32 - blen b % 32) % 32)) (Nat.mul_ne_zero h (Nat.pos_iff_ne_zero.1 (Nat.two_pow_pos _)))
  have hh := lt_blen (b * 2 ^ ((32 - blen b % 32) % 32))
  rw [blen_shl h] at *
  obtain ⟨n, hn⟩ : ∃ n, blen b + (32 - blen b % 32) % 32 = 32 * (n + 1) := ⟨(blen b + (32 - blen b % 32) % 32) / 32 - 1, by omega⟩
  generalize b * 2 ^ ((32 - blen b % 32) % 32) = y at *
  rw [hn] at *
  have e : (32 * (n + 1) + 31) / 32 = n + 1 := by omega
  rw [e]
  refine ⟨by omega, ?_, by rw [B32_pow]; exact hh⟩
  have e3 : (2 : Nat) ^ (32 * (n + 1)) = 2 * 2 ^ (32 * (n + 1) - 1) := by
    conv => lhs; rw [show 32 * (n + 1) = (32 * (n + 1) - 1) + 1 by omega]
    rw [Nat.pow_succ, Nat.mul_comm]
  rw [B32_pow, e3]
  omega
end Go.Proofs.YtbncdghbnnefdaaGreat

namespace Go.Proofs.YtbncdghbnnefdaaGreat
open Go.RowKit

theorem Num.only {w w' : World} {v : Value} {m b B : Nat} (h : Num w v m) (hf : FreshV B v) (hb : b < B) (o : Only b w w') : Num w' v m := by
  obtain ⟨ht, a, n, c, rfl, h⟩ := h
  exact ⟨ht, a, n, c, rfl, h.only o fun p hp => by have := hf a n c rfl p hp; omega⟩
theorem wrap_u64 {q : Nat} (h : q < B64) : IntKind.u64.wrap (q : Int) = q := IntWalk.u64_in _ (by unfold B64 at h; omega)
theorem two_lt {u v : Nat} (h1 : u < B32) (h2 : v < B32) : u * B32 + v < B64 := by unfold B32 at *; unfold B64; omega
/-- Two numbers, both normal. -/
def Two (w : World) (v : Value) (Q R : Nat) : Prop := ∃ q r, v = .tuple #[q, r] ∧ Num w q Q ∧ Num w r R

set_option maxRecDepth 100000 in
set_option maxHeartbeats 2000000 in
theorem rdiv_less {w : World} {v1 v2 : Value} {a b M n : Nat} (h1 : IsN w v1 a) (h2 : IsN w v2 b) (ha : Sm 2040 a) (hb : Sm 2040 b) (hn : 0 < n) (hlt : M < n)
    (hMe : (blen (a * 2 ^ ((32 - blen b % 32) % 32)) + 31) / 32 = M) (hne : (blen (b * 2 ^ ((32 - blen b % 32) % 32)) + 31) / 32 = n) :
    Calls Tryz.prog 75 #[v1, v2] w (Post w fun v w' => Two w' v 0 a) := by
  have ta := ha.top (by omega)
  have tb := hb.top (by omega)
  have hbl := blen_top tb
  obtain ⟨s, hs⟩ : ∃ s, (32 - blen b % 32) % 32 = s := ⟨_, rfl⟩
  rw [hs] at hMe hne
  have hs' : (32 - (blen b : Int) % 32) % 32 = s := by omega
  have hs31 : s < 32 := by omega
  have sp : Sm 1 (2 ^ s) := by unfold Sm; rw [Nat.pow_one, B64_two]; exact Nat.pow_lt_pow_right (by omega) (by omega)
  have tx := (ha.mul sp).top (by omega)
  have ty := (hb.mul sp).top (by omega)
  have hbx := blen_top tx
  have hby := blen_top ty
  have hM1 : M ≤ 5000 := by omega
  have hn1 : n ≤ 5000 := by omega
  obtain ⟨bl, hbe⟩ : ∃ bl, blen b = bl := ⟨_, rfl⟩
  rw [hbe] at hs' hbl
  have HBL := Lib.hid hbe
  have HM := Lib.hid hMe
  have HN := Lib.hid hne
  clear hbe hMe hne hs hbx hby
  go_enter Tryz.func75, Tryz.ntmps75
  go_wp2_with fail
  refine (rBits_n h2).mono ?_
  rintro e w' ⟨rfl, rfl⟩
  rw [HBL.out]
  go_wp2_with fail
  refine (rshl_n s h1 (by omega) tx).mono ?_
  rintro e w1 ⟨xv, rfl, E1, hx⟩
  go_wp2_with fail
  refine (rshl_n s (h2.ext (by repeat (first | with_reducible exact Ext.refl _ | with_reducible assumption | (with_reducible refine Ext.alloc ?_ _) | (with_reducible refine Ext.drew ?_) | (with_reducible refine Ext.drewN ?_ _) | (with_reducible refine Ext.set ?_ (by first | (simp; done) | (simp; omega)) _) | (with_reducible refine Ext.trans ?_ (by with_reducible assumption))))) (by omega) ty).mono ?_
  rintro e w2 ⟨yv, rfl, E2, hy⟩
  go_wp2_with fail
  refine (digits_n (hx.is.ext (by repeat (first | with_reducible exact Ext.refl _ | with_reducible assumption | (with_reducible refine Ext.alloc ?_ _) | (with_reducible refine Ext.drew ?_) | (with_reducible refine Ext.drewN ?_ _) | (with_reducible refine Ext.set ?_ (by first | (simp; done) | (simp; omega)) _) | (with_reducible refine Ext.trans ?_ (by with_reducible assumption))))) tx).mono ?_
  rintro e w' ⟨rfl, rfl⟩
  rw [HM.out]
  go_wp2_with fail
  refine (digits_n hy.is ty).mono ?_
  rintro e w' ⟨rfl, rfl⟩
  rw [HN.out]
  go_wp2_with fail
  refine (rnorm_n (h1.ext (by repeat (first | with_reducible exact Ext.refl _ | with_reducible assumption | (with_reducible refine Ext.alloc ?_ _) | (with_reducible refine Ext.drew ?_) | (with_reducible refine Ext.drewN ?_ _) | (with_reducible refine Ext.set ?_ (by first | (simp; done) | (simp; omega)) _) | (with_reducible refine Ext.trans ?_ (by with_reducible assumption))))) ta).mono ?_
  rintro e w3 ⟨rv, rfl, E3, hrv⟩
  go_wp2
  go_ret2
  exact Post.mk (by repeat (first | with_reducible exact Ext.refl _ | with_reducible assumption | (with_reducible refine Ext.alloc ?_ _) | (with_reducible refine Ext.drew ?_) | (with_reducible refine Ext.drewN ?_ _) | (with_reducible refine Ext.set ?_ (by first | (simp; done) | (simp; omega)) _) | (with_reducible refine Ext.trans ?_ (by with_reducible assumption)))) ⟨_, _, rfl, Num.nil _, hrv⟩

set_option maxRecDepth 100000 in
set_option maxHeartbeats 4000000 in
theorem rdiv_main {w : World} {v1 v2 : Value} {a b M n1 d : Nat} (h1 : IsN w v1 a) (h2 : IsN w v2 b) (ha : Sm 2040 a) (hb : Sm 2040 b) (hb0 : b ≠ 0) (hd : M = n1 + 1 + d)
    (hMe : (blen (a * 2 ^ ((32 - blen b % 32) % 32)) + 31) / 32 = M) (hne : (blen (b * 2 ^ ((32 - blen b % 32) % 32)) + 31) / 32 = n1 + 1) :
    Calls Tryz.prog 75 #[v1, v2] w (Post w fun v w' => Two w' v (a / b) (a % b)) := by
  obtain ⟨i0, hi, hz0, hz1, hz2⟩ := info_parts info_u64
  have htop := div_norm hb0
  have hxlt := lt_digits (a * 2 ^ ((32 - blen b % 32) % 32))
  rw [hMe] at hxlt
  rw [hne] at htop
  have ta := ha.top (by omega)
  have tb := hb.top (by omega)
  have hbl := blen_top tb
  obtain ⟨s, hs⟩ : ∃ s, (32 - blen b % 32) % 32 = s := ⟨_, rfl⟩
  rw [hs] at hMe hne htop hxlt
  have hs' : (32 - (blen b : Int) % 32) % 32 = s := by omega
  have hs31 : s < 32 := by omega
  have sp : Sm 1 (2 ^ s) := by unfold Sm; rw [Nat.pow_one, B64_two]; exact Nat.pow_lt_pow_right (by omega) (by omega)
  have tx := (ha.mul sp).top (by omega)
  have ty := (hb.mul sp).top (by omega)
  have hbx := blen_top tx
  have hby := blen_top ty
  have hM1 : M ≤ 5000 := by omega
  obtain ⟨X, hX⟩ : ∃ X, a * 2 ^ s = X := ⟨_, rfl⟩
  obtain ⟨Y, hY⟩ : ∃ Y, b * 2 ^ s = Y := ⟨_, rfl⟩
  have hq1 : X / Y = a / b := by rw [← hX, ← hY]; exact Nat.mul_div_mul_right _ _ (Nat.two_pow_pos s)
  have hq2 : X % Y / 2 ^ s = a % b := by rw [← hX, ← hY, Nat.mul_mod_mul_right, Nat.mul_div_cancel _ (Nat.two_pow_pos s)]
  have hq3 : a / b < Top := Nat.lt_of_le_of_lt (Nat.div_le_self _ _) ta
  have hxd : X / B32 ^ (d + 1) < Y := by
    have h1 : X / B32 ^ (d + 1) < B32 ^ n1 := by
      apply Nat.div_lt_of_lt_mul
      rw [← Nat.pow_add, show d + 1 + n1 = M by omega, ← hX]; exact hxlt
    have h2 := htop.top
    have h3 := htop.lo
    rw [hY, Nat.pow_succ] at h3
    have h4 : B32 ^ n1 * 2 ≤ B32 ^ n1 * B32 := Nat.mul_le_mul_left _ (by unfold B32; omega)
    omega
  have hpk : (2 : Nat) ^ (32 * (d + 1)) = B32 ^ (d + 1) := by rw [B32_pow]
  have s32 : Sm 1 B32 := by unfold Sm; rw [Nat.pow_one]; unfold B32 B64; omega
  have hYB : Y * B32 < Top := by rw [← hY]; exact ((hb.mul sp).mul s32).top (by omega)
  rw [hX] at hMe tx hbx
  rw [hY] at hne ty hby htop
  clear hxlt
  obtain ⟨k, hk⟩ : ∃ k, 32 * (d + 1) = k := ⟨_, rfl⟩
  rw [hk] at hpk
  have hk' : 32 * ((d : Int) + 1) = k := by omega
  have hkb : k ≤ 200000 := by omega
  have hd1 : (M : Int) - ((n1 : Int) + 1) = d := by omega
  have hdb : d ≤ 5000 := by omega
  have HK := Lib.hid hpk
  have HD := Lib.hid hd
  have HQ := Lib.hid (And.intro hq1 (And.intro hq2 hq3))
  have HXD := Lib.hid hxd
  have HXY := Lib.hid (And.intro hX hY)
  have HTOP := Lib.hid htop
  have hn1b : n1 ≤ 5000 := by omega
  have hMn : ¬ (M : Int) < (n1 : Int) + 1 := by omega
  clear hpk hd hq1 hq2 hq3 hxd hX hY htop hk
  obtain ⟨bl, hbe⟩ : ∃ bl, blen b = bl := ⟨_, rfl⟩
  rw [hbe] at hs' hbl
  have HBL := Lib.hid hbe
  have HM := Lib.hid hMe
  have HN := Lib.hid hne
  clear hbe hMe hne hs hbx hby
  go_enter Tryz.func75, Tryz.ntmps75
  go_wp2_with fail
  refine (rBits_n h2).mono ?_
  rintro e w' ⟨rfl, rfl⟩
  rw [HBL.out]
  go_wp2_with fail
  refine (rshl_n s h1 (by omega) (by rw [HXY.out.1]; exact tx)).mono ?_
  rintro e w1 ⟨xv, rfl, E1, hx⟩
  rw [HXY.out.1] at hx
  go_wp2_with fail
  refine (rshl_n s (h2.ext (by repeat (first | with_reducible exact Ext.refl _ | with_reducible assumption | (with_reducible refine Ext.alloc ?_ _) | (with_reducible refine Ext.drew ?_) | (with_reducible refine Ext.drewN ?_ _) | (with_reducible refine Ext.set ?_ (by first | (simp; done) | (simp; omega)) _) | (with_reducible refine Ext.trans ?_ (by with_reducible assumption))))) (by omega) (by rw [HXY.out.2]; exact ty)).mono ?_
  rintro e w2 ⟨yv, rfl, E2, hy⟩
  rw [HXY.out.2] at hy
  go_wp2_with fail
  refine (digits_n (hx.is.ext (by repeat (first | with_reducible exact Ext.refl _ | with_reducible assumption | (with_reducible refine Ext.alloc ?_ _) | (with_reducible refine Ext.drew ?_) | (with_reducible refine Ext.drewN ?_ _) | (with_reducible refine Ext.set ?_ (by first | (simp; done) | (simp; omega)) _) | (with_reducible refine Ext.trans ?_ (by with_reducible assumption))))) tx).mono ?_
  rintro e w' ⟨rfl, rfl⟩
  rw [HM.out]
  go_wp2_with fail
  refine (digits_n hy.is ty).mono ?_
  rintro e w' ⟨rfl, rfl⟩
  rw [HN.out]
  rw [show (((n1 + 1 : Nat)) : Int) = (n1 : Int) + 1 from rfl]
  have hne0 : ((n1 : Int) + 1 == 0) = false := by rw [beq_eq_false_iff_ne]; omega
  have hMd : decide ((M : Int) < (n1 : Int) + 1) = false := decide_eq_false (by omega)
  go_wp2_with (at_make; refine wpList_make_row _ rfl _ _ 30 rfl 94 i0 Tryz.underlying30 hi hz0 hz1 hz2 _ _ _ _ (d + 1) rfl rfl (by omega) (by omega) (by omega) ?_; intro w3 hrow E3 hsz)
  refine (rshr_n k (hx.is.ext (by repeat (first | with_reducible exact Ext.refl _ | with_reducible assumption | (with_reducible refine Ext.alloc ?_ _) | (with_reducible refine Ext.drew ?_) | (with_reducible refine Ext.drewN ?_ _) | (with_reducible refine Ext.set ?_ (by first | (simp; done) | (simp; omega)) _) | (with_reducible refine Ext.trans ?_ (by with_reducible assumption))))) (by omega) tx).mono ?_
  rintro e w4 ⟨rv, rfl, E4, hr⟩
  rw [HK.out] at hr
  have hx := hx.ext E2
  have hrow := hrow.ext E4
  have E24 : Ext w2 w4 := (by repeat (first | with_reducible exact Ext.refl _ | with_reducible assumption | (with_reducible refine Ext.alloc ?_ _) | (with_reducible refine Ext.drew ?_) | (with_reducible refine Ext.drewN ?_ _) | (with_reducible refine Ext.set ?_ (by first | (simp; done) | (simp; omega)) _) | (with_reducible refine Ext.trans ?_ (by with_reducible assumption))))
  have EW2 : Ext w w2 := (by repeat (first | with_reducible exact Ext.refl _ | with_reducible assumption | (with_reducible refine Ext.alloc ?_ _) | (with_reducible refine Ext.drew ?_) | (with_reducible refine Ext.drewN ?_ _) | (with_reducible refine Ext.set ?_ (by first | (simp; done) | (simp; omega)) _) | (with_reducible refine Ext.trans ?_ (by with_reducible assumption))))
  have HST := Lib.hid (Quo.start HXD.out)
  clear E1 E2 E3 E4 hsz h1 h2 HK HD HXD hk' hkb hs' HBL HM HN hbl
  go_wp2
  clear hMn hMd hne0 hd1
  go_loopw [12, 13] (fun rv iv wr => ∃ (I : Int) (j r : Nat) (R : List Nat), iv = .int .i64 I ∧ Hid (I = (j : Int) - 1) ∧ j ≤ d + 1 ∧ Num wr rv r ∧ Row wr w2.heap.size 94 R ∧ Hid (Quo X Y (d + 1) j R r) ∧ Ext w2 wr) (fun _ iv _ => (intOf iv + 1).toNat)
  case atStart => exact ⟨d, d + 1, _, _, rfl, Lib.hid (by omega), Nat.le_refl _, hr, hrow, HST, E24⟩
  case round =>
    clear hr hrow E24 HST
    obtain ⟨I, j, r, R, rfl, HI, hj, hr, hrow, HQR, hE⟩ := hrel
    by_cases h0 : j = 0
    · subst h0
      obtain rfl : I = -1 := by have := HI.out; omega
      have hdn := HQR.out.done
      have hRl := HQR.out.len
      have hRlt := HQR.out.lt
      have hown := Own.of_row (B := w2.heap.size) (n := d + 1) hrow (Nat.le_refl _) hRl.symm (by omega)
      have HDN := Lib.hid hdn
      have HRL := Lib.hid (And.intro hRl hRlt)
      have hrT := hr.lt
      clear hdn hRl hRlt
      go_wp2_with fail
      refine (made_own hown HRL.out.2 (by have := HRL.out.1; omega) (by rw [HDN.out.1, HQ.out.1]; exact HQ.out.2.2)).mono ?_
      rintro e w5 ⟨qv, rfl, E5, hqv⟩
      rw [HDN.out.1, HQ.out.1] at hqv
      go_wp2_with fail
      refine (rshr_n s (hr.is.ext E5) (by omega) hrT).mono ?_
      rintro e w6 ⟨rr, rfl, E6, hrr⟩
      rw [HDN.out.2, HQ.out.2.1] at hrr
      go_wp2
      go_ret2
      exact Post.mk (by repeat (first | with_reducible exact Ext.refl _ | with_reducible assumption | (with_reducible refine Ext.alloc ?_ _) | (with_reducible refine Ext.drew ?_) | (with_reducible refine Ext.drewN ?_ _) | (with_reducible refine Ext.set ?_ (by first | (simp; done) | (simp; omega)) _) | (with_reducible refine Ext.trans ?_ (by with_reducible assumption)))) ⟨_, _, rfl, hqv.ext E6, hrr⟩
    · obtain ⟨i, rfl⟩ : ∃ i, j = i + 1 := ⟨j - 1, by omega⟩
      obtain rfl : I = i := by have := HI.out; omega
      have hid : i ≤ d := by omega
      have hy0 := HTOP.out.y0
      have hdw := (HQR.out.down hy0).1
      have hrT := hr.lt
      have hd1 := dg_lt X i
      have hrs : r * 2 ^ 32 + dg X i < Top := Nat.lt_trans hdw hYB
      have hrb : r * 2 ^ 32 < Top := Nat.lt_of_le_of_lt (Nat.le_add_right _ _) hrs
      have HR2 := Lib.hid (show r * 2 ^ 32 + dg X i = r * B32 + dg X i from rfl)
      go_wp2_with fail
      refine (rshl_n 32 hr.is (by omega) hrb).mono ?_
      rintro e w5 ⟨r1, rfl, E5, hr1⟩
      go_wp2_with fail
      refine (digit_n i (hx.is.ext (by repeat (first | with_reducible exact Ext.refl _ | with_reducible assumption | (with_reducible refine Ext.alloc ?_ _) | (with_reducible refine Ext.drew ?_) | (with_reducible refine Ext.drewN ?_ _) | (with_reducible refine Ext.set ?_ (by first | (simp; done) | (simp; omega)) _) | (with_reducible refine Ext.trans ?_ (by with_reducible assumption))))) (by omega)).mono ?_
      rintro e w' ⟨rfl, rfl⟩
      go_wp2_with fail
      refine (radd_n (hr1.is.ext (by repeat (first | with_reducible exact Ext.refl _ | with_reducible assumption | (with_reducible refine Ext.alloc ?_ _) | (with_reducible refine Ext.drew ?_) | (with_reducible refine Ext.drewN ?_ _) | (with_reducible refine Ext.set ?_ (by first | (simp; done) | (simp; omega)) _) | (with_reducible refine Ext.trans ?_ (by with_reducible assumption))))) (IsN.one (by simp) (Nat.lt_trans hd1 (by unfold B32 B64; omega)) (by omega)) hrs).mono ?_
      rintro e w6 ⟨r2, rfl, E6, hr2⟩
      obtain ⟨ρ, hρ⟩ : ∃ ρ, r * 2 ^ 32 + dg X i = ρ := ⟨_, rfl⟩
      rw [hρ] at hr2
      have hρ2 : ρ = r * B32 + dg X i := hρ.symm
      have hρY : ρ < Y * B32 := by rw [hρ2]; exact hdw
      have hgs := fun g hg => guess32 (g := g) HTOP.out hρY hg
      have hstep := fun hq => HQR.out.step (r' := ρ) hy0 (by omega) hρ2 hq
      have htop := HTOP.out.top.1
      have hu1 := dg_lt ρ (n1 + 1)
      have hu2 := dg_lt ρ n1
      have hu3 := dg_lt Y n1
      have c1 := digit_n (n1 + 1) hr2.is (by omega)
      have c2 := digit_n n1 hr2.is (by omega)
      have c3 := digit_n n1 (hy.is.ext (show Ext w2 w6 from (by repeat (first | with_reducible exact Ext.refl _ | with_reducible assumption | (with_reducible refine Ext.alloc ?_ _) | (with_reducible refine Ext.drew ?_) | (with_reducible refine Ext.drewN ?_ _) | (with_reducible refine Ext.set ?_ (by first | (simp; done) | (simp; omega)) _) | (with_reducible refine Ext.trans ?_ (by with_reducible assumption)))))) (by omega)
      rw [show (((n1 + 1 : Nat)) : Int) = (n1 : Int) + 1 from rfl] at c1
      generalize dg ρ (n1 + 1) = u1 at *
      generalize dg ρ n1 = u2 at *
      generalize dg Y n1 = t at *
      obtain ⟨U, hU⟩ : ∃ U, u1 * B32 + u2 = U := ⟨_, rfl⟩
      obtain ⟨q, hq⟩ : ∃ q, U / t = q := ⟨_, rfl⟩
      obtain ⟨g, hg⟩ : ∃ g, min q (B32 - 1) = g := ⟨_, rfl⟩
      obtain ⟨hg1, hg2⟩ := hgs g (by rw [← hg, ← hq, ← hU])
      have hQ := Nat.lt_of_le_of_lt hg1 hg2
      have hst := hstep hQ
      have eU : (u1 : Int) * 4294967296 + u2 = U := by rw [← hU]; unfold B32; omega
      have eq : (U : Int) / t = q := by rw [← hq]; push_cast; rfl
      have eg : min (q : Int) 4294967295 = g := by rw [← hg]; unfold B32; omega
      have hUb : U < B64 := by rw [← hU]; exact two_lt hu1 hu2
      have hqw : IntKind.u64.wrap (q : Int) = q := wrap_u64 (by rw [← hq]; exact Nat.lt_of_le_of_lt (Nat.div_le_self U t) hUb)
      have bu1 : (u1 : Int) < 4294967296 := by unfold B32 at hu1; omega
      have bu2 : (u2 : Int) < 4294967296 := by unfold B32 at hu2; omega
      have bt : (2147483648 : Int) ≤ t := by omega
      have bt2 : (t : Int) < 4294967296 := by unfold B32 at hu3; omega
      have HST := Lib.hid hst
      have HG := Lib.hid (And.intro hg1 (And.intro hg2 hρY))
      clear hUb hgs hstep htop hu1 hu2 hu3 hU hq hg hg1 hg2 hQ hst hρ hρ2 hρY HR2 hdw hrs hrb hd1 HI hj h0
      go_wp2_with fail
      refine c1.mono ?_
      rintro e w' ⟨rfl, rfl⟩
      go_wp2_with fail
      refine c2.mono ?_
      rintro e w' ⟨rfl, rfl⟩
      go_wp2_with fail
      refine c3.mono ?_
      rintro e w' ⟨rfl, rfl⟩
      clear c1 c2 c3
      go_wp2_with fail
      have hpT : Y * g < Top := Nat.lt_of_le_of_lt (Nat.mul_le_mul_left _ (Nat.le_of_lt HG.out.2.1)) hYB
      refine (rmul_n (hy.is.ext (by repeat (first | with_reducible exact Ext.refl _ | with_reducible assumption | (with_reducible refine Ext.alloc ?_ _) | (with_reducible refine Ext.drew ?_) | (with_reducible refine Ext.drewN ?_ _) | (with_reducible refine Ext.set ?_ (by first | (simp; done) | (simp; omega)) _) | (with_reducible refine Ext.trans ?_ (by with_reducible assumption))))) (IsN.one (by simp) (Nat.lt_trans HG.out.2.1 (by unfold B32 B64; omega)) (by omega)) hpT).mono ?_
      rintro e w7 ⟨pv, rfl, h7, hp⟩
      have E7 : Ext w6 w7 := (by repeat (first | with_reducible exact Ext.refl _ | with_reducible assumption | (with_reducible refine Ext.alloc ?_ _) | (with_reducible refine Ext.drew ?_) | (with_reducible refine Ext.drewN ?_ _) | (with_reducible refine Ext.set ?_ (by first | (simp; done) | (simp; omega)) _) | (with_reducible refine Ext.trans ?_ (by with_reducible assumption))))
      have E6' : Ext wr w6 := (by repeat (first | with_reducible exact Ext.refl _ | with_reducible assumption | (with_reducible refine Ext.alloc ?_ _) | (with_reducible refine Ext.drew ?_) | (with_reducible refine Ext.drewN ?_ _) | (with_reducible refine Ext.set ?_ (by first | (simp; done) | (simp; omega)) _) | (with_reducible refine Ext.trans ?_ (by with_reducible assumption))))
      have E27 : Ext w2 w7 := (by repeat (first | with_reducible exact Ext.refl _ | with_reducible assumption | (with_reducible refine Ext.alloc ?_ _) | (with_reducible refine Ext.drew ?_) | (with_reducible refine Ext.drewN ?_ _) | (with_reducible refine Ext.set ?_ (by first | (simp; done) | (simp; omega)) _) | (with_reducible refine Ext.trans ?_ (by with_reducible assumption))))
      have hrow7 := hrow.ext (E6'.trans E7)
      have hr7 := hr2.ext E7
      have HG0 := Lib.hid HG.out.1
      have hgB : (g : Int) < 4294967296 := by have := HG.out.2.1; unfold B32 at this; omega
      clear E5 E6 h7 hr1 hr hrow E7 E6' hr2 eU eq eg hqw bu1 bu2 bt bt2 hpT
      go_wp2
      go_loopw [14, 15] (fun gv pv wx => ∃ g : Nat, gv = .int .u64 g ∧ (g : Int) < 4294967296 ∧ Hid (ρ / Y ≤ g) ∧ Num wx pv (Y * g) ∧ Ext w7 wx) (fun gv _ _ => (intOf gv).toNat)
      case atStart => exact ⟨g, rfl, hgB, HG0, hp, Ext.refl _⟩
      case round =>
        clear hp hgB HG0
        obtain ⟨g, rfl, hgB, HG0, hp, hE7⟩ := hrel
        have hr8 := hr7.ext hE7
        by_cases hgt : ρ < Y * g
        · have hg0 : g ≠ 0 := by rintro rfl; omega
          obtain ⟨g, rfl⟩ : ∃ g', g = g' + 1 := ⟨g - 1, by omega⟩
          have hle : ρ / Y ≤ g := by
            have := (Nat.div_lt_iff_lt_mul hy0).2 (show ρ < (g + 1) * Y by rw [Nat.mul_comm]; exact hgt)
            omega
          have hge : Y ≤ Y * (g + 1) := Nat.le_mul_of_pos_right _ (by omega)
          have heq : Y * (g + 1) - Y = Y * g := by rw [Nat.mul_succ]; omega
          have HX := Lib.hid (And.intro hgt (And.intro hle (And.intro hge heq)))
          have hpT := hp.lt
          clear hgt hg0 hle hge heq
          go_wp2_with fail
          refine (rcmp_n hp.is hr8.is).mono ?_
          rintro e w' ⟨rfl, rfl⟩
          rw [cmpN_gt HX.out.1]
          go_wp2_with fail
          refine (rsub_n hp.is (hy.is.ext (E27.trans hE7)) hpT HX.out.2.2.1).mono ?_
          rintro e w9 ⟨pv2, rfl, E9, hp2⟩
          rw [HX.out.2.2.2] at hp2
          go_wp2
          go_roundw
          case rel => exact ⟨g, by go_num, by omega, Lib.hid HX.out.2.1, hp2, hE7.trans E9⟩
          case measure => simp only [intOf]; omega
        · have hgQ : g = ρ / Y := by
            apply Nat.le_antisymm _ HG0.out
            apply (Nat.le_div_iff_mul_le hy0).2
            rw [Nat.mul_comm]; omega
          have hle : cmpN (Y * g) ρ ≤ 0 := by
            unfold cmpN
            split
            · omega
            · omega
          obtain ⟨cc, hcc⟩ : ∃ cc, cmpN (Y * g) ρ = cc := ⟨_, rfl⟩
          rw [hcc] at hle
          have hpr : Y * g ≤ ρ := by omega
          have HX := Lib.hid (And.intro hcc (And.intro hgQ hpr))
          have hrT8 := hr8.lt
          have hrow8 := (hrow7.ext hE7)
          have HGB := Lib.hid hgB
          have hcd : decide (0 < cc) = false := decide_eq_false (by omega)
          clear hgt hcc hgQ hpr hgB hle
          go_wp2_with fail
          refine (rcmp_n hp.is hr8.is).mono ?_
          rintro e w' ⟨rfl, rfl⟩
          rw [HX.out.1]
          go_wp2_with fail
          refine (rsub_f hr8.is hp.is hrT8 HX.out.2.2).mono ?_
          rintro e w9 ⟨rv9, rfl, E9, hr9, hfr9⟩
          have hrow9 := hrow8.ext E9
          have E29 : Ext w2 w9 := (E27.trans hE7).trans E9
          have hci := hrow9.cell (i := i) (by rw [HQR.out.len]; omega)
          have hfi := hrow9.frozen i
          have hbq : w2.heap.size < wr.heap.size := Nat.lt_of_lt_of_le hrow7.lt hE7.size
          have hst := HST.out
          rw [← HX.out.2.1] at hst
          have HST2 := Lib.hid hst
          have HR9 := Lib.hid hrow9
          have hiI : (i : Int) ≤ d := by omega
          clear hst hrow7 hrow8 hrow9 HST
          go_wp2
          go_roundw
          case rel => exact ⟨(i : Int) - 1, i, _, _, rfl, Lib.hid rfl, by omega, hr9.only hfr9 hbq (Only.set w9 w2.heap.size i _), HR9.out.set i g, HST2, E29.set (p := ⟨w2.heap.size, i, none⟩) (Nat.le_refl _) _⟩
          case measure => simp only [intOf]; omega
/-- The quotient and the rest. -/
theorem rdiv_n {w : World} {v1 v2 : Value} {a b : Nat} (h1 : IsN w v1 a) (h2 : IsN w v2 b) (ha : Sm 2040 a) (hb : Sm 2040 b) (hb0 : b ≠ 0) :
    Calls Tryz.prog 75 #[v1, v2] w (Post w fun v w' => Two w' v (a / b) (a % b)) := by
  have htop := div_norm hb0
  have hx := lt_digits (a * 2 ^ ((32 - blen b % 32) % 32))
  by_cases hlt : (blen (a * 2 ^ ((32 - blen b % 32) % 32)) + 31) / 32 < (blen (b * 2 ^ ((32 - blen b % 32) % 32)) + 31) / 32
  · have hab : a < b := by
      have h3 := htop.lo
      obtain ⟨n, hn⟩ := Nat.exists_eq_succ_of_ne_zero (Nat.pos_iff_ne_zero.1 htop.pos)
      rw [hn, Nat.succ_eq_add_one] at h3 hlt
      have h4 : B32 ^ ((blen (a * 2 ^ ((32 - blen b % 32) % 32)) + 31) / 32) ≤ B32 ^ n := Nat.pow_le_pow_right B32_pos (by omega)
      rw [Nat.pow_succ] at h3
      have h5 : B32 ^ n * 2 ≤ B32 ^ n * B32 := Nat.mul_le_mul_left _ (by unfold B32; omega)
      have h6 : a * 2 ^ ((32 - blen b % 32) % 32) < b * 2 ^ ((32 - blen b % 32) % 32) := by omega
      exact Nat.lt_of_mul_lt_mul_right h6
    rw [Nat.div_eq_of_lt hab, Nat.mod_eq_of_lt hab]
    exact rdiv_less h1 h2 ha hb htop.pos hlt rfl rfl
  · obtain ⟨n, hn⟩ := Nat.exists_eq_succ_of_ne_zero (Nat.pos_iff_ne_zero.1 htop.pos)
    obtain ⟨d, hd⟩ := Nat.exists_eq_add_of_le (Nat.le_of_not_lt hlt)
    rw [hn] at hd
    exact rdiv_main h1 h2 ha hb hb0 rfl hd hn
end Go.Proofs.YtbncdghbnnefdaaGreat

namespace Go.Proofs.YtbncdghbnnefdaaGreat
open Go.RowKit

theorem or_bit {x r : Nat} (h : x / 2 ^ r % 2 = 0) : x ||| 2 ^ r = x + 2 ^ r := by
  have e := Nat.div_add_mod x (2 ^ (r + 1))
  have e2 : x % 2 ^ (r + 1) = x % 2 ^ r := by
    rw [Nat.pow_succ, Nat.mod_mul, h, Nat.mul_zero, Nat.add_zero]
  rw [e2] at e
  have hlo : x % 2 ^ r < 2 ^ r := Nat.mod_lt _ (Nat.two_pow_pos r)
  generalize x % 2 ^ r = lo at *
  generalize x / 2 ^ (r + 1) = hi at *
  have h1 : lo < 2 ^ (r + 1) := Nat.lt_of_lt_of_le hlo (Nat.pow_le_pow_right (by omega) (by omega))
  have h2 : lo + 2 ^ r < 2 ^ (r + 1) := by rw [Nat.pow_succ]; omega
  have e3 : x = lo ||| (2 ^ (r + 1) * hi) := by rw [or_low _ _ _ h1]; omega
  have e4 : lo ||| 2 ^ r = lo + 2 ^ r := by have := or_low lo 1 r hlo; rwa [Nat.mul_one] at this
  rw [e3, Nat.or_assoc, Nat.or_comm _ (2 ^ r), ← Nat.or_assoc, e4, or_low _ _ _ h2, or_low _ _ _ h1]
  omega

set_option maxHeartbeats 400000 in
theorem rnorm_o {w : World} {v : Value} {m : Nat} (h : IsN w v m) :
    Calls Tryz.prog 72 #[v] w (Post w fun v w' => Own w' w.heap.size v (limbs m)) := by
  obtain ⟨i0, hi, hz0, hz1, hz2⟩ := info_parts info_u64
  obtain ⟨a, n, c, xs, rfl, h, hn, rfl⟩ := h
  have hfew := h.few
  have hcap := h.cap
  go_enter Tryz.func72, Tryz.ntmps72
  go_wp2
  go_loopw [3] (fun k wr => ∃ j : Nat, j ≤ n ∧ k = .int .i64 j ∧ Hid (nz xs j = nz xs n) ∧ w = wr) (fun k _ => (intOf k).toNat)
  case atStart => exact ⟨n, Nat.le_refl _, rfl, Lib.hid rfl, rfl⟩
  case round =>
    obtain ⟨j, hj, rfl, Hnz, rfl⟩ := hrel
    by_cases h0 : j = 0
    · subst h0
      have e := take_nz h.lt
      rw [h.len, ← Hnz.out, nz, List.take_zero] at e
      have HE := Lib.hid e
      clear e
      go_wp2_with (at_builtin; refine wpList_app w (Ext.refl _) rfl _ _ 31 rfl 94 i0 (.int .u64 0) 1 8 Tryz.underlying31 hi hz0 hz1 hz2 rfl (by decide) _ 0 [] rfl (World.ownsRow_nil _ _ _ _) a 0 _ [] rfl rfl (.inl rfl) (by simp) (by omega) (by omega) ?_; intro v' w1 hown hext _)
      go_ret
      exact Post.mk hext (by rw [← HE.out]; exact hown)
    · obtain ⟨j, rfl⟩ : ∃ i, j = i + 1 := ⟨j - 1, by omega⟩
      obtain ⟨b, off, rfl, hcell⟩ := h.at (i := j) (by omega)
      have hbd := h.bd j
      by_cases hz : xs[j]?.getD 0 = 0
      · have hz' : (((xs[j]?.getD 0 : Nat) : Int) == 0) = true := by rw [hz]; rfl
        have Hz := Lib.hid hz
        clear hz h
        go_wp2
        go_roundw
        case rel => exact ⟨j, by omega, by go_num, Lib.hid (by rw [← Hnz.out, nz, if_pos Hz.out]), trivial⟩
        case measure => simp [intOf]
      · have hz' : (((xs[j]?.getD 0 : Nat) : Int) == 0) = false := by simp [hz]
        have e := take_nz h.lt
        rw [h.len, ← Hnz.out, nz, if_neg hz] at e
        have hT := h.take (j + 1) (j + 1) hj (Nat.le_refl _)
        have hl := hT.len
        have hcs := hT.cells
        have hone := oneCell_u64 (xs.take (j + 1))
        generalize xs.take (j + 1) = ys at *
        have HE := Lib.hid e
        have HL := Lib.hid hl
        clear e hz h hT hl
        go_wp2_with (at_builtin; refine wpList_app w (Ext.refl _) rfl _ _ 31 rfl 94 i0 (.int .u64 0) 1 8 Tryz.underlying31 hi hz0 hz1 hz2 rfl (by decide) _ 0 [] rfl (World.ownsRow_nil _ _ _ _) _ (j + 1) _ (ys.map fun (x : Nat) => Value.int .u64 (x : Int)) rfl (by rw [List.length_map, HL.out]; omega) hcs hone (by omega) (by omega) ?_; intro v' w1 hown hext _)
        go_ret
        rw [Nat.zero_add, List.nil_append, ← HL.out] at hown
        exact Post.mk hext (by rw [← HE.out]; exact hown)

theorem Two.num {w : World} {v : Value} {Q R : Nat} (h : Two w v Q R) : ∃ q r, v = .tuple #[q, r] ∧ Num w q Q ∧ Num w r R := h
theorem Num.slice {w : World} {v : Value} {m : Nat} (h : Num w v m) : ∃ a n c, v = .slice a n c ∧ (n = 0 ↔ m = 0) ∧ n ≤ 2048 ∧ Num w (.slice a n c) m := by
  obtain ⟨ht, a, n, c, rfl, h⟩ := h
  refine ⟨a, n, c, rfl, ?_, few_of_top h ht, ht, a, n, c, rfl, h⟩
  rw [← h.len, List.length_eq_zero_iff]; exact limbs_eq_nil

set_option maxRecDepth 100000 in
set_option maxHeartbeats 1000000 in
theorem rgcd_n {w : World} {v1 v2 : Value} {a b : Nat} (h1 : IsN w v1 a) (h2 : IsN w v2 b) (ha : Sm 2040 a) (hb : Sm 2040 b) :
    Calls Tryz.prog 74 #[v1, v2] w (Post w fun v w' => Num w' v (Nat.gcd a b)) := by
  go_enter Tryz.func74, Tryz.ntmps74
  go_wp2_with fail
  refine (rnorm_n h1 (ha.top (by omega))).mono ?_
  rintro e w1 ⟨x1, rfl, E1, hx1⟩
  go_wp2_with fail
  refine (rnorm_n (h2.ext E1) (hb.top (by omega))).mono ?_
  rintro e w2 ⟨x2, rfl, E2, hx2⟩
  obtain ⟨a2, n2, c2, rfl, hn2, hb2, _⟩ := hx2.slice
  have HN2 := Lib.hid (And.intro hn2 hb2)
  have hE : Ext w w2 := (by repeat (first | with_reducible exact Ext.refl _ | with_reducible assumption | (with_reducible refine Ext.alloc ?_ _) | (with_reducible refine Ext.drew ?_) | (with_reducible refine Ext.drewN ?_ _) | (with_reducible refine Ext.set ?_ (by first | (simp; done) | (simp; omega)) _) | (with_reducible refine Ext.trans ?_ (by with_reducible assumption))))
  have hx1 := hx1.ext E2
  clear hn2 hb2 E1 E2
  go_wp2
  go_loopg [0, 1] b (fun g av bv wr => ∃ (X : Nat) (a2 : Option Addr) (n2 c2 : Nat), bv = .slice a2 n2 c2 ∧ n2 ≤ 2048 ∧ Hid (n2 = 0 ↔ g = 0) ∧ Num wr av X ∧ Num wr (.slice a2 n2 c2) g ∧ Hid (Sm 2040 X ∧ Sm 2040 g) ∧ Hid (Nat.gcd X g = Nat.gcd a b) ∧ Ext w wr)
  case atStart => exact ⟨a, a2, n2, c2, rfl, HN2.out.2, Lib.hid HN2.out.1, hx1, hx2, Lib.hid ⟨ha, hb⟩, Lib.hid rfl, hE⟩
  case round =>
    clear hx1 hx2 hE HN2
    obtain ⟨X, a3, n3, c3, rfl, hb3, HN, hX, hG, HS, HG, hE⟩ := hrel
    by_cases h0 : gk = 0
    · subst h0
      obtain rfl : n3 = 0 := HN.out.2 rfl
      go_wp2
      go_ret
      refine Post.mk hE ?_
      have := HG.out
      rw [Nat.gcd_zero_right] at this
      rw [← this]
      exact hX
    · have hn0 : 0 < n3 := by have := mt HN.out.1 h0; omega
      have HG0 := Lib.hid h0
      clear h0
      go_wp2_with fail
      refine (rdiv_n hX.is hG.is HS.out.1 HS.out.2 HG0.out).mono ?_
      rintro e w3 ⟨_, rfl, E3, q, r, rfl, hq, hr⟩
      obtain ⟨a4, n4, c4, rfl, hn4, hb4, hr⟩ := hr.slice
      have HN4 := Lib.hid hn4
      clear hn4
      go_wp2
      go_roundg (X % gk)
      case rel => exact ⟨gk, a4, n4, c4, rfl, hb4, HN4, hG.ext E3, hr, Lib.hid ⟨HS.out.2, HS.out.1.le (Nat.mod_le _ _)⟩, Lib.hid (by rw [← HG.out, Nat.gcd_comm X gk, Nat.gcd_rec gk X, Nat.gcd_comm]), hE.trans E3⟩
      case measure => exact Nat.mod_lt _ (Nat.pos_of_ne_zero HG0.out)
end Go.Proofs.YtbncdghbnnefdaaGreat

namespace Go.Proofs.YtbncdghbnnefdaaGreat
open Go.RowKit

theorem own_slice {w : World} {B : Nat} {v : Value} {L : List Nat} (h : Own w B v L) (h0 : L ≠ []) : ∃ g cap, v = .slice (some ⟨g, 0, none⟩) L.length cap ∧ B ≤ g ∧ L.length ≤ cap ∧ w.ownsRow B 94 1 (.slice (some ⟨g, 0, none⟩) L.length cap) L.length (lims L) := by
  rcases h.2 with ⟨h1, h2⟩ | ⟨g, cap, cur, h1, h2, h3, h4, h5⟩
  · exact absurd (List.eq_nil_of_length_eq_zero h2) h0
  · exact ⟨g, cap, h1, h2, h4, by subst h1; exact h⟩
theorem own_nums {w : World} {B : Nat} {v : Value} {L : List Nat} (h : Own w B v L) : ∃ a c, v = .slice a L.length c ∧ L.length ≤ c ∧ c ≤ maxLen := by
  rcases h.2 with ⟨rfl, h0⟩ | ⟨g, cap, cur, rfl, _, _, h4, h5, _⟩
  · exact ⟨none, 0, by rw [h0], by omega, by unfold maxLen; omega⟩
  · exact ⟨_, cap, rfl, h4, h5⟩
/-- A row with a bit more. -/
theorem set_val {L : List Nat} {i q r x : Nat} (hq : i / 64 = q) (hr : i % 64 = r) (hL : q < L.length) (hx : L[q]?.getD 0 = x) (hlt : ∀ y ∈ L, y < B64) (hb : bitN (val L) i = 0) :
    x ||| 2 ^ r = x + 2 ^ r ∧ x + 2 ^ r < B64 ∧ val (L.set q (x + 2 ^ r)) = val L + 2 ^ i := by
  have hbit := bit_limb hlt i
  rw [hq, hr, hx, hb] at hbit
  have e := or_bit hbit
  have hxb : x < B64 := by rw [← hx, List.getElem?_eq_getElem hL]; exact hlt _ (List.getElem_mem hL)
  have hrb : (2 : Nat) ^ r < B64 := by rw [B64_two]; exact Nat.pow_lt_pow_right (by omega) (by omega)
  refine ⟨e, ?_, ?_⟩
  · rw [← e, B64_two]
    exact Nat.or_lt_two_pow (by rw [← B64_two]; exact hxb) (by rw [← B64_two]; exact hrb)
  · have hs := val_set L q (x + 2 ^ r) hL
    rw [hx, Nat.mul_add, B64_pow, ← Nat.pow_add, show 64 * q + r = i by omega] at hs
    omega
theorem getLast_set {L : List Nat} {q y : Nat} (hy : y ≠ 0) (hq : q < L.length) (h : q + 1 = L.length ∨ L.getLast?.getD 0 ≠ 0) : (L.set q y).getLast?.getD 0 ≠ 0 := by
  rw [List.getLast?_eq_getElem?, List.length_set, getD_set]
  split
  · exact hy
  · rename_i hne
    rcases h with h | h
    · exact absurd ⟨by omega, hq⟩ hne
    · rwa [List.getLast?_eq_getElem?] at h

theorem Sm.up {j k m : Nat} (h : Sm j m) (hk : j ≤ k) : Sm k m := Nat.lt_of_lt_of_le h (Nat.pow_le_pow_right B64_pos hk)
theorem Sm.blen {k m : Nat} (h : Sm k m) : blen m ≤ 64 * k := by
  apply (blen_iff _ _).1
  unfold Sm at h
  rwa [B64_pow] at h
theorem Sm.pow {k i : Nat} (h : i < 64 * k) : Sm k (2 ^ i) := by unfold Sm; rw [B64_pow]; exact Nat.pow_lt_pow_right (by omega) h
theorem cmpN_le {m n : Nat} (h : m ≤ n) : cmpN m n ≤ 0 := by
  unfold cmpN
  split
  · omega
  · rw [if_neg (by omega)]; omega
/-- The root's bits from above. -/
structure RootOk (a j o : Nat) : Prop where
  lo : o * o ≤ a
  hi : a < (o + 2 ^ j) * (o + 2 ^ j)
  mul : o % 2 ^ j = 0
theorem RootOk.start {a j : Nat} (h : j = blen a / 2 + 1) : RootOk a j 0 := by
  refine ⟨by simp, ?_, by simp⟩
  rw [Nat.zero_add, ← Nat.pow_add]
  exact (blen_iff _ _).2 (by omega)
theorem RootOk.bit {a i o : Nat} (h : RootOk a (i + 1) o) : bitN o i = 0 := by
  have := h.mul
  rw [Nat.pow_succ, Nat.mod_mul] at this
  unfold bitN
  have h2 := Nat.two_pow_pos i
  rcases Nat.eq_zero_or_pos (o / 2 ^ i % 2) with h3 | h3
  · exact h3
  · have : 2 ^ i * 1 ≤ 2 ^ i * (o / 2 ^ i % 2) := Nat.mul_le_mul_left _ h3
    omega
theorem RootOk.mod {a i o : Nat} (h : RootOk a (i + 1) o) : o % 2 ^ i = 0 := by
  have := h.mul
  rw [Nat.pow_succ, Nat.mod_mul] at this
  omega
theorem RootOk.yes {a i o : Nat} (h : RootOk a (i + 1) o) (hle : (o + 2 ^ i) * (o + 2 ^ i) ≤ a) : RootOk a i (o + 2 ^ i) := by
  refine ⟨hle, ?_, by rw [Nat.add_mod_right]; exact h.mod⟩
  have := h.hi
  rw [Nat.pow_succ] at this
  rw [Nat.add_assoc, show 2 ^ i + 2 ^ i = 2 ^ i * 2 by omega]
  exact this
theorem RootOk.no {a i o : Nat} (h : RootOk a (i + 1) o) (hlt : a < (o + 2 ^ i) * (o + 2 ^ i)) : RootOk a i o := ⟨h.lo, hlt, h.mod⟩
theorem RootOk.done {a o : Nat} (h : RootOk a 0 o) : IsRoot a o := ⟨h.lo, by have := h.hi; rwa [Nat.pow_zero] at this⟩
theorem RootOk.le {a j o : Nat} (h : RootOk a j o) : o ≤ a := by
  have := h.lo
  rcases Nat.eq_zero_or_pos o with h0 | h0
  · omega
  · exact Nat.le_trans (Nat.le_mul_of_pos_left o h0) this

end Go.Proofs.YtbncdghbnnefdaaGreat
