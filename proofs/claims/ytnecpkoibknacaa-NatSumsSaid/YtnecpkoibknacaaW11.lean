/- Shl at whatever number, Shr. -/
import Derived.Test.YtnecpkoibknacaaW10
namespace Go.Proofs.Ytnecpkoibknacaa
open Go.RowKit

theorem pow_big_aux (K k m : Nat) (h : (limbs (m * 2 ^ k)).length ≤ K) (hm : m ≠ 0) : k < 64 * K := by
  have h2 := lt_of_length_limbs h
  rw [B64_pow] at h2
  have h4 : 2 ^ k ≤ m * 2 ^ k := Nat.le_mul_of_pos_left _ (Nat.pos_of_ne_zero hm)
  exact (Nat.pow_lt_pow_iff_right (a := 2) (by omega)).1 (Nat.lt_of_le_of_lt h4 h2)
theorem pow_big {k : Nat} (hk : ¬ k ≤ 131072) {m : Nat} (hm : m ≠ 0) : ¬ m * 2 ^ k < Top := by
  intro h
  have := pow_big_aux 2048 k m ((fits_iff _).2 h) hm
  omega

set_option maxHeartbeats 1000000 in
theorem shl_any (a : Option Addr) (n c : Nat) (xs : List Nat) (k : Nat) (w : World) (h : Nums w a n c xs) (hk0 : k ≤ 4611686018427387904) :
    Calls Try.prog 19 #[.slice a n c, .int .i64 k] w (Post w fun v w' => NRes w' v (fit (val xs * 2 ^ k))) := by
  by_cases hf : val xs < Top
  · by_cases h0 : val xs = 0
    · have hf0 : fit (val xs * 2 ^ k) = some 0 := by rw [h0, Nat.zero_mul]; exact fit_small B64_pos
      rw [hf0]
      have hno : [limbs (val xs)].any isLong = false := by rw [any_one]; exact isLong_false (by rw [val_limbs]; exact hf)
      have H0 := Lib.hid h0
      have HNO := Lib.hid hno
      clear h0 hno hf0
      go_enter Try.func19, Try.ntmps19
      go_wp2_with (first
        | (go_at_call 41; refine (normal_any _ _ _ _ _ h).mono ?_; rintro e w1 ⟨v, rfl, hext1, a', n', c', rfl, hn⟩; have hl0 : n' = 0 := by { rw [← hn.len, H0.out, limbs_zero]; rfl }; subst hl0)
        | (go_at_call 42; refine (long_any _ _ _ [limbs (val xs)] _ (NumsL.one (by simp) (hn.ext (Ext.of_alloc _ _)))).mono ?_; rintro e w2 ⟨v, rfl, hext2, rfl⟩; rw [HNO.out]))
      go_ret2
      refine Post.mk (hext1.trans ((Ext.of_alloc _ _).trans hext2)) ⟨none, 0, 0, rfl, ?_⟩
      rw [limbs_zero]; exact Nums.nil _ _ _
    · by_cases hk : k ≤ 131072
      · exact shl_main a n c xs k hk w h hf h0
      · have hf0 : fit (val xs * 2 ^ k) = none := by unfold fit; exact if_neg (pow_big hk h0)
        rw [hf0]
        have hl := length_limbs_pos h0
        have hno : [limbs (val xs)].any isLong = false := by rw [any_one]; exact isLong_false (by rw [val_limbs]; exact hf)
        have hl2 := (fits_iff _).2 hf
        generalize hL : limbs (val xs) = L at *
        have HL := Lib.hid hL
        have HNO := Lib.hid hno
        clear hL h0 hno hf0
        go_enter Try.func19, Try.ntmps19
        go_wp2_with (first
          | (go_at_call 41; refine (normal_any _ _ _ _ _ h).mono ?_; rintro e w1 ⟨v, rfl, hext1, a', n', c', rfl, hn⟩; rw [HL.out] at hn; obtain rfl := hn.len)
          | (go_at_call 42; refine (long_any _ _ _ [L] _ (NumsL.one (by simp) (hn.ext (Ext.of_alloc _ _)))).mono ?_; rintro e w2 ⟨v, rfl, hext2, rfl⟩; rw [HNO.out]))
        go_ret2
        exact Post.mk (hext1.trans ((Ext.of_alloc _ _).trans hext2)) rfl
  · have hf0 : fit (val xs * 2 ^ k) = none := by
      unfold fit
      exact if_neg fun h => hf (Nat.lt_of_le_of_lt (Nat.le_mul_of_pos_right _ (Nat.two_pow_pos k)) h)
    rw [hf0]
    have hno : [limbs (val xs)].any isLong = true := by rw [any_one]; exact isLong_true (by rw [val_limbs]; exact hf)
    have HNO := Lib.hid hno
    clear hno hf0
    go_enter Try.func19, Try.ntmps19
    go_wp2_with (first
      | (go_at_call 41; refine (normal_any _ _ _ _ _ h).mono ?_; rintro e w1 ⟨v, rfl, hext1, a', n', c', rfl, hn⟩)
      | (go_at_call 42; refine (long_any _ _ _ [limbs (val xs)] _ (NumsL.one (by simp) (hn.ext (Ext.of_alloc _ _)))).mono ?_; rintro e w2 ⟨v, rfl, hext2, rfl⟩; rw [HNO.out]))
    go_ret2
    exact Post.mk (hext1.trans ((Ext.of_alloc _ _).trans hext2)) rfl

set_option maxHeartbeats 400000 in
theorem shl_neg (a : Option Addr) (n c : Nat) (xs : List Nat) (k : Int) (hk : k < 0) (w : World) (h : Nums w a n c xs) (hf : val xs < Top) :
    Calls Try.prog 19 #[.slice a n c, .int .i64 k] w (Post w fun v _ => v = .tuple #[.slice none 0 0, .int .i64 2]) := by
  have hno : [limbs (val xs)].any isLong = false := by rw [any_one]; exact isLong_false (by rw [val_limbs]; exact hf)
  have HNO := Lib.hid hno
  clear hno
  go_enter Try.func19, Try.ntmps19
  go_wp2_with (first
    | (go_at_call 41; refine (normal_any _ _ _ _ _ h).mono ?_; rintro e w1 ⟨v, rfl, hext1, a', n', c', rfl, hn⟩)
    | (go_at_call 42; refine (long_any _ _ _ [limbs (val xs)] _ (NumsL.one (by simp) (hn.ext (Ext.of_alloc _ _)))).mono ?_; rintro e w2 ⟨v, rfl, hext2, rfl⟩; rw [HNO.out]))
  go_ret2
  exact Post.mk (hext1.trans ((Ext.of_alloc _ _).trans hext2)) rfl

set_option maxHeartbeats 400000 in
theorem shr_neg (a : Option Addr) (n c : Nat) (xs : List Nat) (k : Int) (hk : k < 0) (w : World) (h : Nums w a n c xs) (hf : val xs < Top) :
    Calls Try.prog 20 #[.slice a n c, .int .i64 k] w (Post w fun v _ => v = .tuple #[.slice none 0 0, .int .i64 2]) := by
  have hno : [limbs (val xs)].any isLong = false := by rw [any_one]; exact isLong_false (by rw [val_limbs]; exact hf)
  have HNO := Lib.hid hno
  clear hno
  go_enter Try.func20, Try.ntmps20
  go_wp2_with (first
    | (go_at_call 41; refine (normal_any _ _ _ _ _ h).mono ?_; rintro e w1 ⟨v, rfl, hext1, a', n', c', rfl, hn⟩)
    | (go_at_call 42; refine (long_any _ _ _ [limbs (val xs)] _ (NumsL.one (by simp) (hn.ext (Ext.of_alloc _ _)))).mono ?_; rintro e w2 ⟨v, rfl, hext2, rfl⟩; rw [HNO.out]))
  go_ret2
  exact Post.mk (hext1.trans ((Ext.of_alloc _ _).trans hext2)) rfl

theorem Nums.drop {w : World} {b off n c c' : Nat} {xs : List Nat} (h : Nums w (some ⟨b, off, none⟩) n c xs) (k : Nat) (hk : k ≤ n) (hc : n - k ≤ c') : Nums w (some ⟨b, off + k, none⟩) (n - k) c' (xs.drop k) := by
  refine ⟨by simp [h.len], by have := h.few; omega, hc, fun x hx => h.lt x (List.mem_of_mem_drop hx), ?_⟩
  rcases h.at_ with h0 | ⟨b', off', e, hc⟩
  · exact .inl (by omega)
  · cases e
    exact .inr ⟨b, off + k, rfl, fun i hi => by rw [Nat.add_assoc, hc (k + i) (by omega), List.getElem?_drop]⟩
theorem Nums.drop0 {w : World} {b n c c' : Nat} {xs : List Nat} (h : Nums w (some ⟨b, 0, none⟩) n c xs) (k : Nat) (hk : k ≤ n) (hc : n - k ≤ c') : Nums w (some ⟨b, k, none⟩) (n - k) c' (xs.drop k) := by
  have := h.drop k hk hc
  rwa [Nat.zero_add] at this
theorem val_drop (xs : List Nat) (hx : ∀ x ∈ xs, x < B64) (q : Nat) (hq : q ≤ xs.length) : val (xs.drop q) = val xs / B64 ^ q := by
  have h := val_take_drop xs q hq
  have h1 := val_lt (xs := xs.take q) fun x hx' => hx x (List.mem_of_mem_take hx')
  rw [List.length_take, Nat.min_eq_left hq] at h1
  rw [h, Nat.add_mul_div_left _ _ (pow_pos' q), Nat.div_eq_of_lt h1, Nat.zero_add]
theorem div_big {xs : List Nat} (hx : ∀ x ∈ xs, x < B64) {q : Nat} (hq : xs.length ≤ q) (r : Nat) : val xs / 2 ^ (64 * q + r) = 0 := by
  apply Nat.div_eq_of_lt
  refine Nat.lt_of_lt_of_le (val_lt hx) ?_
  rw [B64_pow]
  exact Nat.pow_le_pow_right (by omega) (by omega)
theorem shr_val (v q r : Nat) (hr0 : 0 < r) (hr : r < 64) : (v / B64 ^ q * 2 ^ (64 - r)) / B64 = v / 2 ^ (64 * q + r) := by
  rw [B64_pow, B64_two, div_shift _ _ (by omega), show 64 - (64 - r) = r by omega, Nat.div_div_eq_div_mul, ← Nat.pow_add]

set_option maxRecDepth 100000 in
set_option maxHeartbeats 2000000 in
theorem shr_any (a : Option Addr) (n c : Nat) (xs : List Nat) (k : Nat) (w : World) (h : Nums w a n c xs) (hf : val xs < Top) (hk0 : k ≤ 4611686018427387904) :
    Calls Try.prog 20 #[.slice a n c, .int .i64 k] w (Post w fun v w' => NRes w' v (some (val xs / 2 ^ k))) := by
  have hno : [limbs (val xs)].any isLong = false := by rw [any_one]; exact isLong_false (by rw [val_limbs]; exact hf)
  have hl2 := (fits_iff _).2 hf
  have hv := val_limbs (val xs)
  have hlt := lt_limbs (val xs)
  generalize hL : limbs (val xs) = L at *
  have HL := Lib.hid hL
  have HV := Lib.hid hv
  have HNO := Lib.hid hno
  have HLT := Lib.hid hlt
  clear hL hv hno hlt
  obtain ⟨q, hq⟩ : ∃ q, q = k / 64 := ⟨_, rfl⟩
  obtain ⟨r, hr⟩ : ∃ r, r = k % 64 := ⟨_, rfl⟩
  have hwq : (k : Int) / 64 = (q : Int) := by omega
  have hwr : (k : Int) % 64 = (r : Int) := by omega
  have hr64 : r < 64 := by omega
  have hqk : q ≤ 4611686018427387904 := by omega
  have hqr : k = 64 * q + r := by omega
  have HQ := Lib.hid hqr
  clear hq hr hqr
  by_cases hlen : L.length ≤ q
  · go_enter Try.func20, Try.ntmps20
    go_wp2_with (first
      | (go_at_call 41; refine (normal_any _ _ _ _ _ h).mono ?_; rintro e w1 ⟨v, rfl, hext1, a', n', c', rfl, hn⟩; rw [HL.out] at hn; obtain rfl := hn.len)
      | (go_at_call 42; refine (long_any _ _ _ [L] _ (NumsL.one (by simp) (hn.ext (Ext.of_alloc _ _)))).mono ?_; rintro e w2 ⟨v, rfl, hext2, rfl⟩; rw [HNO.out]))
    go_ret2
    refine Post.mk (hext1.trans ((Ext.of_alloc _ _).trans hext2)) ⟨none, 0, 0, rfl, ?_⟩
    rw [← HV.out, HQ.out, div_big HLT.out hlen, limbs_zero]; exact Nums.nil _ _ _
  · have hfew2 : L.length ≤ 65535 := by omega
    by_cases hr0 : r = 0
    · have hwr' : (k : Int) % 64 = 0 := by omega
      clear hwr
      go_enter Try.func20, Try.ntmps20
      go_wp2_with (first
        | (go_at_call 41; refine (normal_any _ _ _ _ _ h).mono ?_; rintro e w1 ⟨v, rfl, hext1, a', n', c', rfl, hn⟩; rw [HL.out] at hn; obtain rfl := hn.len; have hcap := hn.cap; obtain ⟨b, off, rfl, _⟩ := hn.at (i := 0) (by omega))
        | (go_at_call 42; refine (long_any _ _ _ [L] _ (NumsL.one (by simp) (hn.ext (Ext.of_alloc _ _)))).mono ?_; rintro e w2 ⟨v, rfl, hext2, rfl⟩; rw [HNO.out])
        | (go_at_call 43; refine (told_any _ _ _ (L.drop q) _ ((hn.ext ((Ext.of_alloc _ _).trans hext2)).drop q (by omega) (by omega))).mono ?_; rintro e w5 ⟨v, rfl, hext5, hres⟩; obtain ⟨ar, nr, cr, kr, rfl, hout⟩ := hres.out))
      go_ret2
      refine Post.mk ((hext1.trans ((Ext.of_alloc _ _).trans hext2)).trans hext5) ?_
      have := hout.res
      rw [val_drop L HLT.out q (by omega), HV.out, B64_pow] at this
      rw [HQ.out, hr0, Nat.add_zero]
      unfold fit at this
      rwa [if_pos (Nat.lt_of_le_of_lt (Nat.div_le_self _ _) hf)] at this
    · obtain ⟨s, hs⟩ : ∃ s, s = 64 - r := ⟨_, rfl⟩
      have hws : (64 : Int) - (r : Int) = (s : Int) := by omega
      have hs64 : s < 64 := by omega
      have HS := Lib.hid hs
      clear hs
      go_enter Try.func20, Try.ntmps20
      go_wp2_with (first
        | (go_at_call 41; refine (normal_any _ _ _ _ _ h).mono ?_; rintro e w1 ⟨v, rfl, hext1, a', n', c', rfl, hn⟩; rw [HL.out] at hn; obtain rfl := hn.len; have hcap := hn.cap; obtain ⟨b, off, rfl, _⟩ := hn.at (i := 0) (by omega))
        | (go_at_call 42; refine (long_any _ _ _ [L] _ (NumsL.one (by simp) (hn.ext (Ext.of_alloc _ _)))).mono ?_; rintro e w2 ⟨v, rfl, hext2, rfl⟩; rw [HNO.out])
        | (go_at_call 46; refine (shift_any _ _ _ (L.drop q) s hs64 _ ((hn.ext ((Ext.of_alloc _ _).trans hext2)).drop q (by omega) (by omega)) (by omega)).mono ?_; rintro e w3 ⟨v, rfl, hext3, L', rfl, hl', hrow', hlt', hval'⟩; have hn3 := hrow'.nums' (by omega) hl' hlt')
        | (go_at_call 43; refine (told_any _ _ _ (L'.drop 1) _ (hn3.drop0 1 (by omega) (by omega))).mono ?_; rintro e w5 ⟨v, rfl, hext5, hres⟩; obtain ⟨ar, nr, cr, kr, rfl, hout⟩ := hres.out))
      go_ret2
      refine Post.mk (((hext1.trans ((Ext.of_alloc _ _).trans hext2)).trans hext3).trans hext5) ?_
      have := hout.res
      rw [val_drop L' hlt' 1 (by omega), hval', val_drop L HLT.out q (by omega), HV.out, Nat.pow_one, HS.out, shr_val _ _ _ (by omega) hr64] at this
      rw [HQ.out]
      unfold fit at this
      rwa [if_pos (Nat.lt_of_le_of_lt (Nat.div_le_self _ _) hf)] at this
end Go.Proofs.Ytnecpkoibknacaa
