/- Parts of the proof: contracts of the functions that the law reaches, and the arithmetic that they rest on; no condition beyond those that each theorem states. -/
import Derived.WalkSmall
import Derived.Test.YtgihjgkpmochcaaM1
import Derived.Test.YtgihjgkpmochcaaM5

namespace Go.Proofs.Ytgihjgkpmochcaa
open Go.RowKit

end Go.Proofs.Ytgihjgkpmochcaa

namespace Go.Proofs.Ytgihjgkpmochcaa
open Go.RowKit

/-- A bit of a number. -/
def bitN (m i : Nat) : Nat := m / 2 ^ i % 2
theorem bitN_lt (m i : Nat) : bitN m i < 2 := Nat.mod_lt _ (by omega)
theorem bit_limb {xs : List Nat} (h : ∀ x ∈ xs, x < B64) (i : Nat) : xs[i / 64]?.getD 0 / 2 ^ (i % 64) % 2 = bitN (val xs) i := by
  rw [limb_at h]
  have e : B64 = 2 ^ (i % 64) * (2 * 2 ^ (63 - i % 64)) := by
    rw [Nat.mul_comm 2, ← Nat.pow_succ, ← Nat.pow_add, B64_two]; congr 1; omega
  rw [show val xs / B64 ^ (i / 64) % B64 = val xs / B64 ^ (i / 64) % (2 ^ (i % 64) * (2 * 2 ^ (63 - i % 64))) by rw [← e], Nat.mod_mul_right_div_self, Nat.mod_mul_right_mod, Nat.div_div_eq_div_mul, B64_pow, ← Nat.pow_add]
  unfold bitN
  congr 3
  omega
theorem bit_far {xs : List Nat} {i : Nat} (h : xs.length ≤ i / 64) (hx : ∀ x ∈ xs, x < B64) : bitN (val xs) i = 0 := by
  rw [← bit_limb hx, List.getElem?_eq_none h]; simp

/-- Bit's answer, at whatever place. -/
def bitB (m : Nat) (i : Int) : Bool := decide (0 ≤ i) && bitN m i.toNat == 1
theorem digit_n {w : World} {v : Value} {m : Nat} (i : Nat) (h : IsN w v m) (hi : i ≤ 1000000) :
    Calls Try.prog 21 #[v, .int .i64 i] w fun e w' => e = .returned (.int .u64 (dg m i)) ∧ w = w' := by
  obtain ⟨a, n, c, xs, rfl, h, hn, rfl⟩ := h
  rw [← digit_dg h.lt]
  exact digit_any a n c xs i w h hi
theorem digit_neg {w : World} {v : Value} (i : Int) (hi : i < 0) :
    Calls Try.prog 21 #[v, .int .i64 i] w fun e w' => e = .returned (.int .u64 0) ∧ w = w' := by
  have hd : decide (i < 0) = true := decide_eq_true hi
  go_enter Try.func21, Try.ntmps21
  go_wp2
  go_ret
  exact ⟨rfl, rfl⟩

theorem blen_down {m k : Nat} (h : blen m ≤ k + 1) (hb : bitN m k = 0) : blen m ≤ k := by
  rw [← blen_iff] at h ⊢
  unfold bitN at hb
  rw [Nat.pow_succ] at h
  have h2 : m / 2 ^ k < 2 := Nat.div_lt_of_lt_mul h
  have h0 : m / 2 ^ k = 0 := by generalize m / 2 ^ k = t at *; omega
  rcases Nat.div_eq_zero_iff.1 h0 with h1 | h1
  · have := Nat.two_pow_pos k; omega
  · exact h1
theorem blen_here {m k : Nat} (h : blen m ≤ k + 1) (hb : bitN m k ≠ 0) : blen m = k + 1 := by
  have : k < blen m := by
    apply blen_le_of
    have hn : ¬ m < 2 ^ k := fun hlt => hb (by unfold bitN; rw [Nat.div_eq_of_lt hlt])
    omega
  omega
end Go.Proofs.Ytgihjgkpmochcaa

namespace Go.Proofs.Ytgihjgkpmochcaa
open Go.RowKit

/-- Limbs in a row of the call's own. -/
def Own (w : World) (B : Nat) (v : Value) (L : List Nat) : Prop := w.ownsRow B 34 1 v L.length (lims L)
theorem Own.nil (w : World) (B : Nat) : Own w B (.slice none 0 0) [] := World.ownsRow_nil _ _ _ _
theorem Own.ext {w w' : World} {B : Nat} {v : Value} {L : List Nat} (h : Own w B v L) (e : Ext w w') : Own w' B v L := by
  refine ⟨h.1, ?_⟩
  rcases h.2 with h | ⟨g, cap, cur, h, h1, h2, h3⟩
  · exact .inl h
  · exact .inr ⟨g, cap, cur, h, h1, e.block h2, h3⟩
theorem Own.of {w : World} {B x : Nat} {v : Value} {L : List Nat} (h : w.ownsRow B 34 1 v (L.length + 1) (lims L ++ [.int .u64 (x : Int)])) : Own w B v (L ++ [x]) := by
  unfold Own; rw [List.length_append, List.length_singleton, lims_snoc]; exact h
theorem Own.nums {w : World} {B : Nat} {v : Value} {L : List Nat} (h : Own w B v L) (hf : L.length ≤ 65536) (hx : ∀ x ∈ L, x < B64) : ∃ a c, v = .slice a L.length c ∧ Nums w a L.length c L ∧ Fresh B a := Nums.of_own' h hf hx
theorem lt_64 {L : List Nat} (h : ∀ x ∈ L, x < B32) : ∀ x ∈ L, x < B64 := fun x hx => Nat.lt_trans (h x hx) (by unfold B32 B64; omega)

set_option maxHeartbeats 400000 in
theorem rnorm_any (a : Option Addr) (n c : Nat) (xs : List Nat) (w : World) (h : Nums w a n c xs) :
    Calls Try.prog 40 #[.slice a n c] w (Post w fun v w' => ∃ a' n' c', v = .slice a' n' c' ∧ Nums w' a' n' c' (limbs (val xs)) ∧ Fresh w.heap.size a') := by
  obtain ⟨i0, hi, hz0, hz1, hz2⟩ := info_parts info_u64
  have hfew := h.few
  have hcap := h.cap
  go_enter Try.func40, Try.ntmps40
  go_wp2
  go_loopw [3] (fun k wr => ∃ j : Nat, j ≤ n ∧ k = .int .i64 j ∧ Hid (nz xs j = nz xs n) ∧ w = wr) (fun k _ => (intOf k).toNat)
  case atStart => exact ⟨n, Nat.le_refl _, rfl, Lib.hid rfl, rfl⟩
  case round =>
    obtain ⟨j, hj, rfl, Hnz, rfl⟩ := hrel
    by_cases h0 : j = 0
    · subst h0
      have e := take_nz h.lt
      rw [h.len, ← Hnz.out, nz, List.take_zero] at e
      have HE := Lib.hid e
      clear e
      go_wp2_with (at_builtin; refine wpList_app w (Ext.refl _) rfl _ _ 26 rfl 34 i0 (.int .u64 0) 1 8 Try.underlying26 hi hz0 hz1 hz2 rfl (by decide) _ 0 [] rfl (World.ownsRow_nil _ _ _ _) a 0 _ [] rfl rfl (.inl rfl) (by simp) (by omega) (by omega) ?_; intro v' w1 hown hext _)
      go_ret
      obtain ⟨a', c', rfl, hn⟩ := Nums.of_own' (xs := []) hown (by simp) (by simp)
      exact Post.mk hext ⟨_, _, _, rfl, by rw [← HE.out]; exact hn.1, hn.2⟩
    · obtain ⟨j, rfl⟩ : ∃ i, j = i + 1 := ⟨j - 1, by omega⟩
      obtain ⟨b, off, rfl, hcell⟩ := h.at (i := j) (by omega)
      have hbd := h.bd j
      by_cases hz : xs[j]?.getD 0 = 0
      · have hz' : (((xs[j]?.getD 0 : Nat) : Int) == 0) = true := by rw [hz]; rfl
        have Hz := Lib.hid hz
        clear hz h
        go_wp2
        go_roundw
        case rel => exact ⟨j, by omega, by go_num, Lib.hid (by rw [← Hnz.out, nz, if_pos Hz.out]), trivial⟩
        case measure => simp [intOf]
      · have hz' : (((xs[j]?.getD 0 : Nat) : Int) == 0) = false := by simp [hz]
        have e := take_nz h.lt
        rw [h.len, ← Hnz.out, nz, if_neg hz] at e
        have hlt := h.lt
        have hT := h.take (j + 1) (j + 1) hj (Nat.le_refl _)
        have hl := hT.len
        have hlt2 := hT.lt
        have hcs := hT.cells
        have hone := oneCell_u64 (xs.take (j + 1))
        generalize xs.take (j + 1) = ys at *
        have HE := Lib.hid e
        have HL := Lib.hid hl
        have HL2 := Lib.hid hlt2
        clear e hz h hlt hT hl hlt2
        go_wp2_with (at_builtin; refine wpList_app w (Ext.refl _) rfl _ _ 26 rfl 34 i0 (.int .u64 0) 1 8 Try.underlying26 hi hz0 hz1 hz2 rfl (by decide) _ 0 [] rfl (World.ownsRow_nil _ _ _ _) _ (j + 1) _ (ys.map fun (x : Nat) => Value.int .u64 (x : Int)) rfl (by rw [List.length_map, HL.out]; omega) hcs hone (by omega) (by omega) ?_; intro v' w1 hown hext _)
        go_ret
        rw [Nat.zero_add, List.nil_append, ← HL.out] at hown
        obtain ⟨a', c', rfl, hn⟩ := Nums.of_own' hown (by rw [HL.out]; omega) HL2.out
        exact Post.mk hext ⟨_, _, _, rfl, by rw [← HE.out]; exact hn.1, hn.2⟩
theorem rnorm_n {w : World} {v : Value} {m : Nat} (h : IsN w v m) (ht : m < Top) : Calls Try.prog 40 #[v] w (Post w fun v w' => Num w' v m) := by
  obtain ⟨a, n, c, xs, rfl, h, hn, rfl⟩ := h
  refine (rnorm_any a n c xs w h).mono ?_
  rintro e w' ⟨v, rfl, hext, a', n', c', rfl, hn, _⟩
  exact Post.mk hext ⟨ht, _, _, _, rfl, hn⟩

/-- A value whose cells, if it has any, came after the first B blocks. -/
def FreshV (B : Nat) (v : Value) : Prop := ∀ a n c, v = .slice a n c → Fresh B a
theorem FreshV.of {B : Nat} {a : Option Addr} {n c : Nat} (h : Fresh B a) : FreshV B (.slice a n c) := fun a' n' c' e => by cases e; exact h
theorem Fresh.mono {B B' : Nat} {a : Option Addr} (h : Fresh B a) (hb : B' ≤ B) : Fresh B' a := fun p hp => Nat.le_trans hb (h p hp)

set_option maxRecDepth 100000 in
set_option maxHeartbeats 1000000 in
theorem made_f (a : Option Addr) (n c : Nat) (L : List Nat) (w : World) (h : Nums w a n c L) (hL : ∀ x ∈ L, x < B32) (hn : n ≤ 65535) (ht : dval L < Top) :
    Calls Try.prog 22 #[.slice a n c] w (Post w fun v w' => Num w' v (dval L) ∧ FreshV w.heap.size v) := by
  obtain ⟨i0, hi, hz0, hz1, hz2⟩ := info_parts info_u64
  obtain rfl := h.len
  have hcap := h.cap
  obtain ⟨K, hK⟩ : ∃ K, (L.length + 1) / 2 = K := ⟨_, rfl⟩
  have hK2 : ((L.length : Int) + 1) / 2 = K := by omega
  have hst := MadeOk.start L
  rw [hK] at hst
  have HK := Lib.hid hK
  have hK3 : K ≤ 40000 := by omega
  have HT := Lib.hid ht
  clear hK ht
  go_enter Try.func22, Try.ntmps22
  go_wp2_with (at_make; refine wpList_make_row _ rfl _ _ 26 rfl 34 i0 Try.underlying26 hi hz0 hz1 hz2 _ _ _ _ K rfl rfl (by omega) (by omega) (by omega) ?_; intro w1 hrow hext hsz)
  go_loopw [4] (fun i wr => ∃ (j : Nat) (R : List Nat), j ≤ L.length ∧ i = .int .i64 j ∧ Ext w wr ∧ Row wr w.heap.size 34 R ∧ Hid (MadeOk L j R)) (fun i _ => L.length - (intOf i).toNat)
  case atStart => exact ⟨0, _, Nat.zero_le _, rfl, hext, hrow, Lib.hid hst⟩
  case round =>
    clear hrow hext hsz hst
    obtain ⟨j, R, hj, rfl, hext1, hrow1, HR⟩ := hrel
    have hRl := HR.out.1
    rw [HK.out] at hRl
    by_cases hlt : j < L.length
    · obtain ⟨b, off, rfl, hcell⟩ := (h.ext hext1).at hlt
      have hj2 : j / 2 < K := by have := HK.out; omega
      have cj := hrow1.cell (i := j / 2) (by omega)
      have fj := hrow1.frozen (j / 2)
      have hx : L[j]?.getD 0 < B32 := by rw [List.getElem?_eq_getElem hlt]; exact hL _ (List.getElem_mem hlt)
      have hy : R[j / 2]?.getD 0 < B32 := HR.out.2.2.2.2
      generalize hxe : L[j]?.getD 0 = x at *
      generalize hye : R[j / 2]?.getD 0 = y at *
      have HX := Lib.hid hxe
      have HY := Lib.hid hye
      have hxb : (x : Int) < 4294967296 := by unfold B32 at hx; omega
      have hyb : (y : Int) < 4294967296 := by unfold B32 at hy; omega
      have HB := Lib.hid hx
      have HRL := Lib.hid hRl
      clear hxe hye hx hy hRl
      by_cases h2 : j % 2 = 0
      · have h2' : (((j : Int) % 2) == 0) = true := by simp; omega
        have H2 := Lib.hid h2
        clear h2
        go_wp2
        go_roundw
        case rel => exact ⟨j + 1, _, by omega, by go_num, hext1.set (p := ⟨w.heap.size, j / 2, none⟩) (Nat.le_refl _) _, hrow1.set (j / 2) x, Lib.hid (HR.out.even hlt H2.out HX.out HB.out)⟩
        case measure => simp [intOf]; omega
      · have h2' : (((j : Int) % 2) == 0) = false := by simp; omega
        have H2 := Lib.hid (show j % 2 = 1 by omega)
        clear h2
        have j0 : (0 : Int) ≤ (j : Int) / 2 := by omega
        have jj0 : (0 : Int) ≤ (j : Int) := by omega
        have j1 : (j : Int) / 2 < K := by omega
        have jj1 : (j : Int) < L.length := by omega
        obtain ⟨hsum, hok⟩ := HR.out.odd hlt H2.out HX.out HB.out HY.out
        have HOK := Lib.hid hok
        have hsum' : (x : Int) * 4294967296 < 18446744073709551616 := by unfold B64 at hsum; omega
        have hmul : IntKind.u64.wrap ((x : Int) * 4294967296) = x * 4294967296 := IntWalk.u64_in _ (by omega)
        have hadd : IntKind.u64.wrap ((y : Int) + x * 4294967296) = ((y + x * 4294967296 : Nat) : Int) := by
          unfold B64 at hsum
          rw [IntWalk.u64_in _ (by omega)]; omega
        have HS := Lib.hid hsum
        clear hsum hok hj2 hK2
        go_wp2
        refine wp_region_tail 15 (by kernel_rfl) (by kernel_rfl) ?_
        simp only [List.take_succ_cons, List.take_zero, List.drop_succ_cons, List.drop_zero]
        repeat (go_big_quiet_step (fail))
        refine wpQuiet_nil ?_
        rintro _ ⟨nq, rfl⟩
        go_wp2
        refine ⟨⟨j + 1, _, by omega, by go_num, ?_, ?_, HOK⟩, by simp [intOf]; omega⟩
        · exact (hext1.drewN nq).set (p := ⟨w.heap.size, j / 2, none⟩) (Nat.le_refl _) _
        · exact (hrow1.drewN nq).set (j / 2) _
    · obtain rfl : j = L.length := by omega
      have hv := HR.out.done
      have hN := hrow1.nums' (n := K) (by omega) hRl HR.out.2.1
      have HV := Lib.hid hv
      clear hv h hRl
      go_wp2_with fail
      refine (rnorm_any _ _ _ _ _ hN).mono ?_
      rintro e w2 ⟨v, rfl, E2, a', n', c', rfl, hv, hfr⟩
      rw [HV.out] at hv
      have HFR := Lib.hid (hfr.mono hext1.size)
      clear hfr
      go_wp2
      go_ret
      exact Post.mk (hext1.trans E2) ⟨⟨HT.out, _, _, _, rfl, hv⟩, FreshV.of HFR.out⟩
theorem made_any (a : Option Addr) (n c : Nat) (L : List Nat) (w : World) (h : Nums w a n c L) (hL : ∀ x ∈ L, x < B32) (hn : n ≤ 65535) (ht : dval L < Top) :
    Calls Try.prog 22 #[.slice a n c] w (Post w fun v w' => Num w' v (dval L)) :=
  (made_f a n c L w h hL hn ht).mono fun _ _ ⟨v, e, x, h⟩ => ⟨v, e, x, h.1⟩
/-- made of a row of the call's own. -/
theorem made_own {w : World} {B : Nat} {v : Value} {L : List Nat} (h : Own w B v L) (hL : ∀ x ∈ L, x < B32) (hn : L.length ≤ 65535) (ht : dval L < Top) :
    Calls Try.prog 22 #[v] w (Post w fun v w' => Num w' v (dval L)) := by
  obtain ⟨a, c, rfl, hn', _⟩ := h.nums (by omega) (lt_64 hL)
  exact made_any a _ c L w hn' hL hn ht
theorem made_ownf {w : World} {B : Nat} {v : Value} {L : List Nat} (h : Own w B v L) (hL : ∀ x ∈ L, x < B32) (hn : L.length ≤ 65535) (ht : dval L < Top) :
    Calls Try.prog 22 #[v] w (Post w fun v w' => Num w' v (dval L) ∧ FreshV w.heap.size v) := by
  obtain ⟨a, c, rfl, hn', _⟩ := h.nums (by omega) (lt_64 hL)
  exact made_f a _ c L w hn' hL hn ht
theorem IsN.len {w : World} {v : Value} {m : Nat} (h : IsN w v m) : ∃ a n c, v = .slice a n c ∧ n ≤ 4096 ∧ m < B32 ^ (2 * n) := by
  obtain ⟨a, n, c, xs, rfl, h, hn, rfl⟩ := h
  refine ⟨a, n, c, rfl, hn, ?_⟩
  rw [← B64_pow2, ← h.len]
  exact val_lt h.lt

set_option maxRecDepth 100000 in
set_option maxHeartbeats 1000000 in
theorem radd_n {w : World} {v1 v2 : Value} {m1 m2 : Nat} (h1 : IsN w v1 m1) (h2 : IsN w v2 m2) (ht : m1 + m2 < Top) :
    Calls Try.prog 8 #[v1, v2] w (Post w fun v w' => Num w' v (m1 + m2)) := by
  obtain ⟨i0, hi, hz0, hz1, hz2⟩ := info_parts info_u64
  obtain ⟨a1, n1, c1, rfl, l1, b1⟩ := h1.len
  obtain ⟨a2, n2, c2, rfl, l2, b2⟩ := h2.len
  obtain ⟨N, hN⟩ : ∃ N : Nat, max n1 n2 = N := ⟨_, rfl⟩
  have hN' : max (n1 : Int) n2 = N := by omega
  have hN1 : N ≤ 4096 := by omega
  have k1 : m1 < B32 ^ (2 * N) := Nat.lt_of_lt_of_le b1 (Nat.pow_le_pow_right B32_pos (by omega))
  have k2 : m2 < B32 ^ (2 * N) := Nat.lt_of_lt_of_le b2 (Nat.pow_le_pow_right B32_pos (by omega))
  have HD := Lib.hid (addT_done k1 k2)
  have HT := Lib.hid ht
  clear hN k1 k2 b1 b2 ht
  go_enter Try.func8, Try.ntmps8
  go_wp2
  go_loopw [5, 6, 7] (fun o cv i wr => ∃ (j c : Nat) (L : List Nat), j ≤ 2 * N + 1 ∧ i = .int .i64 j ∧ cv = .int .u64 c ∧ c ≤ 1 ∧ Own wr w.heap.size o L ∧ L.length = j ∧ Hid (Carry L j c (addT m1 m2 j)) ∧ Ext w wr) (fun _ _ i _ => 2 * N + 1 - (intOf i).toNat)
  case atStart => exact ⟨0, 0, [], by omega, rfl, rfl, by omega, Own.nil _ _, rfl, Lib.hid ⟨rfl, by simp, by rw [addT_zero]; rfl⟩, Ext.refl _⟩
  case round =>
    obtain ⟨j, c, L, hj, rfl, rfl, hc, hown, hl, HC, hE⟩ := hrel
    by_cases hlt : j < 2 * N + 1
    · have hx := dg_lt m1 j
      have hy := dg_lt m2 j
      have hst := addT_step m1 m2 j
      have d1 := digit_n j (h1.ext hE) (by omega)
      have d2 := digit_n j (h2.ext hE) (by omega)
      generalize dg m1 j = x at *
      generalize dg m2 j = y at *
      have hx' : (x : Int) < 4294967296 := by unfold B32 at hx; omega
      have hy' : (y : Int) < 4294967296 := by unfold B32 at hy; omega
      have hc' : (c : Int) ≤ 1 := by omega
      obtain ⟨s, hs⟩ : ∃ s, x + y + c = s := ⟨_, rfl⟩
      have hs' : (x : Int) + y + c = s := by omega
      have hsb : (s : Int) < 18446744073709551616 := by omega
      obtain ⟨r, hr⟩ : ∃ r, s % B32 = r := ⟨_, rfl⟩
      obtain ⟨q, hq⟩ : ∃ q, s / B32 = q := ⟨_, rfl⟩
      have hr' : (s : Int) % 4294967296 = r := by rw [← hr]; rfl
      have hq' : (s : Int) / 4294967296 = q := by rw [← hq]; rfl
      have hq1 : q ≤ 1 := by rw [← hq]; unfold B32 at *; omega
      have hcar := HC.out.step (x + y) s hs.symm hst
      rw [hr, hq] at hcar
      have HC2 := Lib.hid hcar
      have HL := Lib.hid hl
      have hjj : (j : Int) ≤ 2 * (N : Int) := by omega
      have HJ := Lib.hid (And.intro hj hlt)
      clear hst hs hr hq hcar hx hy hl hj hlt
      go_wp2_with fail
      refine d1.mono ?_
      rintro e w' ⟨rfl, rfl⟩
      go_wp2_with fail
      refine d2.mono ?_
      rintro e w' ⟨rfl, rfl⟩
      clear d1 d2
      go_wp2_with (at_builtin; refine wpList_app w (hE.alloc _) rfl _ _ 25 rfl 34 i0 (.int .u64 0) 1 8 Try.underlying25 hi hz0 hz1 hz2 rfl (by decide) _ L.length (lims L) rfl (hown.alloc _) (some ⟨wr.heap.size, 0, none⟩) 1 1 [.int .u64 (r : Int)] rfl rfl (.inr ⟨_, rfl, cell_one_new _ _ _⟩) (by simp [Value.oneCell']) (by have := HL.out; omega) (by have := HL.out; omega) ?_; intro v' w1 hown1 hext1 _)
      go_roundw
      case rel => exact ⟨j + 1, q, L ++ [r], by omega, by go_num, rfl, hq1, Own.of hown1, by rw [List.length_append, HL.out]; rfl, HC2, hext1⟩
      case measure => simp only [intOf]; omega
    · obtain rfl : j = 2 * N + 1 := by omega
      have hdn := HC.out.done (by rw [HD.out.1]; exact HD.out.2)
      rw [HD.out.1] at hdn
      have HDN := Lib.hid hdn.1
      clear hdn
      go_wp2_with fail
      refine (made_own hown HC.out.lt (by omega) (by rw [HDN.out]; exact HT.out)).mono ?_
      rintro e w2 ⟨v, rfl, E2, hv⟩
      rw [HDN.out] at hv
      go_wp2
      go_ret
      exact Post.mk (hE.trans E2) hv
end Go.Proofs.Ytgihjgkpmochcaa

namespace Go.Proofs.Ytgihjgkpmochcaa
open Go.RowKit

theorem Own.of_row {w : World} {b B n : Nat} {L : List Nat} (h : Row w b 34 L) (hB : B ≤ b) (hn : n = L.length) (hm : n ≤ 1000000) : Own w B (.slice (some ⟨b, 0, none⟩) n n) L := by
  subst hn
  refine ⟨by simp [lims], .inr ⟨b, L.length, _, rfl, hB, h, Nat.le_refl _, by unfold maxLen; omega, by simp [lims], by rw [Nat.mul_one]; exact List.take_of_length_le (by simp [lims])⟩⟩
theorem shl_bd {x r : Nat} (hx : x < B32) (hr : r < 32) : x * 2 ^ r + B32 ≤ B64 := by
  have h1 : (2 : Nat) ^ r ≤ 2 ^ 31 := Nat.pow_le_pow_right (by omega) (by omega)
  have h2 : x * 2 ^ r ≤ x * 2 ^ 31 := Nat.mul_le_mul_left _ h1
  unfold B32 B64 at *
  omega

set_option maxRecDepth 100000 in
set_option maxHeartbeats 1000000 in
theorem rshl_n {w : World} {v1 : Value} {m1 : Nat} (k : Nat) (h1 : IsN w v1 m1) (hk : k ≤ 1000000) (ht : m1 * 2 ^ k < Top) :
    Calls Try.prog 9 #[v1, .int .i64 k] w (Post w fun v w' => Num w' v (m1 * 2 ^ k)) := by
  obtain ⟨i0, hi, hz0, hz1, hz2⟩ := info_parts info_u64
  obtain ⟨a1, N, c1, rfl, l1, b1⟩ := h1.len
  obtain ⟨q, hq⟩ : ∃ q, k / 32 = q := ⟨_, rfl⟩
  obtain ⟨r, hr⟩ : ∃ r, k % 32 = r := ⟨_, rfl⟩
  have hq' : (k : Int) / 32 = q := by omega
  have hr' : (k : Int) % 32 = r := by omega
  have hr32 : r < 32 := by omega
  have hq32 : q ≤ 40000 := by omega
  have hsp := shl_split q r k (by omega)
  have hdn := shlT_done (q := q) b1 hr32
  rw [← hsp] at hdn
  have HD := Lib.hid hdn
  have HT := Lib.hid ht
  have hT0 : shlT m1 q r 0 = 0 := by simp [shlT, Nat.mod_one]
  have HT0 := Lib.hid hT0
  clear b1 ht hq hr hsp hdn hT0
  go_enter Try.func9, Try.ntmps9
  go_wp2_with (at_make; refine wpList_make_row _ rfl _ _ 25 rfl 34 i0 Try.underlying25 hi hz0 hz1 hz2 _ _ _ _ q rfl rfl (by omega) (by omega) (by omega) ?_; intro w1 hrow hext hsz)
  have hown0 : Own w1 w.heap.size (.slice (some ⟨w.heap.size, 0, none⟩) q q) (List.replicate q 0) := Own.of_row hrow (Nat.le_refl _) (by simp) (by omega)
  go_loopw [5, 6, 7] (fun o cv i wr => ∃ (j c : Nat) (L : List Nat), (j : Int) ≤ 2 * (N : Int) + 1 ∧ i = .int .i64 j ∧ cv = .int .u64 c ∧ c < B32 ∧ Own wr w.heap.size o L ∧ Hid (Carry L (q + j) c (shlT m1 q r j)) ∧ Ext w wr) (fun _ _ i _ => 2 * N + 1 - (intOf i).toNat)
  case atStart => exact ⟨0, 0, _, by omega, rfl, rfl, B32_pos, hown0, Lib.hid ⟨by simp, fun x hx => by rw [(List.mem_replicate.1 hx).2]; exact B32_pos, by rw [dval_zeros, HT0.out, Nat.mul_zero]⟩, hext⟩
  case round =>
    clear hrow hext hsz hown0
    obtain ⟨j, c, L, hj, rfl, rfl, hc, hown, HC, hE⟩ := hrel
    by_cases hlt : (j : Int) ≤ 2 * (N : Int)
    · have hx := dg_lt m1 j
      have hst := shlT_step m1 q r j
      have d1 := digit_n j (h1.ext hE) (by omega)
      generalize dg m1 j = x at *
      have hbd := shl_bd hx hr32
      obtain ⟨t, ht⟩ : ∃ t, x * 2 ^ r = t := ⟨_, rfl⟩
      rw [ht] at hst hbd
      have ht' : IntKind.u64.wrap ((x : Int) * 2 ^ r) = t := by
        have e : (x : Int) * 2 ^ r = t := by rw [← ht]; push_cast; rfl
        rw [e]; exact IntWalk.u64_in _ (by unfold B32 B64 at hbd; omega)
      have hx' : (x : Int) < 4294967296 := by unfold B32 at hx; omega
      have hc' : (c : Int) < 4294967296 := by unfold B32 at hc; omega
      have htb : (t : Int) ≤ 18446744069414584320 := by unfold B32 B64 at hbd; omega
      obtain ⟨s, hs⟩ : ∃ s, t + c = s := ⟨_, rfl⟩
      have hs' : (t : Int) + c = s := by omega
      have hsb : (s : Int) < 18446744073709551616 := by omega
      obtain ⟨u, hu⟩ : ∃ u, s % B32 = u := ⟨_, rfl⟩
      obtain ⟨y, hy⟩ : ∃ y, s / B32 = y := ⟨_, rfl⟩
      have hu' : (s : Int) % 4294967296 = u := by rw [← hu]; rfl
      have hy' : (s : Int) / 4294967296 = y := by rw [← hy]; rfl
      have hy1 : y < B32 := by rw [← hy]; unfold B32 at *; omega
      have hcar := HC.out.step t s hs.symm hst
      rw [hu, hy, Nat.add_assoc] at hcar
      have HC2 := Lib.hid hcar
      have HL := Lib.hid HC.out.len
      have HCC := Lib.hid hc
      clear hst ht hs hu hy hcar hx hbd hc
      go_wp2_with fail
      refine d1.mono ?_
      rintro e w' ⟨rfl, rfl⟩
      clear d1
      go_wp2_with (at_builtin; refine wpList_app w (hE.alloc _) rfl _ _ 25 rfl 34 i0 (.int .u64 0) 1 8 Try.underlying25 hi hz0 hz1 hz2 rfl (by decide) _ L.length (lims L) rfl (hown.alloc _) (some ⟨wr.heap.size, 0, none⟩) 1 1 [.int .u64 (u : Int)] rfl rfl (.inr ⟨_, rfl, cell_one_new _ _ _⟩) (by simp [Value.oneCell']) (by have := HL.out; omega) (by have := HL.out; omega) ?_; intro v' w1 hown1 hext1 _)
      go_roundw
      case rel => exact ⟨j + 1, y, L ++ [u], by omega, by go_num, rfl, hy1, Own.of hown1, HC2, hext1⟩
      case measure => simp only [intOf]; omega
    · obtain rfl : j = 2 * N + 1 := by omega
      have HL := Lib.hid HC.out.len
      have hdn := HC.out.done HD.out.2
      rw [HD.out.1] at hdn
      have HDN := Lib.hid hdn.1
      clear hdn
      go_wp2_with fail
      refine (made_own hown HC.out.lt (by have := HL.out; omega) (by rw [HDN.out]; exact HT.out)).mono ?_
      rintro e w2 ⟨v, rfl, E2, hv⟩
      rw [HDN.out] at hv
      go_wp2
      go_ret
      exact Post.mk (hE.trans E2) hv
end Go.Proofs.Ytgihjgkpmochcaa

namespace Go.Proofs.Ytgihjgkpmochcaa
open Go.RowKit

theorem digit_q {wr : World} {v : Value} {m : Nat} (i : Nat) (h : IsN wr v m) (hi : i ≤ 1000000) (q : Nat) :
    Calls Try.prog 21 #[v, .int .i64 i] (wr.drewN q) fun e w' => e = .returned (.int .u64 (dg m i)) ∧ w' = wr.drewN q := by
  refine (digit_n i (h.ext ((Ext.refl wr).drewN q)) hi).mono ?_
  rintro e w' ⟨rfl, rfl⟩
  exact ⟨rfl, rfl⟩

end Go.Proofs.Ytgihjgkpmochcaa

namespace Go.Proofs.Ytgihjgkpmochcaa
open Go.RowKit

theorem div_digit (m t : Nat) : m / B32 ^ t = B32 * (m / B32 ^ (t + 1)) + dg m t := by
  unfold dg
  rw [Nat.pow_succ, ← Nat.div_div_eq_div_mul, Nat.div_add_mod]
theorem cmp_digit {m1 m2 t : Nat} (h : m1 / B32 ^ (t + 1) = m2 / B32 ^ (t + 1)) (hd : dg m1 t < dg m2 t) : m1 < m2 := by
  have h1 := div_digit m1 t
  have h2 := div_digit m2 t
  rw [h] at h1
  have : m1 / B32 ^ t < m2 / B32 ^ t := by omega
  exact Nat.lt_of_div_lt_div this
theorem cmpN_lt {m1 m2 : Nat} (h : m1 < m2) : cmpN m1 m2 = -1 := by unfold cmpN; rw [if_pos h]
theorem cmpN_gt {m1 m2 : Nat} (h : m2 < m1) : cmpN m1 m2 = 1 := by unfold cmpN; rw [if_neg (by omega), if_pos h]

set_option maxRecDepth 100000 in
set_option maxHeartbeats 1000000 in
theorem rcmp_n {w : World} {v1 v2 : Value} {m1 m2 : Nat} (h1 : IsN w v1 m1) (h2 : IsN w v2 m2) :
    Calls Try.prog 11 #[v1, v2] w fun e w' => e = .returned (.int .i64 (cmpN m1 m2)) ∧ w = w' := by
  obtain ⟨a1, n1, c1, rfl, l1, b1⟩ := h1.len
  obtain ⟨a2, n2, c2, rfl, l2, b2⟩ := h2.len
  obtain ⟨N, hN⟩ : ∃ N : Nat, max n1 n2 = N := ⟨_, rfl⟩
  have hN' : max (n1 : Int) n2 = N := by omega
  have hN1 : N ≤ 4096 := by omega
  have k1 : m1 < B32 ^ (2 * N) := Nat.lt_of_lt_of_le b1 (Nat.pow_le_pow_right B32_pos (by omega))
  have k2 : m2 < B32 ^ (2 * N) := Nat.lt_of_lt_of_le b2 (Nat.pow_le_pow_right B32_pos (by omega))
  clear hN b1 b2
  have loop : ∀ (M : Int), (2 * (N : Int) - 1 = M) → ((M = -1 ∧ Hid (m1 = m2)) ∨ ∃ t : Nat, M = t ∧ Hid (m1 / B32 ^ (t + 1) = m2 / B32 ^ (t + 1))) →
      Calls Try.prog 11 #[.slice a1 n1 c1, .slice a2 n2 c2] w fun e w' => e = .returned (.int .i64 (cmpN m1 m2)) ∧ w = w' := by
    intro M hM hst
    have hMb : -1 ≤ M ∧ M ≤ 8192 := by omega
    have HM := Lib.hid (And.intro hMb hst)
    clear hMb hst k1 k2
    go_enter Try.func11, Try.ntmps11
    go_wp2
    clear hM
    go_loop [5] (fun i => ∃ M : Int, i = .int .i64 M ∧ Hid (-1 ≤ M ∧ M ≤ 8192) ∧ ((M = -1 ∧ Hid (m1 = m2)) ∨ ∃ t : Nat, M = t ∧ Hid (m1 / B32 ^ (t + 1) = m2 / B32 ^ (t + 1)))) (fun i => (intOf i + 1).toNat)
    case atStart => exact ⟨M, rfl, Lib.hid HM.out.1, HM.out.2⟩
    case round =>
      clear HM
      obtain ⟨M', rfl, HB, ⟨rfl, HE⟩ | ⟨t, rfl, HE⟩⟩ := hrel
      · go_wp2
        go_ret
        exact ⟨by rw [HE.out, cmpN_self]; rfl, rfl⟩
      · have ht : t ≤ 8192 := by have := HB.out.2; omega
        have d1 := digit_n t h1 (by omega)
        have d2 := digit_n t h2 (by omega)
        have e1 : ((t : Nat) : Int) - 1 = (if t = 0 then -1 else ((t - 1 : Nat) : Int)) := by split <;> omega
        have s1 := fun h => cmp_digit (m1 := m1) (m2 := m2) (t := t) HE.out h
        have s2 := fun h => cmp_digit (m1 := m2) (m2 := m1) (t := t) HE.out.symm h
        have s3 := div_digit m1 t
        have s4 := div_digit m2 t
        rw [HE.out] at s3
        generalize dg m1 t = x at *
        generalize dg m2 t = y at *
        have HE1 := Lib.hid e1
        have HS1 := Lib.hid s1
        have HS2 := Lib.hid s2
        have HS3 := Lib.hid (And.intro s3 s4)
        clear s1 s2 s3 s4 e1
        by_cases hxy : x < y
        · have hc := cmpN_lt (HS1.out hxy)
          have HC := Lib.hid hc
          clear hc
          go_wp2_with fail
          refine d1.mono ?_
          rintro e w' ⟨rfl, rfl⟩
          go_wp2_with fail
          refine d2.mono ?_
          rintro e w' ⟨rfl, rfl⟩
          go_wp2
          go_ret
          exact ⟨by rw [HC.out]; rfl, rfl⟩
        · by_cases hyx : y < x
          · have hc := cmpN_gt (HS2.out hyx)
            have HC := Lib.hid hc
            clear hc
            go_wp2_with fail
            refine d1.mono ?_
            rintro e w' ⟨rfl, rfl⟩
            go_wp2_with fail
            refine d2.mono ?_
            rintro e w' ⟨rfl, rfl⟩
            go_wp2_with fail
            refine d1.mono ?_
            rintro e w' ⟨rfl, rfl⟩
            go_wp2_with fail
            refine d2.mono ?_
            rintro e w' ⟨rfl, rfl⟩
            go_wp2
            go_ret
            exact ⟨by rw [HC.out]; rfl, rfl⟩
          · obtain rfl : x = y := by omega
            have hq : m1 / B32 ^ t = m2 / B32 ^ t := by rw [HS3.out.1, HS3.out.2]
            have HQ := Lib.hid hq
            clear hxy hyx hq
            go_wp2_with fail
            refine d1.mono ?_
            rintro e w' ⟨rfl, rfl⟩
            go_wp2_with fail
            refine d2.mono ?_
            rintro e w' ⟨rfl, rfl⟩
            go_wp2_with fail
            refine d1.mono ?_
            rintro e w' ⟨rfl, rfl⟩
            go_wp2_with fail
            refine d2.mono ?_
            rintro e w' ⟨rfl, rfl⟩
            go_wp2
            go_round
            case rel =>
              refine ⟨(t : Int) - 1, rfl, Lib.hid (by omega), ?_⟩
              by_cases h0 : t = 0
              · left
                have := HQ.out
                subst h0
                rw [Nat.pow_zero, Nat.div_one, Nat.div_one] at this
                exact ⟨rfl, Lib.hid this⟩
              · right
                exact ⟨t - 1, by omega, Lib.hid (by rw [show t - 1 + 1 = t by omega]; exact HQ.out)⟩
            case measure => simp only [intOf]; omega
  by_cases h0 : N = 0
  · subst h0
    refine loop (-1) (by omega) (.inl ⟨rfl, Lib.hid ?_⟩)
    rw [Nat.mul_zero, Nat.pow_zero] at k1 k2
    omega
  · refine loop (2 * (N : Int) - 1) rfl (.inr ⟨2 * N - 1, by omega, Lib.hid ?_⟩)
    rw [show 2 * N - 1 + 1 = 2 * N by omega, Nat.div_eq_of_lt k1, Nat.div_eq_of_lt k2]
end Go.Proofs.Ytgihjgkpmochcaa
