/- NatLong. -/
import Derived.Test.YtnecpkoibknacaaW33
namespace Go.Proofs.Ytnecpkoibknacaa
open Go.RowKit

theorem len_eq {n k : Nat} (h1 : B64 ^ k ≤ n) (h2 : n < B64 ^ (k + 1)) : (limbs n).length = k + 1 := by
  have a := length_limbs_le h2
  by_cases h : (limbs n).length ≤ k
  · have := lt_of_length_limbs h; omega
  · omega
theorem len_pow {e k : Nat} (h1 : 64 * k ≤ e) (h2 : e < 64 * (k + 1)) : (limbs (2 ^ e)).length = k + 1 :=
  len_eq (by rw [B64_pow]; exact Nat.pow_le_pow_right (by omega) h1) (by rw [B64_pow]; exact Nat.pow_lt_pow_right (by omega) h2)
theorem top_len {n k : Nat} (h : (limbs n).length = k) : n < Top ↔ k ≤ 2048 := by rw [← fits_iff, h]
theorem long_bounds {low K d : Nat} (hl : low < B64) (hd : d ≤ 1) (hK : 2 ≤ K) : B64 ^ K ≤ low + B64 ^ K + d ∧ low + B64 ^ K + d < B64 ^ (K + 1) := by
  refine ⟨by omega, ?_⟩
  have h1 : B64 ≤ B64 ^ K := by
    have := Nat.pow_le_pow_right B64_pos (show 1 ≤ K by omega)
    rwa [Nat.pow_one] at this
  rw [Nat.pow_succ]
  have h2 : B64 ^ K * 3 ≤ B64 ^ K * B64 := Nat.mul_le_mul_left _ (by unfold B64; omega)
  omega
theorem long_len {low K : Nat} (d : Nat) (hl : low < B64) (hd : d ≤ 1) (hK : 2 ≤ K) : (limbs (low + B64 ^ K + d)).length = K + 1 := len_eq (long_bounds hl hd hK).1 (long_bounds hl hd hK).2
theorem long_val {low K : Nat} (hK : 0 < K) : val (((List.replicate (K + 1) 0).set K 1).set 0 low) = low + B64 ^ K := by
  have h1 := val_set (List.replicate (K + 1) 0) K 1 (by simp)
  rw [getD_replicate, val_zeros] at h1
  have h2 := val_set ((List.replicate (K + 1) 0).set K 1) 0 low (by simp)
  rw [getD_set, if_neg (by omega), getD_replicate, Nat.pow_zero] at h2
  omega
theorem Num.length {w : World} {v : Value} {m : Nat} (h : Num w v m) : ∃ a c, v = .slice a (limbs m).length c := by
  obtain ⟨_, a, n, c, rfl, h⟩ := h
  rw [← h.len]; exact ⟨a, c, rfl⟩

/-- What a long number's calls say, where it fits. -/
structure Fits (low K : Nat) : Prop where
  v : low + B64 ^ K < Top
  a : low + B64 ^ K + 1 < Top
  l : (limbs (low + B64 ^ K)).length = K + 1
theorem fits_of {low K : Nat} (hl : low < B64) (hK : 2 ≤ K) (h : K + 1 ≤ 2048) : Fits low K :=
  ⟨(top_len (long_len 0 hl (by omega) hK)).2 h, (top_len (long_len 1 hl (by omega) hK)).2 h, long_len 0 hl (by omega) hK⟩
theorem fits_no {low K : Nat} (hl : low < B64) (hK : 2 ≤ K) (h : ¬ K + 1 ≤ 2048) : ¬ low + B64 ^ K < Top ∧ ¬ low + B64 ^ K + 1 < Top :=
  ⟨fun h' => h ((top_len (long_len 0 hl (by omega) hK)).1 h'), fun h' => h ((top_len (long_len 1 hl (by omega) hK)).1 h')⟩

set_option maxRecDepth 100000 in
set_option maxHeartbeats 2000000 in
theorem long_yes (m : Int) (low K s1 s2 : Nat) (w : World) (hm1 : -2 ≤ m) (hm2 : m ≤ 0) (hm : 2048 + m = (K : Int) + 1) (hl : low < B64) (hs1 : 64 * ((K : Int) + 1) - 1 = s1) (hs2 : 64 * ((K : Int) + 1) = s2) :
    Calls Try.prog 7 #[.int .i8 m, .int .u64 low] w (Post w fun v _ => v = .bool true) := by
  obtain ⟨i0, hi, hz0, hz1, hz2⟩ := info_parts info_u64
  have hk : 2 ≤ K := by omega
  have hk1 : K + 1 ≤ 2050 := by omega
  have HF := Lib.hid (fits_of hl hk (by omega))
  have h1 : K + 1 ≤ 2048 := by omega
  have hd3 : decide (m ≤ 0) = true := decide_eq_true (by omega)
  have HLV := Lib.hid (long_val (low := low) (K := K) (by omega))
  have hl' : (low : Int) < 18446744073709551616 := by unfold B64 at hl; omega
  have hlt : ∀ x ∈ (((List.replicate (K + 1) 0).set K 1).set 0 low), x < B64 := lt_set (lt_set (fun x hx => by rw [(List.mem_replicate.1 hx).2]; exact B64_pos) B64_one K) hl 0
  have HLT := Lib.hid hlt
  have hd1 : decide (m < -2) = false := decide_eq_false (by omega)
  have hd2 : decide (2 < m) = false := decide_eq_false (by omega)
  have hw1 : IntKind.i64.wrap m = m := IntWalk.i64_in _ (by omega)
  have hw2 : IntKind.i64.wrap (2048 + m) = (K : Int) + 1 := by rw [hm]; exact IntWalk.i64_in _ (by omega)
  have hw3 : IntKind.i64.wrap (64 * ((K : Int) + 1)) = s2 := by rw [hs2]; exact IntWalk.i64_in _ (by omega)
  have hw4 : IntKind.i64.wrap ((s2 : Int) - 1) = s1 := by rw [← hs2, hs1]; exact IntWalk.i64_in _ (by omega)
  have HS := Lib.hid (And.intro hs1 hs2)
  have HM := Lib.hid (And.intro hm (And.intro hm1 hm2))
  clear hm hm1 hm2 hs1 hs2 hlt
  go_enter Try.func7, Try.ntmps7
  go_wp2_with (at_make; refine wpList_make_row _ rfl _ _ 23 rfl 48 i0 Try.underlying23 hi hz0 hz1 hz2 _ _ _ _ (K + 1) rfl rfl (by omega) (by omega) (by omega) ?_; intro w1 hrow hext hsz; have cK := hrow.cell (i := K) (by simp); have fK := hrow.frozen K; have c0 := hrow.cell (i := 0) (by simp); have f0 := hrow.frozen 0; have HSZ := Lib.hid hsz; clear hsz)
  have hr2 := (hrow.set K 1).set 0 low
  have E0 : Ext w ((w1.setCell ⟨w.heap.size, K, none⟩ (.int .u64 ((1 : Nat) : Int))).setCell ⟨w.heap.size, 0, none⟩ (.int .u64 (low : Int))) := (hext.set (p := ⟨w.heap.size, K, none⟩) (Nat.le_refl _) _).set (p := ⟨w.heap.size, 0, none⟩) (Nat.le_refl _) _
  have hN : IsN ((w1.setCell ⟨w.heap.size, K, none⟩ (.int .u64 ((1 : Nat) : Int))).setCell ⟨w.heap.size, 0, none⟩ (.int .u64 (low : Int))) (.slice (some ⟨w.heap.size, 0, none⟩) (K + 1) (K + 1)) (low + B64 ^ K) := ⟨_, _, _, _, rfl, hr2.nums' (by omega) (by simp) HLT.out, by omega, HLV.out⟩
  rw [show (((1 : Nat) : Int)) = 1 from rfl] at E0 hN
  clear hr2 hrow cK fK c0 f0 hext hz0 hz1 hz2 hi
  generalize (w1.setCell ⟨w.heap.size, K, none⟩ (.int .u64 1)).setCell ⟨w.heap.size, 0, none⟩ (.int .u64 (low : Int)) = W at *
  refine (norm_n hN HF.out.v).mono ?_
  rintro e w2 ⟨_, rfl, E2, b, rfl, hb⟩
  go_wp2_with fail
  refine (of_n (x := 1) (by unfold B64; omega) _).mono ?_
  rintro e w3 ⟨o, rfl, E3, ho⟩
  go_wp2_with fail
  refine (add_ok (hN.ext (by repeat (first | exact Ext.refl _ | with_reducible assumption | (with_reducible refine Ext.alloc ?_ _) | (with_reducible refine Ext.drew ?_) | (with_reducible refine Ext.trans ?_ (by with_reducible assumption))))) ho.is HF.out.a).mono ?_
  rintro e w4 ⟨_, rfl, E4, _, rfl, _⟩
  go_wp2_with fail
  refine (of_n (x := 1) (by unfold B64; omega) _).mono ?_
  rintro e w5 ⟨o5, rfl, E5, ho5⟩
  go_wp2_with fail
  refine (sub_ok (hN.ext (by repeat (first | exact Ext.refl _ | with_reducible assumption | (with_reducible refine Ext.alloc ?_ _) | (with_reducible refine Ext.drew ?_) | (with_reducible refine Ext.trans ?_ (by with_reducible assumption))))) ho5.is HF.out.v (by have := Nat.pow_pos (n := K) B64_pos; omega)).mono ?_
  rintro e w6 ⟨_, rfl, E6, _, rfl, _⟩
  go_wp2_with fail
  refine (of_n (x := 3) (by unfold B64; omega) _).mono ?_
  rintro e w7 ⟨o7, rfl, E7, ho7⟩
  go_wp2_with fail
  refine (div_ok (hN.ext (by repeat (first | exact Ext.refl _ | with_reducible assumption | (with_reducible refine Ext.alloc ?_ _) | (with_reducible refine Ext.drew ?_) | (with_reducible refine Ext.trans ?_ (by with_reducible assumption))))) ho7.is HF.out.v (head_small (by omega)) (by omega)).mono ?_
  rintro e w8 ⟨_, rfl, E8, _, _, rfl, _, _⟩
  go_wp2_with fail
  refine (shr_ok 1 (hN.ext (by repeat (first | exact Ext.refl _ | with_reducible assumption | (with_reducible refine Ext.alloc ?_ _) | (with_reducible refine Ext.drew ?_) | (with_reducible refine Ext.trans ?_ (by with_reducible assumption))))) HF.out.v (by omega)).mono ?_
  rintro e w9 ⟨_, rfl, E9, _, rfl, _⟩
  go_wp2_with fail
  refine (of_n (x := 2) (by unfold B64; omega) _).mono ?_
  rintro e w10 ⟨o10, rfl, E10, ho10⟩
  go_wp2_with fail
  refine (gcd_ok (hN.ext (by repeat (first | exact Ext.refl _ | with_reducible assumption | (with_reducible refine Ext.alloc ?_ _) | (with_reducible refine Ext.drew ?_) | (with_reducible refine Ext.trans ?_ (by with_reducible assumption))))) ho10.is HF.out.v (head_small (by omega))).mono ?_
  rintro e w11 ⟨_, rfl, E11, _, rfl, _⟩
  obtain ⟨ab, cb, rfl⟩ := hb.length
  rw [HF.out.l]
  go_wp2_with fail
  refine (of_n (x := 1) (by unfold B64; omega) _).mono ?_
  rintro e w12 ⟨o12, rfl, E12, ho12⟩
  go_wp2_with fail
  have hc1 : (limbs (1 * 2 ^ s1)).length = K + 1 := by rw [Nat.one_mul]; exact len_pow (by have := HS.out.1; omega) (by have := HS.out.1; omega)
  refine (shl_ok s1 ho12.is (by have := HS.out.1; omega) ((top_len hc1).2 h1)).mono ?_
  rintro e w13 ⟨_, rfl, E13, c, rfl, hc⟩
  obtain ⟨ac, cc, rfl⟩ := hc.length
  rw [hc1]
  clear hc hc1
  go_wp2_with fail
  refine (of_n (x := 1) (by unfold B64; omega) _).mono ?_
  rintro e w14 ⟨o14, rfl, E14, ho14⟩
  go_wp2_with fail
  have hc2 : (limbs (1 * 2 ^ s2)).length = K + 2 := by rw [Nat.one_mul]; exact len_pow (by have := HS.out.2; omega) (by have := HS.out.2; omega)
  have hs2 : s2 ≤ 4611686018427387904 := by have := HS.out.2; omega
  by_cases hm0 : m < 0
  · refine (shl_ok s2 ho14.is hs2 ((top_len hc2).2 (by have := HM.out.1; omega))).mono ?_
    rintro e w15 ⟨_, rfl, E15, _, rfl, _⟩
    clear hc2
    have hd4 : decide (m < 0) = true := decide_eq_true hm0
    clear hm0
    go_wp2_with fail
    refine (head_any _).mono ?_
    rintro e w17 ⟨_, rfl, E17, rfl⟩
    go_wp2
    go_ret
    exact Post.mk (by repeat (first | exact Ext.refl _ | with_reducible assumption | (with_reducible refine Ext.alloc ?_ _) | (with_reducible refine Ext.drew ?_) | (with_reducible refine Ext.trans ?_ (by with_reducible assumption)))) rfl
  · refine (shl_long s2 ho14.is hs2 (fun h => by have := (top_len hc2).1 h; have := HM.out.1; omega)).mono ?_
    rintro e w15 ⟨_, rfl, E15, rfl⟩
    clear hc2
    have hd4 : decide (m < 0) = false := decide_eq_false hm0
    clear hm0
    go_wp2_with fail
    refine (head_any _).mono ?_
    rintro e w17 ⟨_, rfl, E17, rfl⟩
    go_wp2
    go_ret
    exact Post.mk (by repeat (first | exact Ext.refl _ | with_reducible assumption | (with_reducible refine Ext.alloc ?_ _) | (with_reducible refine Ext.drew ?_) | (with_reducible refine Ext.trans ?_ (by with_reducible assumption)))) rfl
set_option maxRecDepth 100000 in
set_option maxHeartbeats 2000000 in
theorem long_no (m : Int) (low K s1 s2 : Nat) (w : World) (hm1 : -2 ≤ m) (hm2 : 0 < m ∧ m ≤ 2) (hm : 2048 + m = (K : Int) + 1) (hl : low < B64) (hs1 : 64 * ((K : Int) + 1) - 1 = s1) (hs2 : 64 * ((K : Int) + 1) = s2) :
    Calls Try.prog 7 #[.int .i8 m, .int .u64 low] w (Post w fun v _ => v = .bool true) := by
  obtain ⟨i0, hi, hz0, hz1, hz2⟩ := info_parts info_u64
  have hk : 2 ≤ K := by omega
  have hk1 : K + 1 ≤ 2050 := by omega
  have HF := Lib.hid (fits_no hl hk (by omega))
  have h1 : ¬ K + 1 ≤ 2048 := by omega
  have hd3 : decide (m ≤ 0) = false := decide_eq_false (by omega)
  have hd4 : decide (m < 0) = false := decide_eq_false (by omega)
  have HLV := Lib.hid (long_val (low := low) (K := K) (by omega))
  have hl' : (low : Int) < 18446744073709551616 := by unfold B64 at hl; omega
  have hlt : ∀ x ∈ (((List.replicate (K + 1) 0).set K 1).set 0 low), x < B64 := lt_set (lt_set (fun x hx => by rw [(List.mem_replicate.1 hx).2]; exact B64_pos) B64_one K) hl 0
  have HLT := Lib.hid hlt
  have hd1 : decide (m < -2) = false := decide_eq_false (by omega)
  have hd2 : decide (2 < m) = false := decide_eq_false (by omega)
  have hw1 : IntKind.i64.wrap m = m := IntWalk.i64_in _ (by omega)
  have hw2 : IntKind.i64.wrap (2048 + m) = (K : Int) + 1 := by rw [hm]; exact IntWalk.i64_in _ (by omega)
  have hw3 : IntKind.i64.wrap (64 * ((K : Int) + 1)) = s2 := by rw [hs2]; exact IntWalk.i64_in _ (by omega)
  have hw4 : IntKind.i64.wrap ((s2 : Int) - 1) = s1 := by rw [← hs2, hs1]; exact IntWalk.i64_in _ (by omega)
  have HS := Lib.hid (And.intro hs1 hs2)
  have HM := Lib.hid (And.intro hm (And.intro hm1 hm2))
  clear hm hm1 hm2 hs1 hs2 hlt
  go_enter Try.func7, Try.ntmps7
  go_wp2_with (at_make; refine wpList_make_row _ rfl _ _ 23 rfl 48 i0 Try.underlying23 hi hz0 hz1 hz2 _ _ _ _ (K + 1) rfl rfl (by omega) (by omega) (by omega) ?_; intro w1 hrow hext hsz; have cK := hrow.cell (i := K) (by simp); have fK := hrow.frozen K; have c0 := hrow.cell (i := 0) (by simp); have f0 := hrow.frozen 0; have HSZ := Lib.hid hsz; clear hsz)
  have hr2 := (hrow.set K 1).set 0 low
  have E0 : Ext w ((w1.setCell ⟨w.heap.size, K, none⟩ (.int .u64 ((1 : Nat) : Int))).setCell ⟨w.heap.size, 0, none⟩ (.int .u64 (low : Int))) := (hext.set (p := ⟨w.heap.size, K, none⟩) (Nat.le_refl _) _).set (p := ⟨w.heap.size, 0, none⟩) (Nat.le_refl _) _
  have hN : IsN ((w1.setCell ⟨w.heap.size, K, none⟩ (.int .u64 ((1 : Nat) : Int))).setCell ⟨w.heap.size, 0, none⟩ (.int .u64 (low : Int))) (.slice (some ⟨w.heap.size, 0, none⟩) (K + 1) (K + 1)) (low + B64 ^ K) := ⟨_, _, _, _, rfl, hr2.nums' (by omega) (by simp) HLT.out, by omega, HLV.out⟩
  rw [show (((1 : Nat) : Int)) = 1 from rfl] at E0 hN
  clear hr2 hrow cK fK c0 f0 hext hz0 hz1 hz2 hi
  generalize (w1.setCell ⟨w.heap.size, K, none⟩ (.int .u64 1)).setCell ⟨w.heap.size, 0, none⟩ (.int .u64 (low : Int)) = W at *
  refine (norm_long hN HF.out.1).mono ?_
  rintro e w2 ⟨_, rfl, E2, rfl⟩
  go_wp2_with fail
  refine (of_n (x := 1) (by unfold B64; omega) _).mono ?_
  rintro e w3 ⟨o, rfl, E3, ho⟩
  go_wp2_with fail
  refine (add_long (hN.ext (by repeat (first | exact Ext.refl _ | with_reducible assumption | (with_reducible refine Ext.alloc ?_ _) | (with_reducible refine Ext.drew ?_) | (with_reducible refine Ext.trans ?_ (by with_reducible assumption))))) ho.is HF.out.2).mono ?_
  rintro e w4 ⟨_, rfl, E4, rfl⟩
  go_wp2_with fail
  refine (of_n (x := 1) (by unfold B64; omega) _).mono ?_
  rintro e w5 ⟨o5, rfl, E5, ho5⟩
  go_wp2_with fail
  refine (sub_long (hN.ext (by repeat (first | exact Ext.refl _ | with_reducible assumption | (with_reducible refine Ext.alloc ?_ _) | (with_reducible refine Ext.drew ?_) | (with_reducible refine Ext.trans ?_ (by with_reducible assumption))))) ho5.is HF.out.1).mono ?_
  rintro e w6 ⟨_, rfl, E6, rfl⟩
  go_wp2_with fail
  refine (of_n (x := 3) (by unfold B64; omega) _).mono ?_
  rintro e w7 ⟨o7, rfl, E7, ho7⟩
  go_wp2_with fail
  refine (div_toolong (hN.ext (by repeat (first | exact Ext.refl _ | with_reducible assumption | (with_reducible refine Ext.alloc ?_ _) | (with_reducible refine Ext.drew ?_) | (with_reducible refine Ext.trans ?_ (by with_reducible assumption))))) ho7.is HF.out.1).mono ?_
  rintro e w8 ⟨_, rfl, E8, rfl⟩
  go_wp2_with fail
  refine (shr_long 1 (hN.ext (by repeat (first | exact Ext.refl _ | with_reducible assumption | (with_reducible refine Ext.alloc ?_ _) | (with_reducible refine Ext.drew ?_) | (with_reducible refine Ext.trans ?_ (by with_reducible assumption))))) HF.out.1).mono ?_
  rintro e w9 ⟨_, rfl, E9, rfl⟩
  go_wp2_with fail
  refine (of_n (x := 2) (by unfold B64; omega) _).mono ?_
  rintro e w10 ⟨o10, rfl, E10, ho10⟩
  go_wp2_with fail
  refine (gcd_long (hN.ext (by repeat (first | exact Ext.refl _ | with_reducible assumption | (with_reducible refine Ext.alloc ?_ _) | (with_reducible refine Ext.drew ?_) | (with_reducible refine Ext.trans ?_ (by with_reducible assumption))))) ho10.is HF.out.1).mono ?_
  rintro e w11 ⟨_, rfl, E11, rfl⟩
  go_wp2_with fail
  refine (of_n (x := 1) (by unfold B64; omega) _).mono ?_
  rintro e w12 ⟨o12, rfl, E12, ho12⟩
  go_wp2_with fail
  have hc1 : (limbs (1 * 2 ^ s1)).length = K + 1 := by rw [Nat.one_mul]; exact len_pow (by have := HS.out.1; omega) (by have := HS.out.1; omega)
  refine (shl_long s1 ho12.is (by have := HS.out.1; omega) (fun h => h1 ((top_len hc1).1 h))).mono ?_
  rintro e w13 ⟨_, rfl, E13, rfl⟩
  clear hc1
  go_wp2_with fail
  refine (of_n (x := 1) (by unfold B64; omega) _).mono ?_
  rintro e w14 ⟨o14, rfl, E14, ho14⟩
  go_wp2_with fail
  have hc2 : (limbs (1 * 2 ^ s2)).length = K + 2 := by rw [Nat.one_mul]; exact len_pow (by have := HS.out.2; omega) (by have := HS.out.2; omega)
  refine (shl_long s2 ho14.is (by have := HS.out.2; omega) (fun h => by have := (top_len hc2).1 h; omega)).mono ?_
  rintro e w15 ⟨_, rfl, E15, rfl⟩
  clear hc2
  go_wp2_with fail
  refine (head_any _).mono ?_
  rintro e w17 ⟨_, rfl, E17, rfl⟩
  go_wp2
  go_ret
  exact Post.mk (by repeat (first | exact Ext.refl _ | with_reducible assumption | (with_reducible refine Ext.alloc ?_ _) | (with_reducible refine Ext.drew ?_) | (with_reducible refine Ext.trans ?_ (by with_reducible assumption)))) rfl
set_option maxRecDepth 100000 in
theorem long_out (m : Int) (low : Int) (w : World) (hd : (decide (m < -2) || decide (2 < m)) = true) (hw1 : IntKind.i64.wrap m = m) :
    Calls Try.prog 7 #[.int .i8 m, .int .u64 low] w (Post w fun v _ => v = .bool true) := by
  cases h1 : decide (m < -2) with
  | true =>
    clear hd
    go_enter Try.func7, Try.ntmps7
    go_wp2_with fail
    refine (head_any _).mono ?_
    rintro e w17 ⟨_, rfl, E17, rfl⟩
    go_wp2
    go_ret
    exact Post.mk (by repeat (first | exact Ext.refl _ | with_reducible assumption | (with_reducible refine Ext.alloc ?_ _) | (with_reducible refine Ext.drew ?_) | (with_reducible refine Ext.trans ?_ (by with_reducible assumption)))) rfl
  | false =>
    rw [h1, Bool.false_or] at hd
    go_enter Try.func7, Try.ntmps7
    go_wp2_with fail
    refine (head_any _).mono ?_
    rintro e w17 ⟨_, rfl, E17, rfl⟩
    go_wp2
    go_ret
    exact Post.mk (by repeat (first | exact Ext.refl _ | with_reducible assumption | (with_reducible refine Ext.alloc ?_ _) | (with_reducible refine Ext.drew ?_) | (with_reducible refine Ext.trans ?_ (by with_reducible assumption)))) rfl
theorem long_law (m low : Int) (hm : (Lit.int .i8 m).wf = true) (hl : (Lit.int .u64 low).wf = true) (w : World) :
    Calls Try.prog 7 #[.int .i8 m, .int .u64 low] w fun e w' => e = .returned (.bool true) ∧ Below w.heap.size w w' := by
  have h0 := bounds_i8 hm
  have h1 := wf_u64 hl
  obtain ⟨l, rfl⟩ := Int.eq_ofNat_of_zero_le h1.1
  have hlb : l < B64 := by unfold B64; omega
  have : Calls Try.prog 7 #[.int .i8 m, .int .u64 l] w (Post w fun v _ => v = .bool true) := by
    by_cases ha : m < -2
    · exact long_out m l w (by simp [ha]) (IntWalk.i64_in _ (by omega))
    · by_cases hb : 2 < m
      · exact long_out m l w (by simp [hb]) (IntWalk.i64_in _ (by omega))
      · by_cases hc : m ≤ 0
        · exact long_yes m l (2047 + m).toNat (64 * ((2047 + m).toNat + 1) - 1) (64 * ((2047 + m).toNat + 1)) w (by omega) hc (by omega) hlb (by omega) (by omega)
        · exact long_no m l (2047 + m).toNat (64 * ((2047 + m).toNat + 1) - 1) (64 * ((2047 + m).toNat + 1)) w (by omega) (by omega) (by omega) hlb (by omega) (by omega)
  refine this.mono ?_
  rintro e w' ⟨_, rfl, hext, rfl⟩
  exact ⟨rfl, hext⟩
end Go.Proofs.Ytnecpkoibknacaa
