/- head: the calls whose answers the document fixes; great. -/
import Derived.Test.YtnecpkoibknacaaW29
namespace Go.Proofs.Ytnecpkoibknacaa
open Go.RowKit

theorem Nums.two {w : World} {b x y c : Nat} (h0 : w.cell? ⟨b, 0, none⟩ = some (.int .u64 x)) (h1 : w.cell? ⟨b, 1, none⟩ = some (.int .u64 y)) (hx : x < B64) (hy : y < B64) (hc : 2 ≤ c) : Nums w (some ⟨b, 0, none⟩) 2 c [x, y] :=
  ⟨rfl, by omega, hc, by simp [hx, hy], .inr ⟨b, 0, rfl, fun i hi => by
    match i, hi with
    | 0, _ => exact h0
    | 1, _ => exact h1⟩⟩
theorem IsN.two {w : World} {b x y c : Nat} (h0 : w.cell? ⟨b, 0, none⟩ = some (.int .u64 x)) (h1 : w.cell? ⟨b, 1, none⟩ = some (.int .u64 y)) (hx : x < B64) (hy : y < B64) (hc : 2 ≤ c) : IsN w (.slice (some ⟨b, 0, none⟩) 2 c) (val [x, y]) :=
  ⟨_, _, _, _, rfl, Nums.two h0 h1 hx hy hc, by omega, rfl⟩
theorem Num.one {w : World} {v : Value} {m x : Nat} (h : Num w v m) (e : limbs m = [x]) : ∃ b off c, v = .slice (some ⟨b, off, none⟩) 1 c ∧ w.cell? ⟨b, off, none⟩ = some (.int .u64 (x : Int)) := by
  obtain ⟨ht, a, n, c, rfl, h⟩ := h
  rw [e] at h
  obtain rfl := h.len
  rcases h.at_ with h0 | ⟨b, off, rfl, hc⟩
  · cases h0
  · exact ⟨b, off, c, rfl, hc 0 (by simp)⟩
theorem Num.two {w : World} {v : Value} {m x y : Nat} (h : Num w v m) (e : limbs m = [x, y]) : ∃ b off c, v = .slice (some ⟨b, off, none⟩) 2 c ∧ w.cell? ⟨b, off, none⟩ = some (.int .u64 (x : Int)) ∧ w.cell? ⟨b, off + 1, none⟩ = some (.int .u64 (y : Int)) := by
  obtain ⟨ht, a, n, c, rfl, h⟩ := h
  rw [e] at h
  obtain rfl := h.len
  rcases h.at_ with h0 | ⟨b, off, rfl, hc⟩
  · cases h0
  · exact ⟨b, off, c, rfl, hc 0 (by simp), hc 1 (by simp)⟩

theorem limbs_one {x : Nat} (h : x < B64) (h0 : x ≠ 0) : limbs x = [x] := by
  have := limbs_val (xs := [x]) (by simpa using h) (.inr (by simpa using h0))
  rwa [val_one] at this
theorem limbs_two {x y : Nat} (hx : x < B64) (hy : y < B64) (h0 : y ≠ 0) : limbs (x + B64 * y) = [x, y] := by
  have := limbs_val (xs := [x, y]) (by simp [hx, hy]) (.inr (by simpa using h0))
  rwa [show val [x, y] = x + B64 * y by simp [val]] at this
theorem head_mul : limbs (18446744073709551615 * 18446744073709551615) = [1, 18446744073709551614] := by
  rw [show 18446744073709551615 * 18446744073709551615 = 1 + B64 * 18446744073709551614 by unfold B64; omega]
  exact limbs_two (by unfold B64; omega) (by unfold B64; omega) (by omega)
theorem val_zero_one : val [0, 1] = 18446744073709551616 := by simp [val, B64]
theorem head_text : decT 18446744073709551616 = [49, 56, 52, 52, 54, 55, 52, 52, 48, 55, 51, 55, 48, 57, 53, 53, 49, 54, 49, 54] := by
  unfold decT
  rw [if_neg (by omega)]
  iterate 20 rw [rdig_pos (by omega)]
  rw [rdig]
  simp
theorem top_of {m k : Nat} (h : m < B64 ^ k) (hk : k ≤ 2048) : m < Top := top_le h hk
theorem head_root : IsRoot 99 9 := ⟨by omega, by omega⟩
theorem head_gcd : Nat.gcd 12 18 = 6 := by decide
def s0018 : ByteArray := ⟨#[48, 48, 49, 56]⟩
theorem head_digits : Digits s0018 := ⟨by decide, by decide⟩
theorem head_num : numOf (bts s0018) = 18 := by decide

theorem head_small {m : Nat} (h : m < 18446744073709551616) : m < Top := Nat.lt_of_lt_of_le h Top_big
theorem head_t1 : 18446744073709551615 * 18446744073709551615 < Top := top_of (k := 2) (by unfold B64; omega) (by omega)
theorem head_t2 : val [0, 1] < Top := top_of (k := 2) (by rw [val_zero_one]; unfold B64; omega) (by omega)
theorem head_q : val [0, 1] / 10 = 1844674407370955161 := by rw [val_zero_one]
theorem head_r : val [0, 1] % 10 = 6 := by rw [val_zero_one]
theorem head_str : (txt [49, 56, 52, 52, 54, 55, 52, 52, 48, 55, 51, 55, 48, 57, 53, 53, 49, 54, 49, 54]).toList = [49, 56, 52, 52, 54, 55, 52, 52, 48, 55, 51, 55, 48, 57, 53, 53, 49, 54, 49, 54] := by
  rw [ByteArray.toList_eq]; rfl

set_option maxRecDepth 100000 in
set_option maxHeartbeats 1000000 in
theorem head_any (w : World) : Calls Try.prog 10 #[] w (Post w fun v _ => v = .bool true) := by
  go_enter Try.func10, Try.ntmps10
  go_wp2_with fail
  have ha : IsN (w.alloc (.cells #[.int .u64 18446744073709551615] 48)) (.slice (some ⟨w.heap.size, 0, none⟩) 1 1) 18446744073709551615 := IsN.one (by simp) (by unfold B64; omega) (by omega)
  refine (mul_ok ha ha (head_small (by omega)) (head_small (by omega)) head_t1).mono ?_
  rintro e w1 ⟨_, rfl, h1, m, rfl, hm⟩
  have E1 : Ext w w1 := (by repeat (first | exact Ext.refl _ | with_reducible assumption | (with_reducible refine Ext.alloc ?_ _) | (with_reducible refine Ext.drew ?_) | (with_reducible refine Ext.trans ?_ (by with_reducible assumption))))
  have ha := ha.ext h1
  clear h1
  go_wp2_with fail
  refine (div_ok (IsN.two (x := 0) (y := 1) (by simp) (by simp) (by unfold B64; omega) (by unfold B64; omega) (by omega)) (IsN.one (x := 10) (by simp) (by unfold B64; omega) (by omega)) head_t2 (head_small (by omega)) (by omega)).mono ?_
  rintro e w2 ⟨_, rfl, h2, q, r, rfl, hq, hr⟩
  have E2 : Ext w1 w2 := (by repeat (first | exact Ext.refl _ | with_reducible assumption | (with_reducible refine Ext.alloc ?_ _) | (with_reducible refine Ext.drew ?_) | (with_reducible refine Ext.trans ?_ (by with_reducible assumption))))
  have ha := ha.ext E2
  clear h2
  go_wp2_with fail
  refine (parse_any s0018 _ (by decide)).mono ?_
  rintro e w3 ⟨_, rfl, E3, hpp⟩
  obtain ⟨p, rfl, hp⟩ := (hpp.2.2 (by decide) head_digits).fit_ok (by rw [head_num]; exact head_small (by omega))
  clear hpp
  go_wp2_with fail
  refine (gcd_ok (IsN.one (x := 12) (by simp) (by unfold B64; omega) (by omega)) (IsN.one (x := 18) (by simp) (by unfold B64; omega) (by omega)) (head_small (by omega)) (head_small (by omega))).mono ?_
  rintro e w4 ⟨_, rfl, h4, d, rfl, hd⟩
  have E4 : Ext w3 w4 := (by repeat (first | exact Ext.refl _ | with_reducible assumption | (with_reducible refine Ext.alloc ?_ _) | (with_reducible refine Ext.drew ?_) | (with_reducible refine Ext.trans ?_ (by with_reducible assumption))))
  clear h4
  go_wp2_with fail
  refine (root_ok (IsN.one (x := 99) (by simp) (by unfold B64; omega) (by omega)) (head_small (by omega))).mono ?_
  rintro e w5 ⟨_, rfl, h5, rt, hroot, s, rfl, hs⟩
  have E5 : Ext w4 w5 := (by repeat (first | exact Ext.refl _ | with_reducible assumption | (with_reducible refine Ext.alloc ?_ _) | (with_reducible refine Ext.drew ?_) | (with_reducible refine Ext.trans ?_ (by with_reducible assumption))))
  clear h5
  obtain rfl : rt = 9 := hroot.unique head_root
  clear hroot
  go_wp2_with fail
  have ha := ha.ext ((E3.trans E4).trans E5)
  refine (sub_none (Num.nil _).is ha Top_pos (head_small (by omega)) (by omega)).mono ?_
  rintro e w6 ⟨_, rfl, E6, rfl⟩
  obtain ⟨bm, om, cm, rfl, cm0, cm1⟩ := (hm.ext ((((E2.trans E3).trans E4).trans E5).trans E6)).two head_mul
  obtain ⟨bq, oq, cq, rfl, cq0⟩ := (hq.ext (((E3.trans E4).trans E5).trans E6)).one (limbs_one (by rw [head_q]; unfold B64; omega) (by rw [head_q]; omega))
  obtain ⟨br, orr, cr, rfl, cr0⟩ := (hr.ext (((E3.trans E4).trans E5).trans E6)).one (limbs_one (by rw [head_r]; unfold B64; omega) (by rw [head_r]; omega))
  obtain ⟨bp, op, cp, rfl, cp0⟩ := (hp.ext ((E4.trans E5).trans E6)).one (limbs_one (by rw [head_num]; unfold B64; omega) (by rw [head_num]; omega))
  obtain ⟨bd, od, cd, rfl, cd0⟩ := (hd.ext (E5.trans E6)).one (limbs_one (by rw [head_gcd]; unfold B64; omega) (by rw [head_gcd]; omega))
  obtain ⟨bs, os, cs, rfl, cs0⟩ := (hs.ext E6).one (limbs_one (by unfold B64; omega) (by omega))
  rw [head_q] at cq0
  rw [head_r] at cr0
  rw [head_num] at cp0
  rw [head_gcd] at cd0
  go_wp2_with fail
  refine (text_n (IsN.two (x := 0) (y := 1) (by simp) (by simp) (by unfold B64; omega) (by unfold B64; omega) (by omega)) head_t2).mono ?_
  rintro e w7 ⟨_, rfl, h7, rfl⟩
  rw [val_zero_one, head_text]
  have E7 : Ext w6 w7 := (by repeat (first | exact Ext.refl _ | with_reducible assumption | (with_reducible refine Ext.alloc ?_ _) | (with_reducible refine Ext.drew ?_) | (with_reducible refine Ext.trans ?_ (by with_reducible assumption))))
  have cp0 := E7.cell cp0
  have cd0 := E7.cell cd0
  have cs0 := E7.cell cs0
  clear hm hq hr hp hd hs
  have htx := head_str
  go_wp2
  go_ret
  exact Post.mk (by repeat (first | exact Ext.refl _ | with_reducible assumption | (with_reducible refine Ext.alloc ?_ _) | (with_reducible refine Ext.drew ?_) | (with_reducible refine Ext.trans ?_ (by with_reducible assumption)))) rfl
end Go.Proofs.Ytnecpkoibknacaa
