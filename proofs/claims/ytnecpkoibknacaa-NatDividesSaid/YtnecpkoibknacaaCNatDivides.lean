/- The law 'NatDivides' returns true for every input, and leaves what it was handed as it was: no condition. -/
import Derived.WalkKit
import Derived.ProofKit
import Derived.OpenShut
import Derived.ShutString
import Derived.ChangeOld
import Derived.Below
import Derived.Test.YtnecpkoibknacaaRows
import Derived.Test.YtnecpkoibknacaaM5
import Derived.Test.YtnecpkoibknacaaM7

namespace Go.Proofs.Ytnecpkoibknacaa
open Go.RowKit

theorem Sm.up {j k m : Nat} (h : Sm j m) (hk : j ≤ k) : Sm k m := Nat.lt_of_lt_of_le h (Nat.pow_le_pow_right B64_pos hk)

set_option maxRecDepth 100000 in
set_option maxHeartbeats 4000000 in
theorem divides_main (v1 v2 : Value) (a b : Nat) (n : Int) (w : World) (h1 : IsN w v1 a) (h2 : IsN w v2 b) (ha : Sm 6 a) (hb : Sm 6 b) (hn1 : -500 ≤ n) (hn2 : n ≤ 500)
    (hg : Calls Try.prog 9 #[v1, v2, .slice none 0 0] w fun e w' => e = .returned (.bool false) ∧ w = w') :
    Calls Try.prog 3 #[v1, v2, .int .i64 n] w (Post w fun v _ => v = .bool true) := by
  have ta := ha.top (by omega)
  have tb := hb.top (by omega)
  have a40 : Sm 2040 a := ha.up (by omega)
  have b40 : Sm 2040 b := hb.up (by omega)
  have a5 : Sm 500 a := ha.up (by omega)
  have hd1 : decide (500 < n) = false := decide_eq_false (by omega)
  have hd2 : decide (n < -500) = false := decide_eq_false (by omega)
  have HN := Lib.hid (And.intro hn1 hn2)
  clear hn1 hn2
  by_cases hb0 : b = 0
  · subst hb0
    by_cases hn0 : n < 0
    · have hd3 : decide (n < 0) = true := decide_eq_true hn0
      have HNN := Lib.hid hn0
      clear hn0
      go_enter Try.func3, Try.ntmps3
      go_wp2_with fail
      refine hg.mono ?_
      rintro e w' ⟨rfl, rfl⟩
      clear hg
      go_wp2_with fail
      refine (div_arg h1 h2 ta).mono ?_
      rintro e w1 ⟨_, rfl, E1, rfl⟩
      go_wp2_with fail
      refine (gcd_ok (h1.ext (by repeat (first | exact Ext.refl _ | with_reducible assumption | (with_reducible refine Ext.alloc ?_ _) | (with_reducible refine Ext.drew ?_) | (with_reducible refine Ext.trans ?_ (by with_reducible assumption))))) (h2.ext (by repeat (first | exact Ext.refl _ | with_reducible assumption | (with_reducible refine Ext.alloc ?_ _) | (with_reducible refine Ext.drew ?_) | (with_reducible refine Ext.trans ?_ (by with_reducible assumption))))) ta tb).mono ?_
      rintro e w2 ⟨_, rfl, E2, g, rfl, hgv⟩
      go_wp2_with fail
      refine (root_ok (h1.ext (by repeat (first | exact Ext.refl _ | with_reducible assumption | (with_reducible refine Ext.alloc ?_ _) | (with_reducible refine Ext.drew ?_) | (with_reducible refine Ext.trans ?_ (by with_reducible assumption))))) ta).mono ?_
      rintro e w3 ⟨_, rfl, E3, rt, hrt, s, rfl, hs⟩
      have HRT := Lib.hid hrt
      clear hrt
      go_wp2_with fail
      refine (rgcd_n (h1.ext (by repeat (first | exact Ext.refl _ | with_reducible assumption | (with_reducible refine Ext.alloc ?_ _) | (with_reducible refine Ext.drew ?_) | (with_reducible refine Ext.trans ?_ (by with_reducible assumption))))) (h2.ext (by repeat (first | exact Ext.refl _ | with_reducible assumption | (with_reducible refine Ext.alloc ?_ _) | (with_reducible refine Ext.drew ?_) | (with_reducible refine Ext.trans ?_ (by with_reducible assumption))))) a40 b40).mono ?_
      rintro e w4 ⟨gr, rfl, E4, hgr⟩
      go_wp2_with fail
      refine (same_n (hgv.ext (by repeat (first | exact Ext.refl _ | with_reducible assumption | (with_reducible refine Ext.alloc ?_ _) | (with_reducible refine Ext.drew ?_) | (with_reducible refine Ext.trans ?_ (by with_reducible assumption))))) hgr).mono ?_
      rintro e w5 ⟨_, rfl, E5, rfl⟩
      go_wp2_with fail
      refine (rroot_n (h1.ext (by repeat (first | exact Ext.refl _ | with_reducible assumption | (with_reducible refine Ext.alloc ?_ _) | (with_reducible refine Ext.drew ?_) | (with_reducible refine Ext.trans ?_ (by with_reducible assumption))))) a5).mono ?_
      rintro e w6 ⟨sr, rfl, E6, rt2, hrt2, hsr⟩
      obtain rfl : rt = rt2 := HRT.out.unique hrt2
      clear hrt2
      go_wp2_with fail
      refine (same_n (hs.ext (by repeat (first | exact Ext.refl _ | with_reducible assumption | (with_reducible refine Ext.alloc ?_ _) | (with_reducible refine Ext.drew ?_) | (with_reducible refine Ext.trans ?_ (by with_reducible assumption))))) hsr).mono ?_
      rintro e w7 ⟨_, rfl, E7, rfl⟩
      go_wp2_with fail
      refine (rBits_n (h2.ext (by repeat (first | exact Ext.refl _ | with_reducible assumption | (with_reducible refine Ext.alloc ?_ _) | (with_reducible refine Ext.drew ?_) | (with_reducible refine Ext.trans ?_ (by with_reducible assumption)))))).mono ?_
      rintro e w' ⟨rfl, rfl⟩
      rw [blen_zero]
      go_wp2_with fail
      refine (shl_arg n (h1.ext (by repeat (first | exact Ext.refl _ | with_reducible assumption | (with_reducible refine Ext.alloc ?_ _) | (with_reducible refine Ext.drew ?_) | (with_reducible refine Ext.trans ?_ (by with_reducible assumption))))) HNN.out ta).mono ?_
      rintro e w11 ⟨_, rfl, E11, rfl⟩
      go_wp2_with fail
      refine (shr_arg n (h1.ext (by repeat (first | exact Ext.refl _ | with_reducible assumption | (with_reducible refine Ext.alloc ?_ _) | (with_reducible refine Ext.drew ?_) | (with_reducible refine Ext.trans ?_ (by with_reducible assumption))))) HNN.out ta).mono ?_
      rintro e w12 ⟨_, rfl, E12, rfl⟩
      go_wp2_with fail
      refine (head_any _).mono ?_
      rintro e w13 ⟨_, rfl, E13, rfl⟩
      go_wp2
      go_ret
      exact Post.mk (by repeat (first | exact Ext.refl _ | with_reducible assumption | (with_reducible refine Ext.alloc ?_ _) | (with_reducible refine Ext.drew ?_) | (with_reducible refine Ext.trans ?_ (by with_reducible assumption)))) rfl
    · obtain ⟨k, rfl⟩ := Int.eq_ofNat_of_zero_le (show 0 ≤ n by omega)
      have hk5 : k ≤ 500 := by have := HN.out.2; omega
      have HKB := Lib.hid (show k ≤ 4611686018427387904 ∧ a * 2 ^ k < Top from ⟨by omega, (ha.mul (Sm.pow (k := 8) (by omega))).top (by omega)⟩)
      clear hd1 hd2 hn0
      go_enter Try.func3, Try.ntmps3
      go_wp2_with fail
      refine hg.mono ?_
      rintro e w' ⟨rfl, rfl⟩
      clear hg
      go_wp2_with fail
      refine (div_arg h1 h2 ta).mono ?_
      rintro e w1 ⟨_, rfl, E1, rfl⟩
      go_wp2_with fail
      refine (gcd_ok (h1.ext (by repeat (first | exact Ext.refl _ | with_reducible assumption | (with_reducible refine Ext.alloc ?_ _) | (with_reducible refine Ext.drew ?_) | (with_reducible refine Ext.trans ?_ (by with_reducible assumption))))) (h2.ext (by repeat (first | exact Ext.refl _ | with_reducible assumption | (with_reducible refine Ext.alloc ?_ _) | (with_reducible refine Ext.drew ?_) | (with_reducible refine Ext.trans ?_ (by with_reducible assumption))))) ta tb).mono ?_
      rintro e w2 ⟨_, rfl, E2, g, rfl, hgv⟩
      go_wp2_with fail
      refine (root_ok (h1.ext (by repeat (first | exact Ext.refl _ | with_reducible assumption | (with_reducible refine Ext.alloc ?_ _) | (with_reducible refine Ext.drew ?_) | (with_reducible refine Ext.trans ?_ (by with_reducible assumption))))) ta).mono ?_
      rintro e w3 ⟨_, rfl, E3, rt, hrt, s, rfl, hs⟩
      have HRT := Lib.hid hrt
      clear hrt
      go_wp2_with fail
      refine (rgcd_n (h1.ext (by repeat (first | exact Ext.refl _ | with_reducible assumption | (with_reducible refine Ext.alloc ?_ _) | (with_reducible refine Ext.drew ?_) | (with_reducible refine Ext.trans ?_ (by with_reducible assumption))))) (h2.ext (by repeat (first | exact Ext.refl _ | with_reducible assumption | (with_reducible refine Ext.alloc ?_ _) | (with_reducible refine Ext.drew ?_) | (with_reducible refine Ext.trans ?_ (by with_reducible assumption))))) a40 b40).mono ?_
      rintro e w4 ⟨gr, rfl, E4, hgr⟩
      go_wp2_with fail
      refine (same_n (hgv.ext (by repeat (first | exact Ext.refl _ | with_reducible assumption | (with_reducible refine Ext.alloc ?_ _) | (with_reducible refine Ext.drew ?_) | (with_reducible refine Ext.trans ?_ (by with_reducible assumption))))) hgr).mono ?_
      rintro e w5 ⟨_, rfl, E5, rfl⟩
      go_wp2_with fail
      refine (rroot_n (h1.ext (by repeat (first | exact Ext.refl _ | with_reducible assumption | (with_reducible refine Ext.alloc ?_ _) | (with_reducible refine Ext.drew ?_) | (with_reducible refine Ext.trans ?_ (by with_reducible assumption))))) a5).mono ?_
      rintro e w6 ⟨sr, rfl, E6, rt2, hrt2, hsr⟩
      obtain rfl : rt = rt2 := HRT.out.unique hrt2
      clear hrt2
      go_wp2_with fail
      refine (same_n (hs.ext (by repeat (first | exact Ext.refl _ | with_reducible assumption | (with_reducible refine Ext.alloc ?_ _) | (with_reducible refine Ext.drew ?_) | (with_reducible refine Ext.trans ?_ (by with_reducible assumption))))) hsr).mono ?_
      rintro e w7 ⟨_, rfl, E7, rfl⟩
      go_wp2_with fail
      refine (rBits_n (h2.ext (by repeat (first | exact Ext.refl _ | with_reducible assumption | (with_reducible refine Ext.alloc ?_ _) | (with_reducible refine Ext.drew ?_) | (with_reducible refine Ext.trans ?_ (by with_reducible assumption)))))).mono ?_
      rintro e w' ⟨rfl, rfl⟩
      rw [blen_zero]
      go_wp2_with fail
      refine (shl_ok k (h1.ext (by repeat (first | exact Ext.refl _ | with_reducible assumption | (with_reducible refine Ext.alloc ?_ _) | (with_reducible refine Ext.drew ?_) | (with_reducible refine Ext.trans ?_ (by with_reducible assumption))))) HKB.out.1 HKB.out.2).mono ?_
      rintro e w11 ⟨_, rfl, E11, u, rfl, hu⟩
      go_wp2_with fail
      refine (shr_ok k (h1.ext (by repeat (first | exact Ext.refl _ | with_reducible assumption | (with_reducible refine Ext.alloc ?_ _) | (with_reducible refine Ext.drew ?_) | (with_reducible refine Ext.trans ?_ (by with_reducible assumption))))) ta HKB.out.1).mono ?_
      rintro e w12 ⟨_, rfl, E12, vv, rfl, hv⟩
      go_wp2_with fail
      refine (rshl_n k (h1.ext (by repeat (first | exact Ext.refl _ | with_reducible assumption | (with_reducible refine Ext.alloc ?_ _) | (with_reducible refine Ext.drew ?_) | (with_reducible refine Ext.trans ?_ (by with_reducible assumption))))) (by omega) HKB.out.2).mono ?_
      rintro e w13 ⟨ur, rfl, E13, hur⟩
      go_wp2_with fail
      refine (same_n (hu.ext (by repeat (first | exact Ext.refl _ | with_reducible assumption | (with_reducible refine Ext.alloc ?_ _) | (with_reducible refine Ext.drew ?_) | (with_reducible refine Ext.trans ?_ (by with_reducible assumption))))) hur).mono ?_
      rintro e w14 ⟨_, rfl, E14, rfl⟩
      go_wp2_with fail
      refine (rshr_n k (h1.ext (by repeat (first | exact Ext.refl _ | with_reducible assumption | (with_reducible refine Ext.alloc ?_ _) | (with_reducible refine Ext.drew ?_) | (with_reducible refine Ext.trans ?_ (by with_reducible assumption))))) (by omega) ta).mono ?_
      rintro e w15 ⟨vr, rfl, E15, hvr⟩
      go_wp2_with fail
      refine (same_n (hv.ext (by repeat (first | exact Ext.refl _ | with_reducible assumption | (with_reducible refine Ext.alloc ?_ _) | (with_reducible refine Ext.drew ?_) | (with_reducible refine Ext.trans ?_ (by with_reducible assumption))))) hvr).mono ?_
      rintro e w16 ⟨_, rfl, E16, rfl⟩
      go_wp2_with fail
      refine (head_any _).mono ?_
      rintro e w17 ⟨_, rfl, E17, rfl⟩
      go_wp2
      go_ret
      exact Post.mk (by repeat (first | exact Ext.refl _ | with_reducible assumption | (with_reducible refine Ext.alloc ?_ _) | (with_reducible refine Ext.drew ?_) | (with_reducible refine Ext.trans ?_ (by with_reducible assumption)))) rfl
  · have HB0 := Lib.hid hb0
    clear hb0
    by_cases hn0 : n < 0
    · have hd3 : decide (n < 0) = true := decide_eq_true hn0
      have HNN := Lib.hid hn0
      clear hn0
      go_enter Try.func3, Try.ntmps3
      go_wp2_with fail
      refine hg.mono ?_
      rintro e w' ⟨rfl, rfl⟩
      clear hg
      go_wp2_with fail
      refine (div_ok h1 h2 ta tb HB0.out).mono ?_
      rintro e w1 ⟨_, rfl, E1, q, r, rfl, hq, hr⟩
      go_wp2_with fail
      refine (gcd_ok (h1.ext (by repeat (first | exact Ext.refl _ | with_reducible assumption | (with_reducible refine Ext.alloc ?_ _) | (with_reducible refine Ext.drew ?_) | (with_reducible refine Ext.trans ?_ (by with_reducible assumption))))) (h2.ext (by repeat (first | exact Ext.refl _ | with_reducible assumption | (with_reducible refine Ext.alloc ?_ _) | (with_reducible refine Ext.drew ?_) | (with_reducible refine Ext.trans ?_ (by with_reducible assumption))))) ta tb).mono ?_
      rintro e w2 ⟨_, rfl, E2, g, rfl, hgv⟩
      go_wp2_with fail
      refine (root_ok (h1.ext (by repeat (first | exact Ext.refl _ | with_reducible assumption | (with_reducible refine Ext.alloc ?_ _) | (with_reducible refine Ext.drew ?_) | (with_reducible refine Ext.trans ?_ (by with_reducible assumption))))) ta).mono ?_
      rintro e w3 ⟨_, rfl, E3, rt, hrt, s, rfl, hs⟩
      have HRT := Lib.hid hrt
      clear hrt
      go_wp2_with fail
      refine (rgcd_n (h1.ext (by repeat (first | exact Ext.refl _ | with_reducible assumption | (with_reducible refine Ext.alloc ?_ _) | (with_reducible refine Ext.drew ?_) | (with_reducible refine Ext.trans ?_ (by with_reducible assumption))))) (h2.ext (by repeat (first | exact Ext.refl _ | with_reducible assumption | (with_reducible refine Ext.alloc ?_ _) | (with_reducible refine Ext.drew ?_) | (with_reducible refine Ext.trans ?_ (by with_reducible assumption))))) a40 b40).mono ?_
      rintro e w4 ⟨gr, rfl, E4, hgr⟩
      go_wp2_with fail
      refine (same_n (hgv.ext (by repeat (first | exact Ext.refl _ | with_reducible assumption | (with_reducible refine Ext.alloc ?_ _) | (with_reducible refine Ext.drew ?_) | (with_reducible refine Ext.trans ?_ (by with_reducible assumption))))) hgr).mono ?_
      rintro e w5 ⟨_, rfl, E5, rfl⟩
      go_wp2_with fail
      refine (rroot_n (h1.ext (by repeat (first | exact Ext.refl _ | with_reducible assumption | (with_reducible refine Ext.alloc ?_ _) | (with_reducible refine Ext.drew ?_) | (with_reducible refine Ext.trans ?_ (by with_reducible assumption))))) a5).mono ?_
      rintro e w6 ⟨sr, rfl, E6, rt2, hrt2, hsr⟩
      obtain rfl : rt = rt2 := HRT.out.unique hrt2
      clear hrt2
      go_wp2_with fail
      refine (same_n (hs.ext (by repeat (first | exact Ext.refl _ | with_reducible assumption | (with_reducible refine Ext.alloc ?_ _) | (with_reducible refine Ext.drew ?_) | (with_reducible refine Ext.trans ?_ (by with_reducible assumption))))) hsr).mono ?_
      rintro e w7 ⟨_, rfl, E7, rfl⟩
      go_wp2_with fail
      refine (rBits_n (h2.ext (by repeat (first | exact Ext.refl _ | with_reducible assumption | (with_reducible refine Ext.alloc ?_ _) | (with_reducible refine Ext.drew ?_) | (with_reducible refine Ext.trans ?_ (by with_reducible assumption)))))).mono ?_
      rintro e w' ⟨rfl, rfl⟩
      obtain ⟨bl, hbl⟩ : ∃ bl, blen b = bl := ⟨_, rfl⟩
      have hblp : 0 < bl := by rw [← hbl]; exact blen_pos HB0.out
      have hblz : ((bl : Int) == 0) = false := by rw [beq_eq_false_iff_ne]; omega
      rw [hbl]
      clear hbl
      go_wp2_with fail
      refine (rdiv_n (h1.ext (by repeat (first | exact Ext.refl _ | with_reducible assumption | (with_reducible refine Ext.alloc ?_ _) | (with_reducible refine Ext.drew ?_) | (with_reducible refine Ext.trans ?_ (by with_reducible assumption))))) (h2.ext (by repeat (first | exact Ext.refl _ | with_reducible assumption | (with_reducible refine Ext.alloc ?_ _) | (with_reducible refine Ext.drew ?_) | (with_reducible refine Ext.trans ?_ (by with_reducible assumption))))) a40 b40 HB0.out).mono ?_
      rintro e w8 ⟨_, rfl, E8, xq, xr, rfl, hxq, hxr⟩
      go_wp2_with fail
      refine (same_n (hq.ext (by repeat (first | exact Ext.refl _ | with_reducible assumption | (with_reducible refine Ext.alloc ?_ _) | (with_reducible refine Ext.drew ?_) | (with_reducible refine Ext.trans ?_ (by with_reducible assumption))))) (hxq.ext (by repeat (first | exact Ext.refl _ | with_reducible assumption | (with_reducible refine Ext.alloc ?_ _) | (with_reducible refine Ext.drew ?_) | (with_reducible refine Ext.trans ?_ (by with_reducible assumption)))))).mono ?_
      rintro e w9 ⟨_, rfl, E9, rfl⟩
      go_wp2_with fail
      refine (same_n (hr.ext (by repeat (first | exact Ext.refl _ | with_reducible assumption | (with_reducible refine Ext.alloc ?_ _) | (with_reducible refine Ext.drew ?_) | (with_reducible refine Ext.trans ?_ (by with_reducible assumption))))) (hxr.ext (by repeat (first | exact Ext.refl _ | with_reducible assumption | (with_reducible refine Ext.alloc ?_ _) | (with_reducible refine Ext.drew ?_) | (with_reducible refine Ext.trans ?_ (by with_reducible assumption)))))).mono ?_
      rintro e w10 ⟨_, rfl, E10, rfl⟩
      go_wp2_with fail
      refine (shl_arg n (h1.ext (by repeat (first | exact Ext.refl _ | with_reducible assumption | (with_reducible refine Ext.alloc ?_ _) | (with_reducible refine Ext.drew ?_) | (with_reducible refine Ext.trans ?_ (by with_reducible assumption))))) HNN.out ta).mono ?_
      rintro e w11 ⟨_, rfl, E11, rfl⟩
      go_wp2_with fail
      refine (shr_arg n (h1.ext (by repeat (first | exact Ext.refl _ | with_reducible assumption | (with_reducible refine Ext.alloc ?_ _) | (with_reducible refine Ext.drew ?_) | (with_reducible refine Ext.trans ?_ (by with_reducible assumption))))) HNN.out ta).mono ?_
      rintro e w12 ⟨_, rfl, E12, rfl⟩
      go_wp2_with fail
      refine (head_any _).mono ?_
      rintro e w13 ⟨_, rfl, E13, rfl⟩
      go_wp2
      go_ret
      exact Post.mk (by repeat (first | exact Ext.refl _ | with_reducible assumption | (with_reducible refine Ext.alloc ?_ _) | (with_reducible refine Ext.drew ?_) | (with_reducible refine Ext.trans ?_ (by with_reducible assumption)))) rfl
    · obtain ⟨k, rfl⟩ := Int.eq_ofNat_of_zero_le (show 0 ≤ n by omega)
      have hk5 : k ≤ 500 := by have := HN.out.2; omega
      have HKB := Lib.hid (show k ≤ 4611686018427387904 ∧ a * 2 ^ k < Top from ⟨by omega, (ha.mul (Sm.pow (k := 8) (by omega))).top (by omega)⟩)
      clear hd1 hd2 hn0
      go_enter Try.func3, Try.ntmps3
      go_wp2_with fail
      refine hg.mono ?_
      rintro e w' ⟨rfl, rfl⟩
      clear hg
      go_wp2_with fail
      refine (div_ok h1 h2 ta tb HB0.out).mono ?_
      rintro e w1 ⟨_, rfl, E1, q, r, rfl, hq, hr⟩
      go_wp2_with fail
      refine (gcd_ok (h1.ext (by repeat (first | exact Ext.refl _ | with_reducible assumption | (with_reducible refine Ext.alloc ?_ _) | (with_reducible refine Ext.drew ?_) | (with_reducible refine Ext.trans ?_ (by with_reducible assumption))))) (h2.ext (by repeat (first | exact Ext.refl _ | with_reducible assumption | (with_reducible refine Ext.alloc ?_ _) | (with_reducible refine Ext.drew ?_) | (with_reducible refine Ext.trans ?_ (by with_reducible assumption))))) ta tb).mono ?_
      rintro e w2 ⟨_, rfl, E2, g, rfl, hgv⟩
      go_wp2_with fail
      refine (root_ok (h1.ext (by repeat (first | exact Ext.refl _ | with_reducible assumption | (with_reducible refine Ext.alloc ?_ _) | (with_reducible refine Ext.drew ?_) | (with_reducible refine Ext.trans ?_ (by with_reducible assumption))))) ta).mono ?_
      rintro e w3 ⟨_, rfl, E3, rt, hrt, s, rfl, hs⟩
      have HRT := Lib.hid hrt
      clear hrt
      go_wp2_with fail
      refine (rgcd_n (h1.ext (by repeat (first | exact Ext.refl _ | with_reducible assumption | (with_reducible refine Ext.alloc ?_ _) | (with_reducible refine Ext.drew ?_) | (with_reducible refine Ext.trans ?_ (by with_reducible assumption))))) (h2.ext (by repeat (first | exact Ext.refl _ | with_reducible assumption | (with_reducible refine Ext.alloc ?_ _) | (with_reducible refine Ext.drew ?_) | (with_reducible refine Ext.trans ?_ (by with_reducible assumption))))) a40 b40).mono ?_
      rintro e w4 ⟨gr, rfl, E4, hgr⟩
      go_wp2_with fail
      refine (same_n (hgv.ext (by repeat (first | exact Ext.refl _ | with_reducible assumption | (with_reducible refine Ext.alloc ?_ _) | (with_reducible refine Ext.drew ?_) | (with_reducible refine Ext.trans ?_ (by with_reducible assumption))))) hgr).mono ?_
      rintro e w5 ⟨_, rfl, E5, rfl⟩
      go_wp2_with fail
      refine (rroot_n (h1.ext (by repeat (first | exact Ext.refl _ | with_reducible assumption | (with_reducible refine Ext.alloc ?_ _) | (with_reducible refine Ext.drew ?_) | (with_reducible refine Ext.trans ?_ (by with_reducible assumption))))) a5).mono ?_
      rintro e w6 ⟨sr, rfl, E6, rt2, hrt2, hsr⟩
      obtain rfl : rt = rt2 := HRT.out.unique hrt2
      clear hrt2
      go_wp2_with fail
      refine (same_n (hs.ext (by repeat (first | exact Ext.refl _ | with_reducible assumption | (with_reducible refine Ext.alloc ?_ _) | (with_reducible refine Ext.drew ?_) | (with_reducible refine Ext.trans ?_ (by with_reducible assumption))))) hsr).mono ?_
      rintro e w7 ⟨_, rfl, E7, rfl⟩
      go_wp2_with fail
      refine (rBits_n (h2.ext (by repeat (first | exact Ext.refl _ | with_reducible assumption | (with_reducible refine Ext.alloc ?_ _) | (with_reducible refine Ext.drew ?_) | (with_reducible refine Ext.trans ?_ (by with_reducible assumption)))))).mono ?_
      rintro e w' ⟨rfl, rfl⟩
      obtain ⟨bl, hbl⟩ : ∃ bl, blen b = bl := ⟨_, rfl⟩
      have hblp : 0 < bl := by rw [← hbl]; exact blen_pos HB0.out
      have hblz : ((bl : Int) == 0) = false := by rw [beq_eq_false_iff_ne]; omega
      rw [hbl]
      clear hbl
      go_wp2_with fail
      refine (rdiv_n (h1.ext (by repeat (first | exact Ext.refl _ | with_reducible assumption | (with_reducible refine Ext.alloc ?_ _) | (with_reducible refine Ext.drew ?_) | (with_reducible refine Ext.trans ?_ (by with_reducible assumption))))) (h2.ext (by repeat (first | exact Ext.refl _ | with_reducible assumption | (with_reducible refine Ext.alloc ?_ _) | (with_reducible refine Ext.drew ?_) | (with_reducible refine Ext.trans ?_ (by with_reducible assumption))))) a40 b40 HB0.out).mono ?_
      rintro e w8 ⟨_, rfl, E8, xq, xr, rfl, hxq, hxr⟩
      go_wp2_with fail
      refine (same_n (hq.ext (by repeat (first | exact Ext.refl _ | with_reducible assumption | (with_reducible refine Ext.alloc ?_ _) | (with_reducible refine Ext.drew ?_) | (with_reducible refine Ext.trans ?_ (by with_reducible assumption))))) (hxq.ext (by repeat (first | exact Ext.refl _ | with_reducible assumption | (with_reducible refine Ext.alloc ?_ _) | (with_reducible refine Ext.drew ?_) | (with_reducible refine Ext.trans ?_ (by with_reducible assumption)))))).mono ?_
      rintro e w9 ⟨_, rfl, E9, rfl⟩
      go_wp2_with fail
      refine (same_n (hr.ext (by repeat (first | exact Ext.refl _ | with_reducible assumption | (with_reducible refine Ext.alloc ?_ _) | (with_reducible refine Ext.drew ?_) | (with_reducible refine Ext.trans ?_ (by with_reducible assumption))))) (hxr.ext (by repeat (first | exact Ext.refl _ | with_reducible assumption | (with_reducible refine Ext.alloc ?_ _) | (with_reducible refine Ext.drew ?_) | (with_reducible refine Ext.trans ?_ (by with_reducible assumption)))))).mono ?_
      rintro e w10 ⟨_, rfl, E10, rfl⟩
      go_wp2_with fail
      refine (shl_ok k (h1.ext (by repeat (first | exact Ext.refl _ | with_reducible assumption | (with_reducible refine Ext.alloc ?_ _) | (with_reducible refine Ext.drew ?_) | (with_reducible refine Ext.trans ?_ (by with_reducible assumption))))) HKB.out.1 HKB.out.2).mono ?_
      rintro e w11 ⟨_, rfl, E11, u, rfl, hu⟩
      go_wp2_with fail
      refine (shr_ok k (h1.ext (by repeat (first | exact Ext.refl _ | with_reducible assumption | (with_reducible refine Ext.alloc ?_ _) | (with_reducible refine Ext.drew ?_) | (with_reducible refine Ext.trans ?_ (by with_reducible assumption))))) ta HKB.out.1).mono ?_
      rintro e w12 ⟨_, rfl, E12, vv, rfl, hv⟩
      go_wp2_with fail
      refine (rshl_n k (h1.ext (by repeat (first | exact Ext.refl _ | with_reducible assumption | (with_reducible refine Ext.alloc ?_ _) | (with_reducible refine Ext.drew ?_) | (with_reducible refine Ext.trans ?_ (by with_reducible assumption))))) (by omega) HKB.out.2).mono ?_
      rintro e w13 ⟨ur, rfl, E13, hur⟩
      go_wp2_with fail
      refine (same_n (hu.ext (by repeat (first | exact Ext.refl _ | with_reducible assumption | (with_reducible refine Ext.alloc ?_ _) | (with_reducible refine Ext.drew ?_) | (with_reducible refine Ext.trans ?_ (by with_reducible assumption))))) hur).mono ?_
      rintro e w14 ⟨_, rfl, E14, rfl⟩
      go_wp2_with fail
      refine (rshr_n k (h1.ext (by repeat (first | exact Ext.refl _ | with_reducible assumption | (with_reducible refine Ext.alloc ?_ _) | (with_reducible refine Ext.drew ?_) | (with_reducible refine Ext.trans ?_ (by with_reducible assumption))))) (by omega) ta).mono ?_
      rintro e w15 ⟨vr, rfl, E15, hvr⟩
      go_wp2_with fail
      refine (same_n (hv.ext (by repeat (first | exact Ext.refl _ | with_reducible assumption | (with_reducible refine Ext.alloc ?_ _) | (with_reducible refine Ext.drew ?_) | (with_reducible refine Ext.trans ?_ (by with_reducible assumption))))) hvr).mono ?_
      rintro e w16 ⟨_, rfl, E16, rfl⟩
      go_wp2_with fail
      refine (head_any _).mono ?_
      rintro e w17 ⟨_, rfl, E17, rfl⟩
      go_wp2
      go_ret
      exact Post.mk (by repeat (first | exact Ext.refl _ | with_reducible assumption | (with_reducible refine Ext.alloc ?_ _) | (with_reducible refine Ext.drew ?_) | (with_reducible refine Ext.trans ?_ (by with_reducible assumption)))) rfl

set_option maxRecDepth 100000 in
theorem divides_law (a1 : Option Addr) (n1 c1 : Nat) (z1 : List Int) (a2 : Option Addr) (n2 c2 : Nat) (z2 : List Int) (n : Int) (w : World) (h1 : Raw w a1 n1 c1 z1) (h2 : Raw w a2 n2 c2 z2) (_hn : (Lit.int .i64 n).wf = true) :
    Calls Try.prog 3 #[.slice a1 n1 c1, .slice a2 n2 c2, .int .i64 n] w fun e w' => e = .returned (.bool true) ∧ Below w.heap.size w w' := by
  have b1 := h1.len
  have b2 := h2.len
  by_cases hs : n1 ≤ 6 ∧ n2 ≤ 6 ∧ 0 ≤ 6
  · obtain ⟨s1, s2, s3⟩ := hs
    have hg := great_no a1 a2 none n1 n2 0 c1 c2 0 w s1 s2 s3
    by_cases hin : -500 ≤ n ∧ n ≤ 500
    · obtain ⟨a, ha, k1⟩ := h1.is s1
      obtain ⟨b, hb, k2⟩ := h2.is s2
      refine (divides_main _ _ a b n w k1 k2 ha hb hin.1 hin.2 hg).mono ?_
      rintro e w' ⟨_, rfl, hext, rfl⟩
      exact ⟨rfl, hext⟩
    · by_cases hd : 500 < n
      · have hd1 : decide (500 < n) = true := decide_eq_true hd
        clear hin hd _hn
        go_enter Try.func3, Try.ntmps3
        go_wp2_with fail
        refine hg.mono ?_
        rintro e w' ⟨rfl, rfl⟩
        clear hg
        go_wp2_with fail
        refine (head_any _).mono ?_
        rintro e w1 ⟨_, rfl, hext, rfl⟩
        go_wp2
        go_ret
        exact ⟨rfl, hext⟩
      · have hd1 : decide (500 < n) = false := decide_eq_false hd
        have hd2 : decide (n < -500) = true := decide_eq_true (by omega)
        clear hin hd _hn
        go_enter Try.func3, Try.ntmps3
        go_wp2_with fail
        refine hg.mono ?_
        rintro e w' ⟨rfl, rfl⟩
        clear hg
        go_wp2_with fail
        refine (head_any _).mono ?_
        rintro e w1 ⟨_, rfl, hext, rfl⟩
        go_wp2
        go_ret
        exact ⟨rfl, hext⟩
  · have hg := great_yes a1 a2 none n1 n2 0 c1 c2 0 w (by omega) (by omega) (by omega) hs
    clear hs _hn
    go_enter Try.func3, Try.ntmps3
    go_wp2_with fail
    refine hg.mono ?_
    rintro e w' ⟨rfl, rfl⟩
    clear hg
    go_wp2_with fail
    refine (head_any _).mono ?_
    rintro e w1 ⟨_, rfl, hext, rfl⟩
    go_wp2
    go_ret
    exact ⟨rfl, hext⟩
end Go.Proofs.Ytnecpkoibknacaa

namespace Go.Proofs.Ytnecpkoibknacaa.natDivides
open Go.ChangeShapes Go.WideShapes Go.ChangeAt Go.RowKit
open Go.ChangeMaps (open_string shut_string)
set_option linter.unusedVariables false

theorem own : ownKnob Try.prog.godebug = none := by kernel_rfl
theorem laidOut : laidOutB Try.prog = true := by kernel_rfl

/-- WHAT THE WALK IS TOLD OF A SLICE OF INTEGERS THAT CAME IN: it is nil; or it leads to a row of 'cap' cells, the numbers 'zs' (the first 'len' are its elements, the rest its spare room), each fitting its kind. -/
def IsRow (k : IntKind) (w : World) (a : Option Addr) (len cap : Nat) (zs : List Int) : Prop :=
  (a = none ∧ len = 0 ∧ cap = 0 ∧ zs = []) ∨
  ∃ x, a = some x ∧ len ≤ cap ∧ cap ≤ maxLen ∧ zs.length = cap ∧ (∀ i, i < zs.length → w.cell? (x.add i) = some (.int k (zs.getD i 0))) ∧ ∀ n ∈ zs, (Lit.int k n).wf = true

theorem walk (a0 : Option Addr) (len0 cap0 : Nat) (z0 : List Int) (a1 : Option Addr) (len1 cap1 : Nat) (z1 : List Int) (a2 : Int) (w : World) (w0 : IsRow .u64 w a0 len0 cap0 z0) (w1 : IsRow .u64 w a1 len1 cap1 z1) (w2 : (Lit.int .i64 a2).wf = true) :
    Calls Try.prog 3 #[.slice a0 len0 cap0, .slice a1 len1 cap1, .int .i64 a2] w fun e w' => e = .returned (.bool true) ∧ Below w.heap.size w w' := by
  exact Go.Proofs.Ytnecpkoibknacaa.divides_law a0 len0 cap0 z0 a1 len1 cap1 z1 a2 w w0 w1 w2

set_option maxRecDepth 100000 in
theorem lifted (os : Os) (started : os.Started) (H : Type) (enc : TypeId × Value → H) :
    ReturnsInHanded {} Try.checked os 3 .any (Rows.natDividesSpec.pre6 enc Try.prog Try.f3 Rows.natDividesRow.domain false) (Rows.natDividesSpec.post enc Try.prog Try.f3 false true false false) := by
  refine returnsInHanded_of_change (C := Try.checked) own started (by kernel_rfl) Try.func3
    (ChangeSpec.witness6 (enc := enc) (C := Try.checked) false ⟨#[], #[.slice none 0 0, .slice none 0 0, .int .i64 0], []⟩ 8 (by kernel_rfl) (by kernel_rfl) (by kernel_rfl) (by kernel_rfl)) ?_
  intro W base args ds gs before hval0 hW hcnd _
  have hval : ∀ (j : Nat) t v, Try.f3.params[j]? = some t → args[j]? = some v → Value.okWide Try.prog W .any base t v := hval0
  have hW' := hW
  obtain ⟨p, q, hA0, hV, rfl, hfz, hnd⟩ := hW
  have hA : DataW.TrodAll enc Try.prog W 0 (fun _ => true) true Try.f3.params.toList args.toList ds p := hA0
  rw [Try.params3] at hA hval
  obtain ⟨v0, vs0, d0, ds0, p0, q0, hargs, rfl, rfl, h0, r0⟩ := trodAll_cons hA
  obtain ⟨v1, vs1, d1, ds1, p1, q1, rfl, rfl, rfl, h1, r1⟩ := trodAll_cons r0
  obtain ⟨v2, vs2, d2, ds2, p2, q2, rfl, rfl, rfl, h2, r2⟩ := trodAll_cons r1
  obtain ⟨rfl, rfl, rfl⟩ := trodAll_nil r2
  obtain rfl : args = #[v0, v1, v2] := by cases args; simp_all
  obtain ⟨rfl, rfl⟩ := trodVars_none hV
  obtain ⟨a0, len0, cap0, rfl⟩ := okWide_slice Try.underlying23 (hval 0 23 v0 rfl rfl)
  have k0 := h0
  have lt0 : ∀ x ∈ p0, x.block < W.heap.size := by obtain ⟨m, hm⟩ := k0; exact DataW.trod_lt m _ _ _ hm
  obtain ⟨z0, w0⟩ : ∃ zs, IsRow .u64 W a0 len0 cap0 zs := by
    obtain ⟨fuel, hf⟩ := h0
    rcases open_ints Try.underlying23 Try.underlying48 (by kernel_rfl) hf with ⟨hcs, _⟩ | ⟨x, l, c, zs, hcs, _, hl, hm, hz, _, hcell, hwz⟩
    · simp [Value.cells] at hcs
      obtain ⟨rfl, rfl, rfl⟩ := hcs
      exact ⟨[], .inl ⟨rfl, rfl, rfl, rfl⟩⟩
    · simp [Value.cells] at hcs
      obtain ⟨rfl, rfl, rfl⟩ := hcs
      exact ⟨zs, .inr ⟨_, rfl, hl, hm, by simpa using hz, hcell, hwz⟩⟩
  obtain ⟨a1, len1, cap1, rfl⟩ := okWide_slice Try.underlying23 (hval 1 23 v1 rfl rfl)
  have k1 := h1
  have lt1 : ∀ x ∈ p1, x.block < W.heap.size := by obtain ⟨m, hm⟩ := k1; exact DataW.trod_lt m _ _ _ hm
  obtain ⟨z1, w1⟩ : ∃ zs, IsRow .u64 W a1 len1 cap1 zs := by
    obtain ⟨fuel, hf⟩ := h1
    rcases open_ints Try.underlying23 Try.underlying48 (by kernel_rfl) hf with ⟨hcs, _⟩ | ⟨x, l, c, zs, hcs, _, hl, hm, hz, _, hcell, hwz⟩
    · simp [Value.cells] at hcs
      obtain ⟨rfl, rfl, rfl⟩ := hcs
      exact ⟨[], .inl ⟨rfl, rfl, rfl, rfl⟩⟩
    · simp [Value.cells] at hcs
      obtain ⟨rfl, rfl, rfl⟩ := hcs
      exact ⟨zs, .inr ⟨_, rfl, hl, hm, by simpa using hz, hcell, hwz⟩⟩
  obtain ⟨a2, rfl, rfl, rfl, w2⟩ := open_int Try.underlying3 (hval 2 3 v2 rfl rfl) h2
  clear hA0 hval0
  refine (walk a0 len0 cap0 z0 a1 len1 cap1 z1 a2 W w0 w1 w2).mono fun e W' ⟨he, bel⟩ => ?_
  subst he
  exact ⟨_, rfl, _, _, _, [], _, [], hW', trodAll_mk1 (shut_bool Try.underlying4 _), (trodAll_cons_mk (Below.trod laidOut (by kernel_rfl) (of_decide_eq_true (by kernel_rfl)) k0 bel lt0) (trodAll_cons_mk (Below.trod laidOut (by kernel_rfl) (of_decide_eq_true (by kernel_rfl)) k1 bel lt1) (trodAll_cons_mk (shut_int Try.underlying3 w2) trodAll_mk0))), rfl, bel.frame _, fun h => by cases h⟩

theorem over : Rows.natDividesRow.holds Try.pinned (OpenSpec.ofChange Rows.natDividesSpec) :=
  OpenClaim.holds_of_wide 3 Try.f3 rfl rfl rfl rfl rfl rfl rfl ⟨rfl, rfl, rfl, rfl, rfl⟩ rfl rfl rfl rfl rfl (by kernel_rfl) Try.func3 (by kernel_rfl)
    (of_decide_eq_true (by kernel_rfl)) (by unfold Func.isWrapper; first | (rw [if_pos (by decide +kernel)]; kernel_rfl) | (rw [if_neg (by decide +kernel)]; exact ⟨rfl, rfl⟩))
    (fun os started H enc _ => lifted os started H enc)

theorem proved : Rows.NatDividesSaid := over
#print axioms proved
end Go.Proofs.Ytnecpkoibknacaa.natDivides
