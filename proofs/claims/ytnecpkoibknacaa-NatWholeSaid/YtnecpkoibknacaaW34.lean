/- NatWhole. -/
import Derived.Test.YtnecpkoibknacaaW33
namespace Go.Proofs.Ytnecpkoibknacaa
open Go.RowKit

set_option maxRecDepth 100000 in
set_option maxHeartbeats 2000000 in
theorem whole_main (v1 v2 : Value) (a b : Nat) (w : World) (h1 : IsN w v1 a) (h2 : IsN w v2 b) (ha : Sm 6 a) (hb : Sm 6 b)
    (hg : Calls Try.prog 9 #[v1, v2, .slice none 0 0] w fun e w' => e = .returned (.bool false) ∧ w = w') :
    Calls Try.prog 6 #[v1, v2] w (Post w fun v _ => v = .bool true) := by
  have ta := ha.top (by omega)
  have tb := hb.top (by omega)
  go_enter Try.func6, Try.ntmps6
  go_wp2_with fail
  refine hg.mono ?_
  rintro e w' ⟨rfl, rfl⟩
  clear hg
  go_wp2_with fail
  refine (root_ok h1 ta).mono ?_
  rintro e w1 ⟨_, rfl, E1, r, hr, s, rfl, hs⟩
  have hr1 := hr.1
  have hr2 := hr.2
  have sr : Sm 6 r := ha.le hr.le
  have s1 : Sm 1 1 := by unfold Sm; rw [Nat.pow_one]; unfold B64; omega
  have HR := Lib.hid (And.intro hr1 hr2)
  clear hr hr1 hr2
  go_wp2_with fail
  refine (mul_ok hs.is hs.is (sr.top (by omega)) (sr.top (by omega)) ((sr.mul sr).top (by omega))).mono ?_
  rintro e w2 ⟨_, rfl, E2, sq, rfl, hsq⟩
  go_wp2_with fail
  refine (of_n (x := 1) (by unfold B64; omega) _).mono ?_
  rintro e w3 ⟨o, rfl, E3, ho⟩
  go_wp2_with fail
  refine (add_ok (hs.is.ext (by repeat (first | exact Ext.refl _ | with_reducible assumption | (with_reducible refine Ext.alloc ?_ _) | (with_reducible refine Ext.drew ?_) | (with_reducible refine Ext.trans ?_ (by with_reducible assumption))))) ho.is ((sr.add s1).top (by omega))).mono ?_
  rintro e w4 ⟨_, rfl, E4, t, rfl, ht⟩
  go_wp2_with fail
  refine (mul_ok ht.is ht.is ((sr.add s1).top (by omega)) ((sr.add s1).top (by omega)) (((sr.add s1).mul (sr.add s1)).top (by omega))).mono ?_
  rintro e w5 ⟨_, rfl, E5, tq, rfl, htq⟩
  go_wp2_with fail
  refine (cmp_le_n (hsq.is.ext (by repeat (first | exact Ext.refl _ | with_reducible assumption | (with_reducible refine Ext.alloc ?_ _) | (with_reducible refine Ext.drew ?_) | (with_reducible refine Ext.trans ?_ (by with_reducible assumption))))) (h1.ext (by repeat (first | exact Ext.refl _ | with_reducible assumption | (with_reducible refine Ext.alloc ?_ _) | (with_reducible refine Ext.drew ?_) | (with_reducible refine Ext.trans ?_ (by with_reducible assumption))))) HR.out.1).mono ?_
  rintro e w6 ⟨_, rfl, E6, c, hc, rfl⟩
  go_wp2_with fail
  refine (cmp_above (htq.is.ext (by repeat (first | exact Ext.refl _ | with_reducible assumption | (with_reducible refine Ext.alloc ?_ _) | (with_reducible refine Ext.drew ?_) | (with_reducible refine Ext.trans ?_ (by with_reducible assumption))))) (h1.ext (by repeat (first | exact Ext.refl _ | with_reducible assumption | (with_reducible refine Ext.alloc ?_ _) | (with_reducible refine Ext.drew ?_) | (with_reducible refine Ext.trans ?_ (by with_reducible assumption))))) HR.out.2).mono ?_
  rintro e w7 ⟨_, rfl, E7, rfl⟩
  by_cases hb0 : b = 0
  · subst hb0
    go_wp2_with fail
    refine (div_arg (h1.ext (by repeat (first | exact Ext.refl _ | with_reducible assumption | (with_reducible refine Ext.alloc ?_ _) | (with_reducible refine Ext.drew ?_) | (with_reducible refine Ext.trans ?_ (by with_reducible assumption))))) (h2.ext (by repeat (first | exact Ext.refl _ | with_reducible assumption | (with_reducible refine Ext.alloc ?_ _) | (with_reducible refine Ext.drew ?_) | (with_reducible refine Ext.trans ?_ (by with_reducible assumption))))) ta).mono ?_
    rintro e w8 ⟨_, rfl, E8, rfl⟩
    go_wp2_with fail
    refine (bits_n (h2.ext (by repeat (first | exact Ext.refl _ | with_reducible assumption | (with_reducible refine Ext.alloc ?_ _) | (with_reducible refine Ext.drew ?_) | (with_reducible refine Ext.trans ?_ (by with_reducible assumption)))))).mono ?_
    rintro e w9 ⟨_, rfl, E9, rfl⟩
    rw [blen_zero]
    go_wp2_with fail
    refine (head_any _).mono ?_
    rintro e w10 ⟨_, rfl, E10, rfl⟩
    go_wp2
    go_ret
    exact Post.mk (by repeat (first | exact Ext.refl _ | with_reducible assumption | (with_reducible refine Ext.alloc ?_ _) | (with_reducible refine Ext.drew ?_) | (with_reducible refine Ext.trans ?_ (by with_reducible assumption)))) rfl
  · have hqb : a / b * b ≤ a := Nat.div_mul_le_self a b
    have hqr : a / b * b + a % b = a := Nat.div_add_mod' a b
    have hrb : a % b < b := Nat.mod_lt _ (Nat.pos_of_ne_zero hb0)
    have hg0 : Nat.gcd a b ≠ 0 := fun h => hb0 (Nat.eq_zero_of_gcd_eq_zero_right h)
    have hga : a % Nat.gcd a b = 0 := Nat.mod_eq_zero_of_dvd (Nat.gcd_dvd_left a b)
    have hgb : b % Nat.gcd a b = 0 := Nat.mod_eq_zero_of_dvd (Nat.gcd_dvd_right a b)
    have tq1 : a / b < Top := Nat.lt_of_le_of_lt (Nat.div_le_self _ _) ta
    have tg := gcd_lt ta tb
    generalize hge : Nat.gcd a b = g at *
    have HE := Lib.hid hge
    clear hge
    have HQ := Lib.hid (And.intro hqb (And.intro hqr hrb))
    have HG := Lib.hid (And.intro hg0 (And.intro hga hgb))
    have HB := Lib.hid hb0
    clear hqb hqr hrb hg0 hga hgb hb0
    go_wp2_with fail
    refine (div_ok (h1.ext (by repeat (first | exact Ext.refl _ | with_reducible assumption | (with_reducible refine Ext.alloc ?_ _) | (with_reducible refine Ext.drew ?_) | (with_reducible refine Ext.trans ?_ (by with_reducible assumption))))) (h2.ext (by repeat (first | exact Ext.refl _ | with_reducible assumption | (with_reducible refine Ext.alloc ?_ _) | (with_reducible refine Ext.drew ?_) | (with_reducible refine Ext.trans ?_ (by with_reducible assumption))))) ta tb HB.out).mono ?_
    rintro e w8 ⟨_, rfl, E8, q, rr, rfl, hq, hrr⟩
    go_wp2_with fail
    refine (mul_ok hq.is (h2.ext (by repeat (first | exact Ext.refl _ | with_reducible assumption | (with_reducible refine Ext.alloc ?_ _) | (with_reducible refine Ext.drew ?_) | (with_reducible refine Ext.trans ?_ (by with_reducible assumption))))) tq1 tb (Nat.lt_of_le_of_lt HQ.out.1 ta)).mono ?_
    rintro e w9 ⟨_, rfl, E9, m, rfl, hm⟩
    go_wp2_with fail
    refine (add_ok hm.is (hrr.is.ext (by repeat (first | exact Ext.refl _ | with_reducible assumption | (with_reducible refine Ext.alloc ?_ _) | (with_reducible refine Ext.drew ?_) | (with_reducible refine Ext.trans ?_ (by with_reducible assumption))))) (by rw [HQ.out.2.1]; exact ta)).mono ?_
    rintro e w10 ⟨_, rfl, E10, n, rfl, hn⟩
    go_wp2_with fail
    refine (gcd_ok (h1.ext (by repeat (first | exact Ext.refl _ | with_reducible assumption | (with_reducible refine Ext.alloc ?_ _) | (with_reducible refine Ext.drew ?_) | (with_reducible refine Ext.trans ?_ (by with_reducible assumption))))) (h2.ext (by repeat (first | exact Ext.refl _ | with_reducible assumption | (with_reducible refine Ext.alloc ?_ _) | (with_reducible refine Ext.drew ?_) | (with_reducible refine Ext.trans ?_ (by with_reducible assumption))))) ta tb).mono ?_
    rintro e w11 ⟨_, rfl, E11, gv, rfl, hgv⟩
    rw [HE.out] at hgv
    go_wp2_with fail
    refine (div_ok (h1.ext (by repeat (first | exact Ext.refl _ | with_reducible assumption | (with_reducible refine Ext.alloc ?_ _) | (with_reducible refine Ext.drew ?_) | (with_reducible refine Ext.trans ?_ (by with_reducible assumption))))) hgv.is ta tg HG.out.1).mono ?_
    rintro e w12 ⟨_, rfl, E12, _, x, rfl, _, hx⟩
    obtain ⟨ax, cx, rfl⟩ := hx.zero HG.out.2.1
    go_wp2_with fail
    refine (div_ok (h2.ext (by repeat (first | exact Ext.refl _ | with_reducible assumption | (with_reducible refine Ext.alloc ?_ _) | (with_reducible refine Ext.drew ?_) | (with_reducible refine Ext.trans ?_ (by with_reducible assumption))))) (hgv.is.ext (by repeat (first | exact Ext.refl _ | with_reducible assumption | (with_reducible refine Ext.alloc ?_ _) | (with_reducible refine Ext.drew ?_) | (with_reducible refine Ext.trans ?_ (by with_reducible assumption))))) tb tg HG.out.1).mono ?_
    rintro e w13 ⟨_, rfl, E13, _, y, rfl, _, hy⟩
    obtain ⟨ay, cy, rfl⟩ := hy.zero HG.out.2.2
    go_wp2_with fail
    refine (cmp_eq (hn.is.ext (by repeat (first | exact Ext.refl _ | with_reducible assumption | (with_reducible refine Ext.alloc ?_ _) | (with_reducible refine Ext.drew ?_) | (with_reducible refine Ext.trans ?_ (by with_reducible assumption))))) (h1.ext (by repeat (first | exact Ext.refl _ | with_reducible assumption | (with_reducible refine Ext.alloc ?_ _) | (with_reducible refine Ext.drew ?_) | (with_reducible refine Ext.trans ?_ (by with_reducible assumption))))) HQ.out.2.1).mono ?_
    rintro e w14 ⟨_, rfl, E14, rfl⟩
    go_wp2_with fail
    refine (cmp_below (hrr.is.ext (by repeat (first | exact Ext.refl _ | with_reducible assumption | (with_reducible refine Ext.alloc ?_ _) | (with_reducible refine Ext.drew ?_) | (with_reducible refine Ext.trans ?_ (by with_reducible assumption))))) (h2.ext (by repeat (first | exact Ext.refl _ | with_reducible assumption | (with_reducible refine Ext.alloc ?_ _) | (with_reducible refine Ext.drew ?_) | (with_reducible refine Ext.trans ?_ (by with_reducible assumption))))) HQ.out.2.2).mono ?_
    rintro e w15 ⟨_, rfl, E15, rfl⟩
    go_wp2_with fail
    refine (head_any _).mono ?_
    rintro e w16 ⟨_, rfl, E16, rfl⟩
    go_wp2
    go_ret
    exact Post.mk (by repeat (first | exact Ext.refl _ | with_reducible assumption | (with_reducible refine Ext.alloc ?_ _) | (with_reducible refine Ext.drew ?_) | (with_reducible refine Ext.trans ?_ (by with_reducible assumption)))) rfl

set_option maxRecDepth 100000 in
theorem whole_law (a1 : Option Addr) (n1 c1 : Nat) (z1 : List Int) (a2 : Option Addr) (n2 c2 : Nat) (z2 : List Int) (w : World) (h1 : Raw w a1 n1 c1 z1) (h2 : Raw w a2 n2 c2 z2) :
    Calls Try.prog 6 #[.slice a1 n1 c1, .slice a2 n2 c2] w fun e w' => e = .returned (.bool true) ∧ Below w.heap.size w w' := by
  have b1 := h1.len
  have b2 := h2.len
  by_cases hs : n1 ≤ 6 ∧ n2 ≤ 6 ∧ 0 ≤ 6
  · obtain ⟨s1, s2, s3⟩ := hs
    obtain ⟨a, ha, k1⟩ := h1.is s1
    obtain ⟨b, hb, k2⟩ := h2.is s2
    refine (whole_main _ _ a b w k1 k2 ha hb (great_no _ _ _ _ _ _ _ _ _ w s1 s2 s3)).mono ?_
    rintro e w' ⟨_, rfl, hext, rfl⟩
    exact ⟨rfl, hext⟩
  · have hg := great_yes a1 a2 none n1 n2 0 c1 c2 0 w (by omega) (by omega) (by omega) hs
    clear hs
    go_enter Try.func6, Try.ntmps6
    go_wp2_with fail
    refine hg.mono ?_
    rintro e w' ⟨rfl, rfl⟩
    go_wp2_with fail
    refine (head_any _).mono ?_
    rintro e w1 ⟨_, rfl, hext, rfl⟩
    go_wp2
    go_ret
    exact ⟨rfl, hext⟩
end Go.Proofs.Ytnecpkoibknacaa
