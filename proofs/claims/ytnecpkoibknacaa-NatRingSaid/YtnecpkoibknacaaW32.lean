/- NatRing. -/
import Derived.Test.YtnecpkoibknacaaW31
namespace Go.Proofs.Ytnecpkoibknacaa
open Go.RowKit

set_option maxRecDepth 100000 in
set_option maxHeartbeats 2000000 in
theorem ring_main (v1 v2 v3 : Value) (a b c : Nat) (w : World) (h1 : IsN w v1 a) (h2 : IsN w v2 b) (h3 : IsN w v3 c) (ha : Sm 6 a) (hb : Sm 6 b) (hc : Sm 6 c)
    (hg : Calls Try.prog 9 #[v1, v2, v3] w fun e w' => e = .returned (.bool false) ∧ w = w') :
    Calls Try.prog 5 #[v1, v2, v3] w (Post w fun v _ => v = .bool true) := by
  go_enter Try.func5, Try.ntmps5
  go_wp2_with fail
  refine hg.mono ?_
  rintro e w' ⟨rfl, rfl⟩
  clear hg
  go_wp2_with fail
  refine (add_ok h1 h2 ((ha.add hb).top (by omega))).mono ?_
  rintro e w1 ⟨_, rfl, E1, x, rfl, hx⟩
  go_wp2_with fail
  refine (add_ok (h2.ext (by repeat (first | exact Ext.refl _ | with_reducible assumption | (with_reducible refine Ext.alloc ?_ _) | (with_reducible refine Ext.drew ?_) | (with_reducible refine Ext.trans ?_ (by with_reducible assumption))))) (h1.ext (by repeat (first | exact Ext.refl _ | with_reducible assumption | (with_reducible refine Ext.alloc ?_ _) | (with_reducible refine Ext.drew ?_) | (with_reducible refine Ext.trans ?_ (by with_reducible assumption))))) ((hb.add ha).top (by omega))).mono ?_
  rintro e w2 ⟨_, rfl, E2, y, rfl, hy⟩
  go_wp2_with fail
  refine (mul_ok (h1.ext (by repeat (first | exact Ext.refl _ | with_reducible assumption | (with_reducible refine Ext.alloc ?_ _) | (with_reducible refine Ext.drew ?_) | (with_reducible refine Ext.trans ?_ (by with_reducible assumption))))) (h2.ext (by repeat (first | exact Ext.refl _ | with_reducible assumption | (with_reducible refine Ext.alloc ?_ _) | (with_reducible refine Ext.drew ?_) | (with_reducible refine Ext.trans ?_ (by with_reducible assumption))))) (ha.top (by omega)) (hb.top (by omega)) ((ha.mul hb).top (by omega))).mono ?_
  rintro e w3 ⟨_, rfl, E3, p, rfl, hp⟩
  go_wp2_with fail
  refine (mul_ok (h2.ext (by repeat (first | exact Ext.refl _ | with_reducible assumption | (with_reducible refine Ext.alloc ?_ _) | (with_reducible refine Ext.drew ?_) | (with_reducible refine Ext.trans ?_ (by with_reducible assumption))))) (h1.ext (by repeat (first | exact Ext.refl _ | with_reducible assumption | (with_reducible refine Ext.alloc ?_ _) | (with_reducible refine Ext.drew ?_) | (with_reducible refine Ext.trans ?_ (by with_reducible assumption))))) (hb.top (by omega)) (ha.top (by omega)) ((hb.mul ha).top (by omega))).mono ?_
  rintro e w4 ⟨_, rfl, E4, q, rfl, hq⟩
  go_wp2_with fail
  refine (cmp_eq (hx.is.ext (by repeat (first | exact Ext.refl _ | with_reducible assumption | (with_reducible refine Ext.alloc ?_ _) | (with_reducible refine Ext.drew ?_) | (with_reducible refine Ext.trans ?_ (by with_reducible assumption))))) (hy.is.ext (by repeat (first | exact Ext.refl _ | with_reducible assumption | (with_reducible refine Ext.alloc ?_ _) | (with_reducible refine Ext.drew ?_) | (with_reducible refine Ext.trans ?_ (by with_reducible assumption))))) (Nat.add_comm _ _)).mono ?_
  rintro e w5 ⟨_, rfl, E5, rfl⟩
  go_wp2_with fail
  refine (cmp_eq (hp.is.ext (by repeat (first | exact Ext.refl _ | with_reducible assumption | (with_reducible refine Ext.alloc ?_ _) | (with_reducible refine Ext.drew ?_) | (with_reducible refine Ext.trans ?_ (by with_reducible assumption))))) (hq.is.ext (by repeat (first | exact Ext.refl _ | with_reducible assumption | (with_reducible refine Ext.alloc ?_ _) | (with_reducible refine Ext.drew ?_) | (with_reducible refine Ext.trans ?_ (by with_reducible assumption))))) (Nat.mul_comm _ _)).mono ?_
  rintro e w6 ⟨_, rfl, E6, rfl⟩
  go_wp2_with fail
  refine (mul_ok (hx.is.ext (by repeat (first | exact Ext.refl _ | with_reducible assumption | (with_reducible refine Ext.alloc ?_ _) | (with_reducible refine Ext.drew ?_) | (with_reducible refine Ext.trans ?_ (by with_reducible assumption))))) (h3.ext (by repeat (first | exact Ext.refl _ | with_reducible assumption | (with_reducible refine Ext.alloc ?_ _) | (with_reducible refine Ext.drew ?_) | (with_reducible refine Ext.trans ?_ (by with_reducible assumption))))) ((ha.add hb).top (by omega)) (hc.top (by omega)) (((ha.add hb).mul hc).top (by omega))).mono ?_
  rintro e w7 ⟨_, rfl, E7, l, rfl, hl⟩
  go_wp2_with fail
  refine (mul_ok (h1.ext (by repeat (first | exact Ext.refl _ | with_reducible assumption | (with_reducible refine Ext.alloc ?_ _) | (with_reducible refine Ext.drew ?_) | (with_reducible refine Ext.trans ?_ (by with_reducible assumption))))) (h3.ext (by repeat (first | exact Ext.refl _ | with_reducible assumption | (with_reducible refine Ext.alloc ?_ _) | (with_reducible refine Ext.drew ?_) | (with_reducible refine Ext.trans ?_ (by with_reducible assumption))))) (ha.top (by omega)) (hc.top (by omega)) ((ha.mul hc).top (by omega))).mono ?_
  rintro e w8 ⟨_, rfl, E8, m, rfl, hm⟩
  go_wp2_with fail
  refine (mul_ok (h2.ext (by repeat (first | exact Ext.refl _ | with_reducible assumption | (with_reducible refine Ext.alloc ?_ _) | (with_reducible refine Ext.drew ?_) | (with_reducible refine Ext.trans ?_ (by with_reducible assumption))))) (h3.ext (by repeat (first | exact Ext.refl _ | with_reducible assumption | (with_reducible refine Ext.alloc ?_ _) | (with_reducible refine Ext.drew ?_) | (with_reducible refine Ext.trans ?_ (by with_reducible assumption))))) (hb.top (by omega)) (hc.top (by omega)) ((hb.mul hc).top (by omega))).mono ?_
  rintro e w9 ⟨_, rfl, E9, n, rfl, hn⟩
  go_wp2_with fail
  refine (add_ok (hm.is.ext (by repeat (first | exact Ext.refl _ | with_reducible assumption | (with_reducible refine Ext.alloc ?_ _) | (with_reducible refine Ext.drew ?_) | (with_reducible refine Ext.trans ?_ (by with_reducible assumption))))) (hn.is.ext (by repeat (first | exact Ext.refl _ | with_reducible assumption | (with_reducible refine Ext.alloc ?_ _) | (with_reducible refine Ext.drew ?_) | (with_reducible refine Ext.trans ?_ (by with_reducible assumption))))) (((ha.mul hc).add (hb.mul hc)).top (by omega))).mono ?_
  rintro e w10 ⟨_, rfl, E10, o, rfl, ho⟩
  go_wp2_with fail
  refine (mul_ok (hp.is.ext (by repeat (first | exact Ext.refl _ | with_reducible assumption | (with_reducible refine Ext.alloc ?_ _) | (with_reducible refine Ext.drew ?_) | (with_reducible refine Ext.trans ?_ (by with_reducible assumption))))) (h3.ext (by repeat (first | exact Ext.refl _ | with_reducible assumption | (with_reducible refine Ext.alloc ?_ _) | (with_reducible refine Ext.drew ?_) | (with_reducible refine Ext.trans ?_ (by with_reducible assumption))))) ((ha.mul hb).top (by omega)) (hc.top (by omega)) (((ha.mul hb).mul hc).top (by omega))).mono ?_
  rintro e w11 ⟨_, rfl, E11, u, rfl, hu⟩
  go_wp2_with fail
  refine (mul_ok (h1.ext (by repeat (first | exact Ext.refl _ | with_reducible assumption | (with_reducible refine Ext.alloc ?_ _) | (with_reducible refine Ext.drew ?_) | (with_reducible refine Ext.trans ?_ (by with_reducible assumption))))) (hn.is.ext (by repeat (first | exact Ext.refl _ | with_reducible assumption | (with_reducible refine Ext.alloc ?_ _) | (with_reducible refine Ext.drew ?_) | (with_reducible refine Ext.trans ?_ (by with_reducible assumption))))) (ha.top (by omega)) ((hb.mul hc).top (by omega)) ((ha.mul (hb.mul hc)).top (by omega))).mono ?_
  rintro e w12 ⟨_, rfl, E12, v, rfl, hv⟩
  go_wp2_with fail
  refine (sub_ok (hx.is.ext (by repeat (first | exact Ext.refl _ | with_reducible assumption | (with_reducible refine Ext.alloc ?_ _) | (with_reducible refine Ext.drew ?_) | (with_reducible refine Ext.trans ?_ (by with_reducible assumption))))) (h2.ext (by repeat (first | exact Ext.refl _ | with_reducible assumption | (with_reducible refine Ext.alloc ?_ _) | (with_reducible refine Ext.drew ?_) | (with_reducible refine Ext.trans ?_ (by with_reducible assumption))))) ((ha.add hb).top (by omega)) (by omega)).mono ?_
  rintro e w13 ⟨_, rfl, E13, d, rfl, hd⟩
  go_wp2_with fail
  refine (cmp_eq (hl.is.ext (by repeat (first | exact Ext.refl _ | with_reducible assumption | (with_reducible refine Ext.alloc ?_ _) | (with_reducible refine Ext.drew ?_) | (with_reducible refine Ext.trans ?_ (by with_reducible assumption))))) (ho.is.ext (by repeat (first | exact Ext.refl _ | with_reducible assumption | (with_reducible refine Ext.alloc ?_ _) | (with_reducible refine Ext.drew ?_) | (with_reducible refine Ext.trans ?_ (by with_reducible assumption))))) (Nat.add_mul _ _ _)).mono ?_
  rintro e w14 ⟨_, rfl, E14, rfl⟩
  go_wp2_with fail
  refine (cmp_eq (hu.is.ext (by repeat (first | exact Ext.refl _ | with_reducible assumption | (with_reducible refine Ext.alloc ?_ _) | (with_reducible refine Ext.drew ?_) | (with_reducible refine Ext.trans ?_ (by with_reducible assumption))))) (hv.is.ext (by repeat (first | exact Ext.refl _ | with_reducible assumption | (with_reducible refine Ext.alloc ?_ _) | (with_reducible refine Ext.drew ?_) | (with_reducible refine Ext.trans ?_ (by with_reducible assumption))))) (Nat.mul_assoc _ _ _)).mono ?_
  rintro e w15 ⟨_, rfl, E15, rfl⟩
  go_wp2_with fail
  refine (cmp_eq (hd.is.ext (by repeat (first | exact Ext.refl _ | with_reducible assumption | (with_reducible refine Ext.alloc ?_ _) | (with_reducible refine Ext.drew ?_) | (with_reducible refine Ext.trans ?_ (by with_reducible assumption))))) (h1.ext (by repeat (first | exact Ext.refl _ | with_reducible assumption | (with_reducible refine Ext.alloc ?_ _) | (with_reducible refine Ext.drew ?_) | (with_reducible refine Ext.trans ?_ (by with_reducible assumption))))) (by omega)).mono ?_
  rintro e w16 ⟨_, rfl, E16, rfl⟩
  go_wp2_with fail
  refine (head_any _).mono ?_
  rintro e w17 ⟨_, rfl, E17, rfl⟩
  go_wp2
  go_ret
  exact Post.mk (by repeat (first | exact Ext.refl _ | with_reducible assumption | (with_reducible refine Ext.alloc ?_ _) | (with_reducible refine Ext.drew ?_) | (with_reducible refine Ext.trans ?_ (by with_reducible assumption)))) rfl

set_option maxRecDepth 100000 in
theorem ring_law (a1 : Option Addr) (n1 c1 : Nat) (z1 : List Int) (a2 : Option Addr) (n2 c2 : Nat) (z2 : List Int) (a3 : Option Addr) (n3 c3 : Nat) (z3 : List Int) (w : World) (h1 : Raw w a1 n1 c1 z1) (h2 : Raw w a2 n2 c2 z2) (h3 : Raw w a3 n3 c3 z3) :
    Calls Try.prog 5 #[.slice a1 n1 c1, .slice a2 n2 c2, .slice a3 n3 c3] w fun e w' => e = .returned (.bool true) ∧ Below w.heap.size w w' := by
  have b1 := h1.len
  have b2 := h2.len
  have b3 := h3.len
  by_cases hs : n1 ≤ 6 ∧ n2 ≤ 6 ∧ n3 ≤ 6
  · obtain ⟨s1, s2, s3⟩ := hs
    obtain ⟨a, ha, k1⟩ := h1.is s1
    obtain ⟨b, hb, k2⟩ := h2.is s2
    obtain ⟨c, hc, k3⟩ := h3.is s3
    refine (ring_main _ _ _ a b c w k1 k2 k3 ha hb hc (great_no _ _ _ _ _ _ _ _ _ w s1 s2 s3)).mono ?_
    rintro e w' ⟨_, rfl, hext, rfl⟩
    exact ⟨rfl, hext⟩
  · have hg := great_yes a1 a2 a3 n1 n2 n3 c1 c2 c3 w (by omega) (by omega) (by omega) hs
    clear hs
    go_enter Try.func5, Try.ntmps5
    go_wp2_with fail
    refine hg.mono ?_
    rintro e w' ⟨rfl, rfl⟩
    go_wp2_with fail
    refine (head_any _).mono ?_
    rintro e w1 ⟨_, rfl, hext, rfl⟩
    go_wp2
    go_ret
    exact ⟨rfl, hext⟩
end Go.Proofs.Ytnecpkoibknacaa
