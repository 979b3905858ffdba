/- Div, whatever the numbers; Gcd. -/
import Derived.Deep.LoopGhost
import Derived.Test.YtnecpkoibknacaaW20
namespace Go.Proofs.Ytnecpkoibknacaa
open Go.RowKit

theorem div_any (a1 a2 : Option Addr) (n1 c1 n2 c2 : Nat) (xs ys : List Nat) (w : World) (h1 : Nums w a1 n1 c1 xs) (h2 : Nums w a2 n2 c2 ys) (hf1 : val xs < Top) (hf2 : val ys < Top) (hy : val ys ≠ 0) :
    Calls Try.prog 11 #[.slice a1 n1 c1, .slice a2 n2 c2] w (Post w fun v w' => DRes w' v (val xs / val ys) (val xs % val ys)) := by
  by_cases hlt : val xs < val ys
  · exact div_less a1 a2 n1 c1 n2 c2 xs ys w h1 h2 hf1 hf2 hy hlt
  · have hlen := length_limbs_pos hy
    by_cases h1l : (limbs (val ys)).length = 1
    · obtain ⟨d, hd⟩ := List.length_eq_one_iff.1 h1l
      exact div_one a1 a2 n1 c1 n2 c2 xs ys w h1 h2 hf1 hf2 (by omega) d hd
    · exact div_main a1 a2 n1 c1 n2 c2 xs ys w h1 h2 hf1 hf2 hy (by omega) (by omega)

set_option maxRecDepth 100000 in
set_option maxHeartbeats 1000000 in
theorem gcd_any (a1 a2 : Option Addr) (n1 c1 n2 c2 : Nat) (xs ys : List Nat) (w : World) (h1 : Nums w a1 n1 c1 xs) (h2 : Nums w a2 n2 c2 ys) (hf1 : val xs < Top) (hf2 : val ys < Top) :
    Calls Try.prog 12 #[.slice a1 n1 c1, .slice a2 n2 c2] w (Post w fun v w' => NRes w' v (some (Nat.gcd (val xs) (val ys)))) := by
  have hno : [xs, ys].any isLong = false := by rw [any_two, isLong_false hf1, isLong_false hf2]; rfl
  have HNO := Lib.hid hno
  clear hno
  go_enter Try.func12, Try.ntmps12
  go_wp2_with (first
    | (go_at_call 42; refine (long_any _ _ _ [xs, ys] _ (NumsL.two (by simp) (by simp) (h1.ext (Ext.of_alloc _ _)) (h2.ext (Ext.of_alloc _ _)))).mono ?_; rintro e w2 ⟨v, rfl, hextL, rfl⟩; rw [HNO.out]; have k1 := h1.ext ((Ext.of_alloc _ _).trans hextL); have k2 := h2.ext ((Ext.of_alloc _ _).trans hextL))
    | (go_at_call 41; refine (normal_any _ _ _ _ _ k1).mono ?_; rintro e w3 ⟨v, rfl, hext3, a1', n1', c1', rfl, hn1⟩; clear k1)
    | (go_at_call 41; refine (normal_any _ _ _ _ _ (k2.ext hext3)).mono ?_; rintro e w4 ⟨v, rfl, hext4, a2', n2', c2', rfl, hn2⟩))
  have hE : Ext w w4 := (((Ext.of_alloc _ _).trans hextL).trans hext3).trans hext4
  have hn1' := hn1.ext hext4
  clear h1 h2 hn1 k2 hext3 hextL hext4
  go_loopg [0, 1] (val ys) (fun g av bv wr => ∃ (X : Nat) (a1 : Option Addr) (n1 c1 : Nat) (a2 : Option Addr) (n2 c2 : Nat), av = .slice a1 n1 c1 ∧ bv = .slice a2 n2 c2 ∧ Nums wr a1 n1 c1 (limbs X) ∧ Nums wr a2 n2 c2 (limbs g) ∧ X < Top ∧ g < Top ∧ Hid (Nat.gcd X g = Nat.gcd (val xs) (val ys)) ∧ Ext w wr)
  case atStart => exact ⟨val xs, _, _, _, _, _, _, rfl, rfl, hn1', hn2, hf1, hf2, Lib.hid rfl, hE⟩
  case round =>
    clear hn1' hn2 hE
    obtain ⟨X, b1, m1, d1, b2, m2, d2, rfl, rfl, k1, k2, hX, hG, HG, hE⟩ := hrel
    by_cases h0 : gk = 0
    · subst h0
      have hm : m2 = 0 := by rw [← k2.len, limbs_zero]; rfl
      subst hm
      have hfit : fit (val (limbs X)) = some X := by rw [val_limbs]; unfold fit; exact if_pos hX
      have HF := Lib.hid hfit
      clear hfit
      go_wp2_with (go_at_call 43; refine (told_any _ _ _ _ _ k1).mono ?_; rintro e w5 ⟨v, rfl, hext5, hres⟩; rw [HF.out] at hres; obtain ⟨ar, nr, cr, kr, rfl, hout⟩ := hres.out)
      go_ret2
      refine Post.mk (hE.trans hext5) ?_
      have := HG.out
      rw [Nat.gcd_zero_right] at this
      rw [← this]
      exact hout.res
    · have hm : 0 < m2 := by rw [← k2.len]; exact length_limbs_pos h0
      have hdv := div_any b1 b2 m1 d1 m2 d2 _ _ wr k1 k2 (by rw [val_limbs]; exact hX) (by rw [val_limbs]; exact hG) (by rw [val_limbs]; exact h0)
      rw [val_limbs, val_limbs] at hdv
      have H0 := Lib.hid h0
      clear h0
      go_wp2_with (go_at_call 11; refine hdv.mono ?_; rintro e w5 ⟨v, rfl, hext5, aq, nq, cq, ar, nr, cr, rfl, hq, hr⟩)
      go_roundg (X % gk)
      case rel => exact ⟨gk, _, _, _, _, _, _, rfl, rfl, k2.ext hext5, hr, hG, Nat.lt_of_le_of_lt (Nat.mod_le _ _) hX, Lib.hid (by rw [← HG.out, Nat.gcd_comm X gk, Nat.gcd_rec gk X, Nat.gcd_comm]), hE.trans hext5⟩
      case measure => exact Nat.mod_lt _ (Nat.pos_of_ne_zero H0.out)
end Go.Proofs.Ytnecpkoibknacaa
