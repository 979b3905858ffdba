/- Div, but for the long way. -/
import Derived.WalkMore
import Derived.OwnWalk
import Derived.Test.YtnecpkoibknacaaW18
namespace Go.Proofs.Ytnecpkoibknacaa
set_option linter.unusedVariables false
open Go.RowKit

/-- What Div hands back: a quotient, a rest, no error. -/
def DRes (w : World) (v : Value) (Q R : Nat) : Prop := ∃ aq nq cq ar nr cr, v = .tuple #[.slice aq nq cq, .slice ar nr cr, .int .i64 0] ∧ Nums w aq nq cq (limbs Q) ∧ Nums w ar nr cr (limbs R)
theorem Top_pos : 0 < Top := (fits_iff 0).1 (by rw [limbs_zero]; exact Nat.zero_le _)
theorem isLong_nil : isLong [] = false := isLong_false Top_pos

set_option maxRecDepth 100000 in
set_option maxHeartbeats 1000000 in
theorem div_long (a1 a2 : Option Addr) (n1 c1 n2 c2 : Nat) (xs ys : List Nat) (w : World) (h1 : Nums w a1 n1 c1 xs) (h2 : Nums w a2 n2 c2 ys) (hf : ¬ (val xs < Top ∧ val ys < Top)) :
    Calls Try.prog 11 #[.slice a1 n1 c1, .slice a2 n2 c2] w (Post w fun v w' => v = .tuple #[.slice none 0 0, .slice none 0 0, .int .i64 3]) := by
  have hno : [limbs (val xs), limbs (val ys)].any isLong = true := by
    rw [any_two, Bool.or_eq_true]
    by_cases h : val xs < Top
    · exact .inr (isLong_true (by rw [val_limbs]; exact fun h' => hf ⟨h, h'⟩))
    · exact .inl (isLong_true (by rw [val_limbs]; exact h))
  generalize hA : limbs (val xs) = A at *
  generalize hB : limbs (val ys) = B at *
  have HA := Lib.hid hA
  have HB := Lib.hid hB
  have HNO := Lib.hid hno
  clear hno hA hB hf
  go_enter Try.func11, Try.ntmps11
  go_wp2
  go_step3
  go_wp2_with (first
    | (go_at_call 41; refine (normal_any _ _ _ _ _ h1).mono ?_; rintro e w1 ⟨v, rfl, hext1, a1', n1', c1', rfl, hn1⟩; rw [HA.out] at hn1; clear h1; have h2' := h2.ext hext1)
    | (go_at_call 41; refine (normal_any _ _ _ _ _ h2').mono ?_; rintro e w1' ⟨v, rfl, hext2, a2', n2', c2', rfl, hn2⟩; rw [HB.out] at hn2; have hn1' := hn1.ext hext2; obtain rfl := hn1'.len; obtain rfl := hn2.len)
    | (go_at_call 42; refine (long_any _ _ _ [A, B] _ (NumsL.two (by simp) (by simp) (hn1'.ext (Ext.of_alloc _ _)) (hn2.ext (Ext.of_alloc _ _)))).mono ?_; rintro e w2 ⟨v, rfl, hextL, rfl⟩; rw [HNO.out]))
  rw [Exit.noGoto_ret]
  go_ret3
  exact Post.mk ((hext1.trans hext2).trans ((Ext.of_alloc _ _).trans hextL)) rfl

set_option maxRecDepth 100000 in
set_option maxHeartbeats 1000000 in
theorem div_zero (a1 a2 : Option Addr) (n1 c1 n2 c2 : Nat) (xs ys : List Nat) (w : World) (h1 : Nums w a1 n1 c1 xs) (h2 : Nums w a2 n2 c2 ys) (hf1 : val xs < Top) (hy : val ys = 0) :
    Calls Try.prog 11 #[.slice a1 n1 c1, .slice a2 n2 c2] w (Post w fun v w' => v = .tuple #[.slice none 0 0, .slice none 0 0, .int .i64 2]) := by
  have hno : [limbs (val xs), []].any isLong = false := by
    rw [any_two, isLong_false (by rw [val_limbs]; exact hf1), isLong_nil]; rfl
  have hB : limbs (val ys) = [] := by rw [hy]; exact limbs_zero
  generalize hA : limbs (val xs) = A at *
  have HA := Lib.hid hA
  have HB := Lib.hid hB
  have HNO := Lib.hid hno
  clear hno hA hB hy
  go_enter Try.func11, Try.ntmps11
  go_wp2
  go_step3
  go_wp2_with (first
    | (go_at_call 41; refine (normal_any _ _ _ _ _ h1).mono ?_; rintro e w1 ⟨v, rfl, hext1, a1', n1', c1', rfl, hn1⟩; rw [HA.out] at hn1; clear h1; have h2' := h2.ext hext1)
    | (go_at_call 41; refine (normal_any _ _ _ _ _ h2').mono ?_; rintro e w1' ⟨v, rfl, hext2, a2', n2', c2', rfl, hn2⟩; rw [HB.out] at hn2; have hn1' := hn1.ext hext2; obtain rfl := hn1'.len; obtain rfl := hn2.len)
    | (go_at_call 42; refine (long_any _ _ _ [A, []] _ (NumsL.two (by simp) (by simp) (hn1'.ext (Ext.of_alloc _ _)) (hn2.ext (Ext.of_alloc _ _)))).mono ?_; rintro e w2 ⟨v, rfl, hextL, rfl⟩; rw [HNO.out]))
  rw [Exit.noGoto_ret]
  go_ret3
  exact Post.mk ((hext1.trans hext2).trans ((Ext.of_alloc _ _).trans hextL)) rfl

set_option maxRecDepth 100000 in
set_option maxHeartbeats 1000000 in
theorem div_less (a1 a2 : Option Addr) (n1 c1 n2 c2 : Nat) (xs ys : List Nat) (w : World) (h1 : Nums w a1 n1 c1 xs) (h2 : Nums w a2 n2 c2 ys) (hf1 : val xs < Top) (hf2 : val ys < Top) (hy : val ys ≠ 0) (hlt : val xs < val ys) :
    Calls Try.prog 11 #[.slice a1 n1 c1, .slice a2 n2 c2] w (Post w fun v w' => DRes w' v (val xs / val ys) (val xs % val ys)) := by
  have hno : [limbs (val xs), limbs (val ys)].any isLong = false := by
    rw [any_two, isLong_false (by rw [val_limbs]; exact hf1), isLong_false (by rw [val_limbs]; exact hf2)]; rfl
  have hl1 := (fits_iff _).2 hf1
  have hl2 := (fits_iff _).2 hf2
  have hv1 := val_limbs (val xs)
  have hv2 := val_limbs (val ys)
  have hlen := length_limbs_pos hy
  rw [Nat.div_eq_of_lt hlt, Nat.mod_eq_of_lt hlt]
  have hc : cmpN (val (limbs (val xs))) (val (limbs (val ys))) = -1 := by rw [hv1, hv2]; unfold cmpN; rw [if_pos hlt]
  have hfit : fit (val (limbs (val xs))) = some (val xs) := by rw [hv1]; unfold fit; rw [if_pos hf1]
  generalize hA : limbs (val xs) = A at *
  generalize hB : limbs (val ys) = B at *
  have HA := Lib.hid hA
  have HB := Lib.hid hB
  have HNO := Lib.hid hno
  have HC := Lib.hid hc
  have HF := Lib.hid hfit
  clear hno hA hB hy hc hfit hv1 hv2 hf1 hf2 hlt
  go_enter Try.func11, Try.ntmps11
  go_wp2
  go_step3
  go_wp2_with (first
    | (go_at_call 41; refine (normal_any _ _ _ _ _ h1).mono ?_; rintro e w1 ⟨v, rfl, hext1, a1', n1', c1', rfl, hn1⟩; rw [HA.out] at hn1; clear h1; have h2' := h2.ext hext1)
    | (go_at_call 41; refine (normal_any _ _ _ _ _ h2').mono ?_; rintro e w1' ⟨v, rfl, hext2, a2', n2', c2', rfl, hn2⟩; rw [HB.out] at hn2; have hn1' := hn1.ext hext2; obtain rfl := hn1'.len; obtain rfl := hn2.len)
    | (go_at_call 42; refine (long_any _ _ _ [A, B] _ (NumsL.two (by simp) (by simp) (hn1'.ext (Ext.of_alloc _ _)) (hn2.ext (Ext.of_alloc _ _)))).mono ?_; rintro e w2 ⟨v, rfl, hextL, rfl⟩; rw [HNO.out])
    | (go_at_call 30; refine (cmp_any _ _ _ _ _ _ _ _ _ (hn1'.ext ((Ext.of_alloc _ _).trans hextL)) (hn2.ext ((Ext.of_alloc _ _).trans hextL))).mono ?_; rintro e w3 ⟨v, rfl, hext3, rfl⟩; rw [HC.out])
    | (go_at_call 43; refine (told_any _ _ _ _ _ (hn1'.ext (((Ext.of_alloc _ _).trans hextL).trans hext3))).mono ?_; rintro e w4 ⟨v, rfl, hext4, hres⟩; rw [HF.out] at hres; obtain ⟨ar, nr, cr, rfl, hr⟩ := hres))
  rw [Exit.noGoto_ret]
  go_ret3
  refine Post.mk (((hext1.trans hext2).trans (((Ext.of_alloc _ _).trans hextL).trans hext3)).trans hext4) ⟨none, 0, 0, ar, nr, cr, rfl, ?_, hr⟩
  rw [limbs_zero]; exact Nums.nil _ _ _

set_option maxRecDepth 100000 in
set_option maxHeartbeats 1000000 in
theorem div_one (a1 a2 : Option Addr) (n1 c1 n2 c2 : Nat) (xs ys : List Nat) (w : World) (h1 : Nums w a1 n1 c1 xs) (h2 : Nums w a2 n2 c2 ys) (hf1 : val xs < Top) (hf2 : val ys < Top) (hge : val ys ≤ val xs) (d : Nat) (hd : limbs (val ys) = [d]) :
    Calls Try.prog 11 #[.slice a1 n1 c1, .slice a2 n2 c2] w (Post w fun v w' => DRes w' v (val xs / val ys) (val xs % val ys)) := by
  have hno : [limbs (val xs), limbs (val ys)].any isLong = false := by
    rw [any_two, isLong_false (by rw [val_limbs]; exact hf1), isLong_false (by rw [val_limbs]; exact hf2)]; rfl
  have hl1 := (fits_iff _).2 hf1
  have hl2 := (fits_iff _).2 hf2
  have hv1 := val_limbs (val xs)
  have hv2 := val_limbs (val ys)
  have hc : ¬ cmpN (val (limbs (val xs))) (val (limbs (val ys))) < 0 := by rw [hv1, hv2]; unfold cmpN; rw [if_neg (by omega)]; split <;> omega
  have hdb : d < B64 := lt_limbs (val ys) d (by rw [hd]; simp)
  have hd0 : 0 < d := by
    obtain ⟨xs', t, e, h0, _⟩ := limbs_last (n := val ys) (fun e => by rw [e, limbs_zero] at hd; cases hd)
    rw [hd] at e
    cases xs' with
    | nil => cases e; omega
    | cons _ _ => simp at e
  have hvd : val ys = d := by rw [← hv2, hd]; simp [val]
  have hq : val xs / d < Top := Nat.lt_of_le_of_lt (Nat.div_le_self _ _) hf1
  have hfit : fit (val (limbs (val xs / d))) = some (val xs / d) := by rw [val_limbs]; unfold fit; rw [if_pos hq]
  rw [hvd]
  rw [hd] at hc hno
  generalize hA : limbs (val xs) = A at *
  rw [← hv1] at hfit ⊢
  have HA := Lib.hid hA
  have HB := Lib.hid hd
  have HNO := Lib.hid hno
  have HF := Lib.hid hfit
  generalize hcc : cmpN (val A) (val [d]) = cc at *
  have HC := Lib.hid hcc
  have hm : val A % d < B64 := Nat.lt_trans (Nat.mod_lt _ hd0) hdb
  clear hno hA hd hfit hv1 hv2 hf1 hf2 hvd hge hq hcc
  go_enter Try.func11, Try.ntmps11
  go_wp2
  go_step3
  go_wp2_with (first
    | (go_at_call 41; refine (normal_any _ _ _ _ _ h1).mono ?_; rintro e w1 ⟨v, rfl, hext1, a1', n1', c1', rfl, hn1⟩; rw [HA.out] at hn1; clear h1; have h2' := h2.ext hext1)
    | (go_at_call 41; refine (normal_any _ _ _ _ _ h2').mono ?_; rintro e w1' ⟨v, rfl, hext2, a2', n2', c2', rfl, hn2⟩; rw [HB.out] at hn2; have hn1' := hn1.ext hext2; obtain rfl := hn1'.len; obtain rfl := hn2.len)
    | (go_at_call 42; refine (long_any _ _ _ [A, [d]] _ (NumsL.two (by simp) (by simp) (hn1'.ext (Ext.of_alloc _ _)) (hn2.ext (Ext.of_alloc _ _)))).mono ?_; rintro e w2 ⟨v, rfl, hextL, rfl⟩; rw [HNO.out])
    | (go_at_call 30; refine (cmp_any _ _ _ _ _ _ _ _ _ (hn1'.ext ((Ext.of_alloc _ _).trans hextL)) (hn2.ext ((Ext.of_alloc _ _).trans hextL))).mono ?_; rintro e w3 ⟨v, rfl, hext3, rfl⟩; rw [HC.out]; obtain ⟨b2, off2, rfl, hcell⟩ := (hn2.ext (((Ext.of_alloc _ _).trans hextL).trans hext3)).at (i := 0) (by simp); have hcell2 : w3.cell? ⟨b2, off2, none⟩ = some (Value.int .u64 (d : Int)) := hcell; clear hcell)
    | (go_at_call 44; refine (small_any _ _ _ _ d hd0 hdb _ (hn1'.ext (((Ext.of_alloc _ _).trans hextL).trans hext3))).mono ?_; rintro e w4 ⟨v, rfl, hext4, aq, nq, cq, rfl, hq⟩)
    | (go_at_call 43; refine (told_any _ _ _ _ _ hq).mono ?_; rintro e w5 ⟨v, rfl, hext5, hres⟩; rw [HF.out] at hres; obtain ⟨ar, nr, cr, rfl, hr⟩ := hres)
    | (go_at_call 32; refine (of_any _ hm _).mono ?_; rintro e w6 ⟨v, rfl, hext6, ao, no, co, rfl, ho⟩))
  rw [Exit.noGoto_ret]
  go_ret3
  exact Post.mk (((((hext1.trans hext2).trans (((Ext.of_alloc _ _).trans hextL).trans hext3)).trans hext4).trans hext5).trans hext6) ⟨ar, nr, cr, ao, no, co, rfl, hr.ext hext6, ho⟩
end Go.Proofs.Ytnecpkoibknacaa
