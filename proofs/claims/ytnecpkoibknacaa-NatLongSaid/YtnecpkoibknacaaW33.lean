/- Shr and Gcd of numbers that are too long; a number's zero. -/
import Derived.Test.YtnecpkoibknacaaW31
namespace Go.Proofs.Ytnecpkoibknacaa
open Go.RowKit

theorem shr_long {w : World} {v1 : Value} {m1 : Nat} (k : Int) (h1 : IsN w v1 m1) (ht : ¬ m1 < Top) : Calls Try.prog 20 #[v1, .int .i64 k] w (Post w fun v _ => v = .tuple #[.slice none 0 0, .int .i64 3]) := by
  obtain ⟨a, n, c, xs, rfl, h, hn, rfl⟩ := h1
  go_enter Try.func20, Try.ntmps20
  go_wp2_with fail
  refine (normal_any _ _ _ _ _ h).mono ?_
  rintro e w1 ⟨v, rfl, E1, a', n', c', rfl, hn1⟩
  have hlong : [limbs (val xs)].any isLong = true := by rw [any_one]; exact isLong_true (by rw [val_limbs]; exact ht)
  have HL := Lib.hid hlong
  clear hlong
  go_wp2_with fail
  refine (long_any _ _ _ [limbs (val xs)] _ (NumsL.one (by simp) (hn1.ext (Ext.of_alloc _ _)))).mono ?_
  rintro e w2 ⟨v, rfl, h2, rfl⟩
  have E2 : Ext w1 w2 := (by repeat (first | exact Ext.refl _ | with_reducible assumption | (with_reducible refine Ext.alloc ?_ _) | (with_reducible refine Ext.drew ?_) | (with_reducible refine Ext.trans ?_ (by with_reducible assumption))))
  rw [HL.out]
  go_wp2
  go_ret2
  exact Post.mk (by repeat (first | exact Ext.refl _ | with_reducible assumption | (with_reducible refine Ext.alloc ?_ _) | (with_reducible refine Ext.drew ?_) | (with_reducible refine Ext.trans ?_ (by with_reducible assumption)))) rfl
theorem gcd_long {w : World} {v1 v2 : Value} {m1 m2 : Nat} (h1 : IsN w v1 m1) (h2 : IsN w v2 m2) (ht : ¬ m1 < Top) : Calls Try.prog 12 #[v1, v2] w (Post w fun v _ => v = .tuple #[.slice none 0 0, .int .i64 3]) := by
  obtain ⟨a1, n1, c1, xs, rfl, h1, hn1, rfl⟩ := h1
  obtain ⟨a2, n2, c2, ys, rfl, h2, hn2, rfl⟩ := h2
  have hno : [xs, ys].any isLong = true := by rw [any_two, isLong_true ht]; rfl
  have HNO := Lib.hid hno
  clear hno
  go_enter Try.func12, Try.ntmps12
  go_wp2_with fail
  refine (long_any _ _ _ [xs, ys] _ (NumsL.two (by simp) (by simp) (h1.ext (Ext.of_alloc _ _)) (h2.ext (Ext.of_alloc _ _)))).mono ?_
  rintro e w2 ⟨v, rfl, E2, rfl⟩
  rw [HNO.out]
  go_wp2
  go_ret2
  exact Post.mk (by repeat (first | exact Ext.refl _ | with_reducible assumption | (with_reducible refine Ext.alloc ?_ _) | (with_reducible refine Ext.drew ?_) | (with_reducible refine Ext.trans ?_ (by with_reducible assumption)))) rfl
theorem div_toolong {w : World} {v1 v2 : Value} {m1 m2 : Nat} (h1 : IsN w v1 m1) (h2 : IsN w v2 m2) (ht : ¬ m1 < Top) : Calls Try.prog 11 #[v1, v2] w (Post w fun v _ => v = .tuple #[.slice none 0 0, .slice none 0 0, .int .i64 3]) := by
  obtain ⟨a1, n1, c1, xs, rfl, h1, hn1, rfl⟩ := h1
  obtain ⟨a2, n2, c2, ys, rfl, h2, hn2, rfl⟩ := h2
  exact div_long a1 a2 n1 c1 n2 c2 xs ys w h1 h2 (fun h => ht h.1)
theorem norm_long {w : World} {v : Value} {m : Nat} (h : IsN w v m) (ht : ¬ m < Top) : Calls Try.prog 34 #[v] w (Post w fun v _ => v = .tuple #[.slice none 0 0, .int .i64 3]) := by
  obtain ⟨a, n, c, xs, rfl, h, hn, rfl⟩ := h
  refine (norm_any a n c xs w h).mono ?_
  rintro e w' ⟨v, rfl, hext, h⟩
  rw [fit_none ht] at h
  exact Post.mk hext h
theorem add_long {w : World} {v1 v2 : Value} {m1 m2 : Nat} (h1 : IsN w v1 m1) (h2 : IsN w v2 m2) (ht : ¬ m1 + m2 < Top) : Calls Try.prog 28 #[v1, v2] w (Post w fun v _ => v = .tuple #[.slice none 0 0, .int .i64 3]) := by
  refine (add_n h1 h2).mono ?_
  rintro e w' ⟨v, rfl, hext, h⟩
  rw [fit_none ht] at h
  exact Post.mk hext h
theorem sub_long {w : World} {v1 v2 : Value} {m1 m2 : Nat} (h1 : IsN w v1 m1) (h2 : IsN w v2 m2) (ht : ¬ m1 < Top) : Calls Try.prog 31 #[v1, v2] w (Post w fun v _ => v = .tuple #[.slice none 0 0, .int .i64 3]) := by
  obtain ⟨a1, n1, c1, xs, rfl, h1, hn1, rfl⟩ := h1
  obtain ⟨a2, n2, c2, ys, rfl, h2, hn2, rfl⟩ := h2
  refine (sub_any a1 a2 n1 c1 n2 c2 xs ys w h1 h2).mono ?_
  rintro e w' ⟨v, rfl, hext, h⟩
  rw [if_neg (fun h => ht h.1)] at h
  exact Post.mk hext h
theorem shl_long {w : World} {v1 : Value} {m1 : Nat} (k : Nat) (h1 : IsN w v1 m1) (hk : k ≤ 4611686018427387904) (ht : ¬ m1 * 2 ^ k < Top) : Calls Try.prog 19 #[v1, .int .i64 k] w (Post w fun v _ => v = .tuple #[.slice none 0 0, .int .i64 3]) := by
  refine (shl_n k h1 hk).mono ?_
  rintro e w' ⟨v, rfl, hext, h⟩
  rw [fit_none ht] at h
  exact Post.mk hext h
theorem Num.zero {w : World} {v : Value} {m : Nat} (h : Num w v m) (e : m = 0) : ∃ a c, v = .slice a 0 c := by
  obtain ⟨_, a, n, c, rfl, h⟩ := h
  subst e
  rw [limbs_zero] at h
  obtain rfl : 0 = n := h.len
  exact ⟨a, c, rfl⟩
theorem cmp_le_n {w : World} {v1 v2 : Value} {m1 m2 : Nat} (h1 : IsN w v1 m1) (h2 : IsN w v2 m2) (e : m1 ≤ m2) : Calls Try.prog 30 #[v1, v2] w (Post w fun v _ => ∃ c : Int, c ≤ 0 ∧ v = .int .i64 c) := by
  refine (cmp_n h1 h2).mono ?_
  rintro _ w' ⟨v, rfl, hext, rfl⟩
  refine Post.mk hext ⟨_, ?_, rfl⟩
  unfold cmpN
  split
  · omega
  · rw [if_neg (by omega)]; omega
end Go.Proofs.Ytnecpkoibknacaa
