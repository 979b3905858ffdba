/- Of, Norm, Sub, Bits. -/
import Derived.Test.YtnecpkoibknacaaW6
import Derived.Test.YtnecpkoibknacaaPlainC
import Derived.Test.YtnecpkoibknacaaShelf
namespace Go.Proofs.Ytnecpkoibknacaa
open Go.RowKit

theorem Nums.one {w : World} {b x c : Nat} (h : w.cell? ⟨b, 0, none⟩ = some (.int .u64 x)) (hx : x < B64) (hc : 1 ≤ c) : Nums w (some ⟨b, 0, none⟩) 1 c [x] :=
  ⟨rfl, by omega, hc, by simpa using hx, .inr ⟨b, 0, rfl, fun i hi => by
    obtain rfl : i = 0 := by omega
    simpa using h⟩⟩
theorem val_one (x : Nat) : val [x] = x := by simp [val]
theorem Top_big : B64 ≤ Top := by
  have := (fits_iff (B64 - 1)).1 (Nat.le_trans (length_limbs_le (k := 1) (by rw [Nat.pow_one]; have := B64_pos; omega)) (by omega))
  have := B64_pos
  omega
theorem fit_small {m : Nat} (h : m < B64) : fit m = some m := by
  unfold fit
  rw [if_pos (Nat.lt_of_lt_of_le h Top_big)]

theorem of_any (x : Nat) (hx : x < B64) (w : World) :
    Calls Try.prog 32 #[.int .u64 x] w (Post w fun v w' => ∃ a n c, v = .slice a n c ∧ Nums w' a n c (limbs x)) := by
  go_enter Try.func32, Try.ntmps32
  go_wp2_with (go_at_call 43; refine (told_any _ _ _ [x] _ (Nums.one (by simp) hx (by omega))).mono ?_; rintro e w1 ⟨v, rfl, hext, hres⟩; rw [val_one, fit_small hx] at hres; obtain ⟨a, n, c, rfl, hn⟩ := hres)
  go_ret
  exact Post.mk ((Ext.of_alloc _ _).trans hext) ⟨_, _, _, rfl, hn⟩

theorem norm_any (a : Option Addr) (n c : Nat) (xs : List Nat) (w : World) (h : Nums w a n c xs) :
    Calls Try.prog 34 #[.slice a n c] w (Post w fun v w' => NRes w' v (fit (val xs))) := by
  go_enter Try.func34, Try.ntmps34
  go_wp2_with (go_at_call 43; refine (told_any _ _ _ _ _ h).mono ?_; rintro e w1 ⟨v, rfl, hext, hres⟩; obtain ⟨ar, nr, cr, kr, rfl, hout⟩ := hres.out)
  go_ret2
  exact Post.mk hext hout.res

set_option maxHeartbeats 400000 in
theorem bits_any (a : Option Addr) (n c : Nat) (xs : List Nat) (w : World) (h : Nums w a n c xs) :
    Calls Try.prog 33 #[.slice a n c] w (Post w fun v _ => v = .int .i64 (blen (val xs))) := by
  by_cases h0 : val xs = 0
  · have H0 := Lib.hid h0
    clear h0
    go_enter Try.func33, Try.ntmps33
    go_wp2_with (go_at_call 41; refine (normal_any _ _ _ _ _ h).mono ?_; rintro e w1 ⟨v, rfl, hext1, a', n', c', rfl, hn⟩; rw [H0.out, limbs_zero] at hn; obtain rfl := hn.len)
    go_ret
    exact Post.mk hext1 (by rw [H0.out, blen_zero]; rfl)
  · have hl := length_limbs_pos h0
    have hb := blen_limbs h0
    have hlt := getD_lt (lt_limbs (val xs)) ((limbs (val xs)).length - 1)
    have hbl := bitLen_blen _ hlt
    have HB := Lib.hid hb
    have HBL := Lib.hid hbl
    clear hb hbl
    have hlt' : ((limbs (val xs))[(limbs (val xs)).length - 1]?.getD 0 : Nat) ≤ 18446744073709551615 := by unfold B64 at hlt; omega
    generalize hL : limbs (val xs) = L at *
    have HL := Lib.hid hL
    clear hL h0
    go_enter Try.func33, Try.ntmps33
    go_wp2_with (go_at_call 41; refine (normal_any _ _ _ _ _ h).mono ?_; rintro e w1 ⟨v, rfl, hext1, a', n', c', rfl, hn⟩; rw [HL.out] at hn; obtain rfl := hn.len; have hfew := hn.few; obtain ⟨b, off, rfl, hcell⟩ := hn.at (i := L.length - 1) (by omega))
    refine (Try.bits_Len64 _ _ (by omega) (by omega)).mono ?_
    rintro e w2 ⟨rfl, rfl⟩
    rw [Int.toNat_natCast, HBL.out]
    have hb64 : blen (L[L.length - 1]?.getD 0) ≤ 64 := (blen_iff _ 64).1 hlt
    go_wp2
    go_ret
    exact Post.mk hext1 (by rw [HB.out]; exact congrArg (Value.int .i64) (by omega))

set_option maxHeartbeats 400000 in
theorem sub_any (a1 a2 : Option Addr) (n1 c1 n2 c2 : Nat) (xs ys : List Nat) (w : World) (h1 : Nums w a1 n1 c1 xs) (h2 : Nums w a2 n2 c2 ys) :
    Calls Try.prog 31 #[.slice a1 n1 c1, .slice a2 n2 c2] w (Post w fun v w' => if val xs < Top ∧ val ys < Top then (if val ys ≤ val xs then NRes w' v (some (val xs - val ys)) else v = .tuple #[.slice none 0 0, .int .i64 7]) else NRes w' v none) := by
  have hL : NumsL (w.alloc (.cells #[.slice a1 n1 c1, .slice a2 n2 c2] 23)) (some ⟨w.heap.size, 0, none⟩) 2 [xs, ys] :=
    NumsL.two (by simp) (by simp) (h1.ext (Ext.of_alloc _ _)) (h2.ext (Ext.of_alloc _ _))
  have hlong : [xs, ys].any isLong = decide (¬ (val xs < Top ∧ val ys < Top)) := by
    rw [any_two]
    unfold isLong
    rw [← Bool.decide_or]
    apply decide_eq_decide.2
    omega
  by_cases hl : val xs < Top ∧ val ys < Top
  · rw [decide_eq_false (by simpa using hl)] at hlong
    by_cases hle : val ys ≤ val xs
    · have hc : decide ((cmpN (val xs) (val ys) : Int) < 0) = false := by rw [decide_eq_false_iff_not]; unfold cmpN; rw [if_neg (by omega)]; split <;> omega
      simp only [if_pos hl, if_pos hle]
      go_enter Try.func31, Try.ntmps31
      go_wp2_with (first
        | (go_at_call 42; refine (long_any _ _ _ _ _ hL).mono ?_; rintro e w1 ⟨v, rfl, hext1, rfl⟩; rw [hlong]; have hw1 := (Ext.of_alloc w _).trans hext1)
        | (go_at_call 30; refine (cmp_any _ _ _ _ _ _ _ _ _ (h1.ext hw1) (h2.ext hw1)).mono ?_; rintro e w2 ⟨v, rfl, hext2, rfl⟩; have hw2 := hw1.trans hext2)
        | (go_at_call 49; refine (less_any _ _ _ _ _ _ _ _ _ (h1.ext hw2) (h2.ext hw2) hle).mono ?_; rintro e w3 ⟨v, rfl, hext3, ar, nr, cr, rfl, hn⟩; have hw3 := hw2.trans hext3)
        | (go_at_call 43; refine (told_any _ _ _ _ _ hn).mono ?_; rintro e w4 ⟨v, rfl, hext4, hres⟩; obtain ⟨ar, nr, cr, kr, rfl, hout⟩ := hres.out))
      go_ret2
      refine Post.mk (hw3.trans hext4) ?_
      have := hout.res
      rw [val_limbs] at this
      unfold fit at this
      rwa [if_pos (by omega)] at this
    · have hc : decide ((cmpN (val xs) (val ys) : Int) < 0) = true := by rw [decide_eq_true_eq]; unfold cmpN; rw [if_pos (by omega)]; omega
      simp only [if_pos hl, if_neg hle]
      go_enter Try.func31, Try.ntmps31
      go_wp2_with (first
        | (go_at_call 42; refine (long_any _ _ _ _ _ hL).mono ?_; rintro e w1 ⟨v, rfl, hext1, rfl⟩; rw [hlong]; have hw1 := (Ext.of_alloc w _).trans hext1)
        | (go_at_call 30; refine (cmp_any _ _ _ _ _ _ _ _ _ (h1.ext hw1) (h2.ext hw1)).mono ?_; rintro e w2 ⟨v, rfl, hext2, rfl⟩; have hw2 := hw1.trans hext2))
      go_ret2
      exact Post.mk hw2 rfl
  · rw [decide_eq_true (by simpa using hl)] at hlong
    simp only [if_neg hl]
    go_enter Try.func31, Try.ntmps31
    go_wp2_with (go_at_call 42; refine (long_any _ _ _ _ _ hL).mono ?_; rintro e w1 ⟨v, rfl, hext1, rfl⟩; rw [hlong])
    go_ret2
    exact Post.mk ((Ext.of_alloc _ _).trans hext1) rfl
end Go.Proofs.Ytnecpkoibknacaa
