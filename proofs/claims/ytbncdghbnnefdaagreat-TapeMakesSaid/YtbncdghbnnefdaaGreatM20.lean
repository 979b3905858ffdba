/- Parts of the proof: contracts of the functions that the law reaches, and the arithmetic that they rest on; no condition beyond those that each theorem states. -/
import Derived.Test.YtbncdghbnnefdaaGreatM10
import Derived.Test.YtbncdghbnnefdaaGreatM19

namespace Go.Proofs.YtbncdghbnnefdaaGreat
open Go.RowKit

theorem fld_lo {op : Nat} (h1 : op < 3) : fieldsN op ≠ 3 ∧ fieldsN op ≠ 4 := by
  unfold fieldsN
  constructor <;> (repeat' split) <;> omega
theorem fld_mid {op : Nat} (h1 : 3 ≤ op) (h2 : op ≤ 6) : fieldsN op = 3 := by
  unfold fieldsN
  rw [if_neg (by omega), if_neg (by omega), if_pos ⟨h1, h2⟩]
theorem fld_hi {op : Nat} (h1 : 7 ≤ op) (h2 : op ≤ 11) : fieldsN op = 4 := by
  unfold fieldsN
  rw [if_neg (by omega), if_neg (by omega), if_neg (by omega), if_pos ⟨h1, h2⟩]
set_option maxRecDepth 100000 in
theorem rone_any (op : Nat) (h : op < 256) (w : World) : Calls Tryz.prog 35 #[.int .u8 op] w (Post w fun v _ => v = .bool (decide (fieldsN op = 4))) := by
  obtain ⟨q, hq⟩ : ∃ q, q = decide (fieldsN op = 4) := ⟨_, rfl⟩
  rw [← hq]
  by_cases h1 : op < 7
  · have e : q = false := by
      rw [hq]
      refine decide_eq_false ?_
      unfold fieldsN
      (repeat' split) <;> omega
    subst e
    have h1' : ¬ (7 : Int) ≤ op := by omega
    clear hq
    go_enter Tryz.func35, Tryz.ntmps35
    go_wp2
    go_ret
    exact Post.mk (by repeat (first | with_reducible exact Ext.refl _ | with_reducible assumption | (with_reducible refine Ext.alloc ?_ _) | (with_reducible refine Ext.drew ?_) | (with_reducible refine Ext.drewN ?_ _) | (with_reducible refine Ext.set ?_ (by first | (simp; done) | (simp; omega)) _) | (with_reducible refine Ext.trans ?_ (by with_reducible assumption)))) rfl
  · by_cases h2 : op ≤ 11
    · have e : q = true := by rw [hq]; exact decide_eq_true (fld_hi (by omega) h2)
      subst e
      have h1' : (7 : Int) ≤ op := by omega
      have h2' : ((op : Nat) : Int) ≤ 11 := by omega
      clear hq
      go_enter Tryz.func35, Tryz.ntmps35
      go_wp2
      go_ret
      exact Post.mk (by repeat (first | with_reducible exact Ext.refl _ | with_reducible assumption | (with_reducible refine Ext.alloc ?_ _) | (with_reducible refine Ext.drew ?_) | (with_reducible refine Ext.drewN ?_ _) | (with_reducible refine Ext.set ?_ (by first | (simp; done) | (simp; omega)) _) | (with_reducible refine Ext.trans ?_ (by with_reducible assumption)))) rfl
    · have e : q = false := by
        rw [hq]
        refine decide_eq_false ?_
        unfold fieldsN
        (repeat' split) <;> omega
      subst e
      have h1' : (7 : Int) ≤ op := by omega
      have h2' : ¬ ((op : Nat) : Int) ≤ 11 := by omega
      clear hq
      go_enter Tryz.func35, Tryz.ntmps35
      go_wp2
      go_ret
      exact Post.mk (by repeat (first | with_reducible exact Ext.refl _ | with_reducible assumption | (with_reducible refine Ext.alloc ?_ _) | (with_reducible refine Ext.drew ?_) | (with_reducible refine Ext.drewN ?_ _) | (with_reducible refine Ext.set ?_ (by first | (simp; done) | (simp; omega)) _) | (with_reducible refine Ext.trans ?_ (by with_reducible assumption)))) rfl
set_option maxRecDepth 100000 in
theorem rtwo_any (op : Nat) (h : op < 256) (w : World) : Calls Tryz.prog 36 #[.int .u8 op] w (Post w fun v _ => v = .bool (decide (fieldsN op = 3))) := by
  obtain ⟨q, hq⟩ : ∃ q, q = decide (fieldsN op = 3) := ⟨_, rfl⟩
  rw [← hq]
  by_cases h1 : op < 3
  · have e : q = false := by rw [hq]; exact decide_eq_false (fld_lo h1).1
    subst e
    have h1' : ¬ (3 : Int) ≤ op := by omega
    clear hq
    go_enter Tryz.func36, Tryz.ntmps36
    go_wp2
    go_ret
    exact Post.mk (by repeat (first | with_reducible exact Ext.refl _ | with_reducible assumption | (with_reducible refine Ext.alloc ?_ _) | (with_reducible refine Ext.drew ?_) | (with_reducible refine Ext.drewN ?_ _) | (with_reducible refine Ext.set ?_ (by first | (simp; done) | (simp; omega)) _) | (with_reducible refine Ext.trans ?_ (by with_reducible assumption)))) rfl
  · by_cases h2 : op ≤ 6
    · have e : q = true := by rw [hq]; exact decide_eq_true (fld_mid (by omega) h2)
      subst e
      have h1' : (3 : Int) ≤ op := by omega
      have h2' : ((op : Nat) : Int) ≤ 6 := by omega
      clear hq
      go_enter Tryz.func36, Tryz.ntmps36
      go_wp2
      go_ret
      exact Post.mk (by repeat (first | with_reducible exact Ext.refl _ | with_reducible assumption | (with_reducible refine Ext.alloc ?_ _) | (with_reducible refine Ext.drew ?_) | (with_reducible refine Ext.drewN ?_ _) | (with_reducible refine Ext.set ?_ (by first | (simp; done) | (simp; omega)) _) | (with_reducible refine Ext.trans ?_ (by with_reducible assumption)))) rfl
    · have e : q = false := by
        rw [hq]
        refine decide_eq_false ?_
        unfold fieldsN
        (repeat' split) <;> omega
      subst e
      have h1' : (3 : Int) ≤ op := by omega
      have h2' : ¬ ((op : Nat) : Int) ≤ 6 := by omega
      clear hq
      go_enter Tryz.func36, Tryz.ntmps36
      go_wp2
      go_ret
      exact Post.mk (by repeat (first | with_reducible exact Ext.refl _ | with_reducible assumption | (with_reducible refine Ext.alloc ?_ _) | (with_reducible refine Ext.drew ?_) | (with_reducible refine Ext.drewN ?_ _) | (with_reducible refine Ext.set ?_ (by first | (simp; done) | (simp; omega)) _) | (with_reducible refine Ext.trans ?_ (by with_reducible assumption)))) rfl

set_option linter.unusedSimpArgs false in
set_option maxRecDepth 100000 in
set_option maxHeartbeats 8000000 in
theorem rright_num (a b : Int) (neg : Bool) (xs ys : List Nat) (a1 a2 : Option Addr) (n1 c1 n2 c2 : Nat) (lim pars : Int) (w : World) (h1 : Nums w a1 n1 c1 xs) (h2 : Nums w a2 n2 c2 ys) (b1 : n1 ≤ 2048) (b2 : n2 ≤ 2048) (s1 : Sm 2040 (val xs)) (s2 : Sm 2040 (val ys)) :
    Calls Tryz.prog 43 #[.agg #[.int .u8 1, .int .i64 a, .int .i64 b, .bool neg, .slice a1 n1 c1, .slice a2 n2 c2], .int .i64 lim, .int .i64 pars] w (Post w fun v _ => v = .bool (rightP ⟨1, a, b, neg, xs, ys⟩ lim pars)) := by
  have er : rightP ⟨1, a, b, neg, xs, ys⟩ lim pars = (decide (val ys ≠ 0) && ((decide (neg = sg neg (val xs / Nat.gcd (val xs) (val ys))) && (sameL xs (limbs (val xs / Nat.gcd (val xs) (val ys))) && sameL ys (limbs (val ys / Nat.gcd (val xs) (val ys))))) && (decide (a = 0) && decide (b = 0)))) := by
    have e1 : fieldsN 1 = 1 := by decide
    have sy : ∀ u v : List Nat, sameL u v = sameL v u := fun u v => by unfold sameL; simp [eq_comm]
    simp only [rightP, e1, normC]
    rw [sy xs, sy ys]
    simp [eq_comm, Bool.and_assoc]
  obtain ⟨r, hr⟩ : ∃ r, r = rightP ⟨1, a, b, neg, xs, ys⟩ lim pars := ⟨_, rfl⟩
  rw [← hr]
  rw [← hr] at er
  have i1 := IsN.of h1 (by omega)
  have i2 := IsN.of h2 (by omega)
  obtain ⟨W1, hW1⟩ : ∃ W1, W1 = w.alloc (.cells #[.int .u8 1, .int .i64 a, .int .i64 b, .bool neg, .slice a1 n1 c1, .slice a2 n2 c2] 78) := ⟨_, rfl⟩
  obtain ⟨nb, hnb⟩ : ∃ nb, nb = w.heap.size := ⟨_, rfl⟩
  have EW : Ext w W1 := by rw [hW1]; exact Ext.of_alloc _ _
  have z0 : W1.cell? ⟨nb, 0, none⟩ = some (.int .u8 1) := by rw [hW1, hnb]; simp [go_sem]
  have z1 : W1.cell? ⟨nb, 1, none⟩ = some (.int .i64 a) := by rw [hW1, hnb]; simp [go_sem]
  have z2 : W1.cell? ⟨nb, 2, none⟩ = some (.int .i64 b) := by rw [hW1, hnb]; simp [go_sem]
  have z3 : W1.cell? ⟨nb, 3, none⟩ = some (.bool neg) := by rw [hW1, hnb]; simp [go_sem]
  have z4 : W1.cell? ⟨nb, 4, none⟩ = some (.slice a1 n1 c1) := by rw [hW1, hnb]; simp [go_sem]
  have z5 : W1.cell? ⟨nb, 5, none⟩ = some (.slice a2 n2 c2) := by rw [hW1, hnb]; simp [go_sem]
  have HM := Lib.hid (fun W (e : Ext w W) => rmay_any neg a1 a2 n1 c1 n2 c2 (val xs) (val ys) W (i1.ext e) (i2.ext e) (s1.top (by omega)) (s2.top (by omega)))
  have HWq := Lib.hid (And.intro hW1 hnb)
  clear hW1 hnb
  by_cases hd : val ys = 0
  · have e0 : r = false := by rw [er, hd]; rfl
    have HN : Hid True := Lib.hid trivial
    have HS : Hid True := Lib.hid trivial
    rw [show decide (val ys ≠ 0) = false from decide_eq_false (by simp [hd])] at HM
    subst e0
    clear er hr h1 h2 i1 i2 s1 s2 hd
    go_enter Tryz.func43, Tryz.ntmps43
    go_wp2_with fail
    rw [← HWq.out.2, ← HWq.out.1]
    clear HWq
    refine wp_region_T (fun _ => True) (fun w' : World => w'.cell? ⟨nb, 0, none⟩ = some (.int .u8 1) ∧ w'.cell? ⟨nb, 1, none⟩ = some (.int .i64 a) ∧ w'.cell? ⟨nb, 2, none⟩ = some (.int .i64 b) ∧ w'.cell? ⟨nb, 3, none⟩ = some (.bool neg) ∧ w'.cell? ⟨nb, 4, none⟩ = some (.slice a1 n1 c1) ∧ w'.cell? ⟨nb, 5, none⟩ = some (.slice a2 n2 c2)) 99 22 (by rfl) (by kernel_rfl) ?_
    have hT0 : W1.drew.cell? ⟨nb, 0, none⟩ = some (.int .u8 1) ∧ W1.drew.cell? ⟨nb, 1, none⟩ = some (.int .i64 a) ∧ W1.drew.cell? ⟨nb, 2, none⟩ = some (.int .i64 b) ∧ W1.drew.cell? ⟨nb, 3, none⟩ = some (.bool neg) ∧ W1.drew.cell? ⟨nb, 4, none⟩ = some (.slice a1 n1 c1) ∧ W1.drew.cell? ⟨nb, 5, none⟩ = some (.slice a2 n2 c2) := ⟨z0, z1, z2, z3, z4, z5⟩
    refine wpAnyT_take' (i := 0) (some 10) (v := ?_) rfl rfl (by kernel_rfl) (by kernel_rfl) (by kernel_rfl) (by decide) (fun _ _ _ h => h) (Or.inl ⟨by rfl, ?_⟩) (fun _ => trivial) hT0 ?_
    rotate_left
    · (intro w hSw; (try dsimp only at hSw); go_simp); try with_reducible rfl
    try simp only [Act.put, List.setIfInBounds_toArray, List.set_cons_zero, List.set_cons_succ]
    refine wpAnyT_take' (i := 1) (some 11) (v := ?_) rfl rfl (by kernel_rfl) (by kernel_rfl) (by kernel_rfl) (by decide) (fun _ _ _ h => h) (Or.inl ⟨by rfl, ?_⟩) (fun _ => trivial) hT0 ?_
    rotate_left
    · (intro w hSw; (try dsimp only at hSw); go_simp); try with_reducible rfl
    try simp only [Act.put, List.setIfInBounds_toArray, List.set_cons_zero, List.set_cons_succ]
    refine wpAnyT_one (i := 2) (by kernel_rfl) rfl (fun K hK => ?_)
    go_simp
    refine (HM.out _ EW.drew).mono ?_
    rintro e w1 ⟨_, rfl, E1, rfl⟩
    try simp only []
    have hT1 : w1.cell? ⟨nb, 0, none⟩ = some (.int .u8 1) ∧ w1.cell? ⟨nb, 1, none⟩ = some (.int .i64 a) ∧ w1.cell? ⟨nb, 2, none⟩ = some (.int .i64 b) ∧ w1.cell? ⟨nb, 3, none⟩ = some (.bool neg) ∧ w1.cell? ⟨nb, 4, none⟩ = some (.slice a1 n1 c1) ∧ w1.cell? ⟨nb, 5, none⟩ = some (.slice a2 n2 c2) := ⟨E1.cell z0, E1.cell z1, E1.cell z2, E1.cell z3, E1.cell z4, E1.cell z5⟩
    have F1 := EW.drew.trans E1
    refine hK _ _ (fun _ => trivial) hT1 ?_
    clear hK K
    try simp only [Act.put, List.setIfInBounds_toArray, List.set_cons_zero, List.set_cons_succ]
    refine wpAnyT_take' (i := 3) (some 13) (v := ?_) rfl rfl (by kernel_rfl) (by kernel_rfl) (by kernel_rfl) (by decide) (fun _ _ _ h => h) (Or.inl ⟨by rfl, ?_⟩) (fun _ => trivial) hT1 ?_
    rotate_left
    · (intro w hSw; (try dsimp only at hSw); go_simp); try with_reducible rfl
    try simp only [Act.put, List.setIfInBounds_toArray, List.set_cons_zero, List.set_cons_succ]
    refine wpAnyT_take' (i := 4) (some 14) (v := undef) rfl rfl (by kernel_rfl) (by kernel_rfl) (by kernel_rfl) (by decide) (fun _ _ _ h => h) (Or.inr ⟨by rfl, rfl⟩) (fun _ => trivial) hT1 ?_
    try simp only [Act.put, List.setIfInBounds_toArray, List.set_cons_zero, List.set_cons_succ]
    refine wpAnyT_take' (i := 5) (some 15) (v := undef) rfl rfl (by kernel_rfl) (by kernel_rfl) (by kernel_rfl) (by decide) (fun _ _ _ h => h) (Or.inr ⟨by rfl, rfl⟩) (fun _ => trivial) hT1 ?_
    try simp only [Act.put, List.setIfInBounds_toArray, List.set_cons_zero, List.set_cons_succ]
    refine wpAnyT_take' (i := 6) (some 16) (v := undef) rfl rfl (by kernel_rfl) (by kernel_rfl) (by kernel_rfl) (by decide) (fun _ _ _ h => h) (Or.inr ⟨by rfl, rfl⟩) (fun _ => trivial) hT1 ?_
    try simp only [Act.put, List.setIfInBounds_toArray, List.set_cons_zero, List.set_cons_succ]
    refine wpAnyT_take' (i := 7) (some 17) (v := undef) rfl rfl (by kernel_rfl) (by kernel_rfl) (by kernel_rfl) (by decide) (fun _ _ _ h => h) (Or.inr ⟨by rfl, rfl⟩) (fun _ => trivial) hT1 ?_
    try simp only [Act.put, List.setIfInBounds_toArray, List.set_cons_zero, List.set_cons_succ]
    refine wpAnyT_take' (i := 8) (some 18) (v := undef) rfl rfl (by kernel_rfl) (by kernel_rfl) (by kernel_rfl) (by decide) (fun _ _ _ h => h) (Or.inr ⟨by rfl, rfl⟩) (fun _ => trivial) hT1 ?_
    try simp only [Act.put, List.setIfInBounds_toArray, List.set_cons_zero, List.set_cons_succ]
    refine wpAnyT_take' (i := 9) (some 19) (v := undef) rfl rfl (by kernel_rfl) (by kernel_rfl) (by kernel_rfl) (by decide) (fun _ _ _ h => h) (Or.inr ⟨by rfl, rfl⟩) (fun _ => trivial) hT1 ?_
    try simp only [Act.put, List.setIfInBounds_toArray, List.set_cons_zero, List.set_cons_succ]
    refine wpAnyT_take' (i := 10) (some 20) (v := ?_) rfl rfl (by kernel_rfl) (by kernel_rfl) (by kernel_rfl) (by decide) (fun _ _ _ h => h) (Or.inl ⟨by rfl, ?_⟩) (fun _ => trivial) hT1 ?_
    rotate_left
    · (intro w hSw; (try dsimp only at hSw); go_simp); try with_reducible rfl
    try simp only [Act.put, List.setIfInBounds_toArray, List.set_cons_zero, List.set_cons_succ]
    refine wpAnyT_take' (i := 11) (some 21) (v := ?_) rfl rfl (by kernel_rfl) (by kernel_rfl) (by kernel_rfl) (by decide) (fun _ _ _ h => h) (Or.inl ⟨by rfl, ?_⟩) (fun _ => trivial) hT1 ?_
    rotate_left
    · (intro w hSw; (try dsimp only at hSw); go_simp); try with_reducible rfl
    try simp only [Act.put, List.setIfInBounds_toArray, List.set_cons_zero, List.set_cons_succ]
    refine wpAnyT_take' (i := 12) (some 22) (v := undef) rfl rfl (by kernel_rfl) (by kernel_rfl) (by kernel_rfl) (by decide) (fun _ _ _ h => h) (Or.inr ⟨by rfl, rfl⟩) (fun _ => trivial) hT1 ?_
    try simp only [Act.put, List.setIfInBounds_toArray, List.set_cons_zero, List.set_cons_succ]
    refine wpAnyT_take' (i := 13) (some 23) (v := undef) rfl rfl (by kernel_rfl) (by kernel_rfl) (by kernel_rfl) (by decide) (fun _ _ _ h => h) (Or.inr ⟨by rfl, rfl⟩) (fun _ => trivial) hT1 ?_
    try simp only [Act.put, List.setIfInBounds_toArray, List.set_cons_zero, List.set_cons_succ]
    refine wpAnyT_take' (i := 14) (some 24) (v := undef) rfl rfl (by kernel_rfl) (by kernel_rfl) (by kernel_rfl) (by decide) (fun _ _ _ h => h) (Or.inr ⟨by rfl, rfl⟩) (fun _ => trivial) hT1 ?_
    try simp only [Act.put, List.setIfInBounds_toArray, List.set_cons_zero, List.set_cons_succ]
    refine wpAnyT_take' (i := 15) (some 25) (v := ?_) rfl rfl (by kernel_rfl) (by kernel_rfl) (by kernel_rfl) (by decide) (fun _ _ _ h => h) (Or.inl ⟨by rfl, ?_⟩) (fun _ => trivial) hT1 ?_
    rotate_left
    · (intro w hSw; (try dsimp only at hSw); go_simp); try with_reducible rfl
    try simp only [Act.put, List.setIfInBounds_toArray, List.set_cons_zero, List.set_cons_succ]
    refine wpAnyT_take' (i := 16) (some 26) (v := ?_) rfl rfl (by kernel_rfl) (by kernel_rfl) (by kernel_rfl) (by decide) (fun _ _ _ h => h) (Or.inl ⟨by rfl, ?_⟩) (fun _ => trivial) hT1 ?_
    rotate_left
    · (intro w hSw; (try dsimp only at hSw); go_simp); try with_reducible rfl
    try simp only [Act.put, List.setIfInBounds_toArray, List.set_cons_zero, List.set_cons_succ]
    refine wpAnyT_take' (i := 17) (some 27) (v := undef) rfl rfl (by kernel_rfl) (by kernel_rfl) (by kernel_rfl) (by decide) (fun _ _ _ h => h) (Or.inr ⟨by rfl, rfl⟩) (fun _ => trivial) hT1 ?_
    try simp only [Act.put, List.setIfInBounds_toArray, List.set_cons_zero, List.set_cons_succ]
    refine wpAnyT_take' (i := 18) (some 28) (v := undef) rfl rfl (by kernel_rfl) (by kernel_rfl) (by kernel_rfl) (by decide) (fun _ _ _ h => h) (Or.inr ⟨by rfl, rfl⟩) (fun _ => trivial) hT1 ?_
    try simp only [Act.put, List.setIfInBounds_toArray, List.set_cons_zero, List.set_cons_succ]
    refine wpAnyT_take' (i := 19) (some 29) (v := undef) rfl rfl (by kernel_rfl) (by kernel_rfl) (by kernel_rfl) (by decide) (fun _ _ _ h => h) (Or.inr ⟨by rfl, rfl⟩) (fun _ => trivial) hT1 ?_
    try simp only [Act.put, List.setIfInBounds_toArray, List.set_cons_zero, List.set_cons_succ]
    refine wpAnyT_take' (i := 20) (some 30) (v := ?_) rfl rfl (by kernel_rfl) (by kernel_rfl) (by kernel_rfl) (by decide) (fun _ _ _ h => h) (Or.inl ⟨by rfl, ?_⟩) (fun _ => trivial) hT1 ?_
    rotate_left
    · (intro w hSw; (try dsimp only at hSw); go_simp); try with_reducible rfl
    try simp only [Act.put, List.setIfInBounds_toArray, List.set_cons_zero, List.set_cons_succ]
    refine wpAnyT_take' (i := 21) (some 6) (v := ?_) rfl rfl (by kernel_rfl) (by kernel_rfl) (by kernel_rfl) (by decide) (fun _ _ _ h => h) (Or.inl ⟨by rfl, ?_⟩) (fun _ => trivial) hT1 ?_
    rotate_left
    · (intro w hSw; (try dsimp only at hSw); go_simp); try with_reducible rfl
    try simp only [Act.put, List.setIfInBounds_toArray, List.set_cons_zero, List.set_cons_succ]
    refine wpAnyT_done (by kernel_rfl) ?_ _
    try simp only [Act.put, List.setIfInBounds_toArray, List.set_cons_zero, List.set_cons_succ]
    clear hT0 HM HN HS
    go_wp2
    go_ret
    exact Post.mk F1 rfl
  · rw [show decide (val ys ≠ 0) = true from decide_eq_true hd] at HM er
    have HN := Lib.hid (fun W (e : Ext w W) => rfnorm_any neg a1 a2 n1 c1 n2 c2 (val xs) (val ys) W (i1.ext e) (i2.ext e) s1 s2 hd)
    obtain ⟨g', hg'⟩ : ∃ g', g' = sg neg (val xs / Nat.gcd (val xs) (val ys)) := ⟨_, rfl⟩
    obtain ⟨N, hN⟩ : ∃ N, N = val xs / Nat.gcd (val xs) (val ys) := ⟨_, rfl⟩
    obtain ⟨D, hD⟩ : ∃ D, D = val ys / Nat.gcd (val xs) (val ys) := ⟨_, rfl⟩
    rw [← hg'] at HN er
    rw [← hN] at HN er hg'
    rw [← hD] at HN er
    have hgN : g' = true → N ≠ 0 := fun e => sg_ne (by rw [← hg']; exact e)
    obtain ⟨q, hq⟩ : ∃ q, q = (decide (neg = g') && (sameL xs (limbs N) && sameL ys (limbs D))) := ⟨_, rfl⟩
    have HS := Lib.hid (fun W x1 m1 y1 x2 m2 y2 (e : Ext w W) (hx : Nums W x1 m1 y1 (limbs N)) (hy : Nums W x2 m2 y2 (limbs D)) => rfsame_any neg g' a1 a2 x1 x2 n1 c1 n2 c2 m1 y1 m2 y2 N D xs ys W (h1.ext e) (h2.ext e) hx hy hgN)
    rw [← hq] at HS er
    clear hr h1 h2 i1 i2 s1 s2 hd hN hD hg' hgN hq
    cases q
    · have e0 : r = false := by rw [er]; rfl
      subst e0
      clear er
      go_enter Tryz.func43, Tryz.ntmps43
      go_wp2_with fail
      rw [← HWq.out.2, ← HWq.out.1]
      clear HWq
      refine wp_region_T (fun _ => True) (fun w' : World => w'.cell? ⟨nb, 0, none⟩ = some (.int .u8 1) ∧ w'.cell? ⟨nb, 1, none⟩ = some (.int .i64 a) ∧ w'.cell? ⟨nb, 2, none⟩ = some (.int .i64 b) ∧ w'.cell? ⟨nb, 3, none⟩ = some (.bool neg) ∧ w'.cell? ⟨nb, 4, none⟩ = some (.slice a1 n1 c1) ∧ w'.cell? ⟨nb, 5, none⟩ = some (.slice a2 n2 c2)) 99 22 (by rfl) (by kernel_rfl) ?_
      have hT0 : W1.drew.cell? ⟨nb, 0, none⟩ = some (.int .u8 1) ∧ W1.drew.cell? ⟨nb, 1, none⟩ = some (.int .i64 a) ∧ W1.drew.cell? ⟨nb, 2, none⟩ = some (.int .i64 b) ∧ W1.drew.cell? ⟨nb, 3, none⟩ = some (.bool neg) ∧ W1.drew.cell? ⟨nb, 4, none⟩ = some (.slice a1 n1 c1) ∧ W1.drew.cell? ⟨nb, 5, none⟩ = some (.slice a2 n2 c2) := ⟨z0, z1, z2, z3, z4, z5⟩
      refine wpAnyT_take' (i := 0) (some 10) (v := ?_) rfl rfl (by kernel_rfl) (by kernel_rfl) (by kernel_rfl) (by decide) (fun _ _ _ h => h) (Or.inl ⟨by rfl, ?_⟩) (fun _ => trivial) hT0 ?_
      rotate_left
      · (intro w hSw; (try dsimp only at hSw); go_simp); try with_reducible rfl
      try simp only [Act.put, List.setIfInBounds_toArray, List.set_cons_zero, List.set_cons_succ]
      refine wpAnyT_take' (i := 1) (some 11) (v := ?_) rfl rfl (by kernel_rfl) (by kernel_rfl) (by kernel_rfl) (by decide) (fun _ _ _ h => h) (Or.inl ⟨by rfl, ?_⟩) (fun _ => trivial) hT0 ?_
      rotate_left
      · (intro w hSw; (try dsimp only at hSw); go_simp); try with_reducible rfl
      try simp only [Act.put, List.setIfInBounds_toArray, List.set_cons_zero, List.set_cons_succ]
      refine wpAnyT_one (i := 2) (by kernel_rfl) rfl (fun K hK => ?_)
      go_simp
      refine (HM.out _ EW.drew).mono ?_
      rintro e w1 ⟨_, rfl, E1, rfl⟩
      try simp only []
      have hT1 : w1.cell? ⟨nb, 0, none⟩ = some (.int .u8 1) ∧ w1.cell? ⟨nb, 1, none⟩ = some (.int .i64 a) ∧ w1.cell? ⟨nb, 2, none⟩ = some (.int .i64 b) ∧ w1.cell? ⟨nb, 3, none⟩ = some (.bool neg) ∧ w1.cell? ⟨nb, 4, none⟩ = some (.slice a1 n1 c1) ∧ w1.cell? ⟨nb, 5, none⟩ = some (.slice a2 n2 c2) := ⟨E1.cell z0, E1.cell z1, E1.cell z2, E1.cell z3, E1.cell z4, E1.cell z5⟩
      have F1 := EW.drew.trans E1
      refine hK _ _ (fun _ => trivial) hT1 ?_
      clear hK K
      try simp only [Act.put, List.setIfInBounds_toArray, List.set_cons_zero, List.set_cons_succ]
      refine wpAnyT_take' (i := 3) (some 13) (v := ?_) rfl rfl (by kernel_rfl) (by kernel_rfl) (by kernel_rfl) (by decide) (fun _ _ _ h => h) (Or.inl ⟨by rfl, ?_⟩) (fun _ => trivial) hT1 ?_
      rotate_left
      · (intro w hSw; (try dsimp only at hSw); go_simp); try with_reducible rfl
      try simp only [Act.put, List.setIfInBounds_toArray, List.set_cons_zero, List.set_cons_succ]
      refine wpAnyT_take' (i := 4) (some 14) (v := ?_) rfl rfl (by kernel_rfl) (by kernel_rfl) (by kernel_rfl) (by decide) (fun _ _ _ h => h) (Or.inl ⟨by rfl, ?_⟩) (fun _ => trivial) hT1 ?_
      rotate_left
      · (intro w hSw; (try dsimp only at hSw); go_simp); try with_reducible rfl
      try simp only [Act.put, List.setIfInBounds_toArray, List.set_cons_zero, List.set_cons_succ]
      refine wpAnyT_take' (i := 5) (some 15) (v := ?_) rfl rfl (by kernel_rfl) (by kernel_rfl) (by kernel_rfl) (by decide) (fun _ _ _ h => h) (Or.inl ⟨by rfl, ?_⟩) (fun _ => trivial) hT1 ?_
      rotate_left
      · (intro w hSw; (try dsimp only at hSw); go_simp); try with_reducible rfl
      try simp only [Act.put, List.setIfInBounds_toArray, List.set_cons_zero, List.set_cons_succ]
      refine wpAnyT_take' (i := 6) (some 16) (v := ?_) rfl rfl (by kernel_rfl) (by kernel_rfl) (by kernel_rfl) (by decide) (fun _ _ _ h => h) (Or.inl ⟨by rfl, ?_⟩) (fun _ => trivial) hT1 ?_
      rotate_left
      · (intro w hSw; (try dsimp only at hSw); go_simp); try with_reducible rfl
      try simp only [Act.put, List.setIfInBounds_toArray, List.set_cons_zero, List.set_cons_succ]
      refine wpAnyT_take' (i := 7) (some 17) (v := ?_) rfl rfl (by kernel_rfl) (by kernel_rfl) (by kernel_rfl) (by decide) (fun _ _ _ h => h) (Or.inl ⟨by rfl, ?_⟩) (fun _ => trivial) hT1 ?_
      rotate_left
      · (intro w hSw; (try dsimp only at hSw); go_simp); try with_reducible rfl
      try simp only [Act.put, List.setIfInBounds_toArray, List.set_cons_zero, List.set_cons_succ]
      refine wpAnyT_one (i := 8) (by kernel_rfl) rfl (fun K hK => ?_)
      go_simp
      refine (HN.out _ F1).mono ?_
      rintro e w2 ⟨v2, rfl, E2, x1, m1, y1, x2, m2, y2, rfl, hx, hy⟩
      try simp only []
      have hT2 : w2.cell? ⟨nb, 0, none⟩ = some (.int .u8 1) ∧ w2.cell? ⟨nb, 1, none⟩ = some (.int .i64 a) ∧ w2.cell? ⟨nb, 2, none⟩ = some (.int .i64 b) ∧ w2.cell? ⟨nb, 3, none⟩ = some (.bool neg) ∧ w2.cell? ⟨nb, 4, none⟩ = some (.slice a1 n1 c1) ∧ w2.cell? ⟨nb, 5, none⟩ = some (.slice a2 n2 c2) := ⟨E2.cell (E1.cell z0), E2.cell (E1.cell z1), E2.cell (E1.cell z2), E2.cell (E1.cell z3), E2.cell (E1.cell z4), E2.cell (E1.cell z5)⟩
      have F2 := F1.trans E2
      refine hK _ _ (fun _ => trivial) hT2 ?_
      clear hK K
      try simp only [Act.put, List.setIfInBounds_toArray, List.set_cons_zero, List.set_cons_succ]
      refine wpAnyT_one (i := 9) (by kernel_rfl) rfl (fun K hK => ?_)
      go_simp
      refine (HS.out _ _ _ _ _ _ _ F2 hx hy).mono ?_
      rintro e w3 ⟨_, rfl, E3, rfl⟩
      try simp only []
      have hT3 : w3.cell? ⟨nb, 0, none⟩ = some (.int .u8 1) ∧ w3.cell? ⟨nb, 1, none⟩ = some (.int .i64 a) ∧ w3.cell? ⟨nb, 2, none⟩ = some (.int .i64 b) ∧ w3.cell? ⟨nb, 3, none⟩ = some (.bool neg) ∧ w3.cell? ⟨nb, 4, none⟩ = some (.slice a1 n1 c1) ∧ w3.cell? ⟨nb, 5, none⟩ = some (.slice a2 n2 c2) := ⟨E3.cell (E2.cell (E1.cell z0)), E3.cell (E2.cell (E1.cell z1)), E3.cell (E2.cell (E1.cell z2)), E3.cell (E2.cell (E1.cell z3)), E3.cell (E2.cell (E1.cell z4)), E3.cell (E2.cell (E1.cell z5))⟩
      have F3 := F2.trans E3
      refine hK _ _ (fun _ => trivial) hT3 ?_
      clear hK K
      try simp only [Act.put, List.setIfInBounds_toArray, List.set_cons_zero, List.set_cons_succ]
      refine wpAnyT_take' (i := 10) (some 20) (v := ?_) rfl rfl (by kernel_rfl) (by kernel_rfl) (by kernel_rfl) (by decide) (fun _ _ _ h => h) (Or.inl ⟨by rfl, ?_⟩) (fun _ => trivial) hT3 ?_
      rotate_left
      · (intro w hSw; (try dsimp only at hSw); go_simp); try with_reducible rfl
      try simp only [Act.put, List.setIfInBounds_toArray, List.set_cons_zero, List.set_cons_succ]
      refine wpAnyT_take' (i := 11) (some 21) (v := ?_) rfl rfl (by kernel_rfl) (by kernel_rfl) (by kernel_rfl) (by decide) (fun _ _ _ h => h) (Or.inl ⟨by rfl, ?_⟩) (fun _ => trivial) hT3 ?_
      rotate_left
      · (intro w hSw; (try dsimp only at hSw); go_simp); try with_reducible rfl
      try simp only [Act.put, List.setIfInBounds_toArray, List.set_cons_zero, List.set_cons_succ]
      refine wpAnyT_take' (i := 12) (some 22) (v := undef) rfl rfl (by kernel_rfl) (by kernel_rfl) (by kernel_rfl) (by decide) (fun _ _ _ h => h) (Or.inr ⟨by rfl, rfl⟩) (fun _ => trivial) hT3 ?_
      try simp only [Act.put, List.setIfInBounds_toArray, List.set_cons_zero, List.set_cons_succ]
      refine wpAnyT_take' (i := 13) (some 23) (v := undef) rfl rfl (by kernel_rfl) (by kernel_rfl) (by kernel_rfl) (by decide) (fun _ _ _ h => h) (Or.inr ⟨by rfl, rfl⟩) (fun _ => trivial) hT3 ?_
      try simp only [Act.put, List.setIfInBounds_toArray, List.set_cons_zero, List.set_cons_succ]
      refine wpAnyT_take' (i := 14) (some 24) (v := undef) rfl rfl (by kernel_rfl) (by kernel_rfl) (by kernel_rfl) (by decide) (fun _ _ _ h => h) (Or.inr ⟨by rfl, rfl⟩) (fun _ => trivial) hT3 ?_
      try simp only [Act.put, List.setIfInBounds_toArray, List.set_cons_zero, List.set_cons_succ]
      refine wpAnyT_take' (i := 15) (some 25) (v := ?_) rfl rfl (by kernel_rfl) (by kernel_rfl) (by kernel_rfl) (by decide) (fun _ _ _ h => h) (Or.inl ⟨by rfl, ?_⟩) (fun _ => trivial) hT3 ?_
      rotate_left
      · (intro w hSw; (try dsimp only at hSw); go_simp); try with_reducible rfl
      try simp only [Act.put, List.setIfInBounds_toArray, List.set_cons_zero, List.set_cons_succ]
      refine wpAnyT_take' (i := 16) (some 26) (v := ?_) rfl rfl (by kernel_rfl) (by kernel_rfl) (by kernel_rfl) (by decide) (fun _ _ _ h => h) (Or.inl ⟨by rfl, ?_⟩) (fun _ => trivial) hT3 ?_
      rotate_left
      · (intro w hSw; (try dsimp only at hSw); go_simp); try with_reducible rfl
      try simp only [Act.put, List.setIfInBounds_toArray, List.set_cons_zero, List.set_cons_succ]
      refine wpAnyT_take' (i := 17) (some 27) (v := undef) rfl rfl (by kernel_rfl) (by kernel_rfl) (by kernel_rfl) (by decide) (fun _ _ _ h => h) (Or.inr ⟨by rfl, rfl⟩) (fun _ => trivial) hT3 ?_
      try simp only [Act.put, List.setIfInBounds_toArray, List.set_cons_zero, List.set_cons_succ]
      refine wpAnyT_take' (i := 18) (some 28) (v := undef) rfl rfl (by kernel_rfl) (by kernel_rfl) (by kernel_rfl) (by decide) (fun _ _ _ h => h) (Or.inr ⟨by rfl, rfl⟩) (fun _ => trivial) hT3 ?_
      try simp only [Act.put, List.setIfInBounds_toArray, List.set_cons_zero, List.set_cons_succ]
      refine wpAnyT_take' (i := 19) (some 29) (v := undef) rfl rfl (by kernel_rfl) (by kernel_rfl) (by kernel_rfl) (by decide) (fun _ _ _ h => h) (Or.inr ⟨by rfl, rfl⟩) (fun _ => trivial) hT3 ?_
      try simp only [Act.put, List.setIfInBounds_toArray, List.set_cons_zero, List.set_cons_succ]
      refine wpAnyT_take' (i := 20) (some 30) (v := ?_) rfl rfl (by kernel_rfl) (by kernel_rfl) (by kernel_rfl) (by decide) (fun _ _ _ h => h) (Or.inl ⟨by rfl, ?_⟩) (fun _ => trivial) hT3 ?_
      rotate_left
      · (intro w hSw; (try dsimp only at hSw); go_simp); try with_reducible rfl
      try simp only [Act.put, List.setIfInBounds_toArray, List.set_cons_zero, List.set_cons_succ]
      refine wpAnyT_take' (i := 21) (some 6) (v := ?_) rfl rfl (by kernel_rfl) (by kernel_rfl) (by kernel_rfl) (by decide) (fun _ _ _ h => h) (Or.inl ⟨by rfl, ?_⟩) (fun _ => trivial) hT3 ?_
      rotate_left
      · (intro w hSw; (try dsimp only at hSw); go_simp); try with_reducible rfl
      try simp only [Act.put, List.setIfInBounds_toArray, List.set_cons_zero, List.set_cons_succ]
      refine wpAnyT_done (by kernel_rfl) ?_ _
      try simp only [Act.put, List.setIfInBounds_toArray, List.set_cons_zero, List.set_cons_succ]
      clear hT0 HM HN HS
      go_wp2
      go_ret
      exact Post.mk F3 rfl
    · by_cases ha : a = 0
      · have ha' : (a == 0) = true := by simp [ha]
        by_cases hb : b = 0
        · have hb' : (b == 0) = true := by simp [hb]
          have e0 : r = true := by rw [er, ha, hb]; rfl
          subst e0
          clear er ha hb
          go_enter Tryz.func43, Tryz.ntmps43
          go_wp2_with fail
          rw [← HWq.out.2, ← HWq.out.1]
          clear HWq
          refine wp_region_T (fun _ => True) (fun w' : World => w'.cell? ⟨nb, 0, none⟩ = some (.int .u8 1) ∧ w'.cell? ⟨nb, 1, none⟩ = some (.int .i64 a) ∧ w'.cell? ⟨nb, 2, none⟩ = some (.int .i64 b) ∧ w'.cell? ⟨nb, 3, none⟩ = some (.bool neg) ∧ w'.cell? ⟨nb, 4, none⟩ = some (.slice a1 n1 c1) ∧ w'.cell? ⟨nb, 5, none⟩ = some (.slice a2 n2 c2)) 99 22 (by rfl) (by kernel_rfl) ?_
          have hT0 : W1.drew.cell? ⟨nb, 0, none⟩ = some (.int .u8 1) ∧ W1.drew.cell? ⟨nb, 1, none⟩ = some (.int .i64 a) ∧ W1.drew.cell? ⟨nb, 2, none⟩ = some (.int .i64 b) ∧ W1.drew.cell? ⟨nb, 3, none⟩ = some (.bool neg) ∧ W1.drew.cell? ⟨nb, 4, none⟩ = some (.slice a1 n1 c1) ∧ W1.drew.cell? ⟨nb, 5, none⟩ = some (.slice a2 n2 c2) := ⟨z0, z1, z2, z3, z4, z5⟩
          refine wpAnyT_take' (i := 0) (some 10) (v := ?_) rfl rfl (by kernel_rfl) (by kernel_rfl) (by kernel_rfl) (by decide) (fun _ _ _ h => h) (Or.inl ⟨by rfl, ?_⟩) (fun _ => trivial) hT0 ?_
          rotate_left
          · (intro w hSw; (try dsimp only at hSw); go_simp); try with_reducible rfl
          try simp only [Act.put, List.setIfInBounds_toArray, List.set_cons_zero, List.set_cons_succ]
          refine wpAnyT_take' (i := 1) (some 11) (v := ?_) rfl rfl (by kernel_rfl) (by kernel_rfl) (by kernel_rfl) (by decide) (fun _ _ _ h => h) (Or.inl ⟨by rfl, ?_⟩) (fun _ => trivial) hT0 ?_
          rotate_left
          · (intro w hSw; (try dsimp only at hSw); go_simp); try with_reducible rfl
          try simp only [Act.put, List.setIfInBounds_toArray, List.set_cons_zero, List.set_cons_succ]
          refine wpAnyT_one (i := 2) (by kernel_rfl) rfl (fun K hK => ?_)
          go_simp
          refine (HM.out _ EW.drew).mono ?_
          rintro e w1 ⟨_, rfl, E1, rfl⟩
          try simp only []
          have hT1 : w1.cell? ⟨nb, 0, none⟩ = some (.int .u8 1) ∧ w1.cell? ⟨nb, 1, none⟩ = some (.int .i64 a) ∧ w1.cell? ⟨nb, 2, none⟩ = some (.int .i64 b) ∧ w1.cell? ⟨nb, 3, none⟩ = some (.bool neg) ∧ w1.cell? ⟨nb, 4, none⟩ = some (.slice a1 n1 c1) ∧ w1.cell? ⟨nb, 5, none⟩ = some (.slice a2 n2 c2) := ⟨E1.cell z0, E1.cell z1, E1.cell z2, E1.cell z3, E1.cell z4, E1.cell z5⟩
          have F1 := EW.drew.trans E1
          refine hK _ _ (fun _ => trivial) hT1 ?_
          clear hK K
          try simp only [Act.put, List.setIfInBounds_toArray, List.set_cons_zero, List.set_cons_succ]
          refine wpAnyT_take' (i := 3) (some 13) (v := ?_) rfl rfl (by kernel_rfl) (by kernel_rfl) (by kernel_rfl) (by decide) (fun _ _ _ h => h) (Or.inl ⟨by rfl, ?_⟩) (fun _ => trivial) hT1 ?_
          rotate_left
          · (intro w hSw; (try dsimp only at hSw); go_simp); try with_reducible rfl
          try simp only [Act.put, List.setIfInBounds_toArray, List.set_cons_zero, List.set_cons_succ]
          refine wpAnyT_take' (i := 4) (some 14) (v := ?_) rfl rfl (by kernel_rfl) (by kernel_rfl) (by kernel_rfl) (by decide) (fun _ _ _ h => h) (Or.inl ⟨by rfl, ?_⟩) (fun _ => trivial) hT1 ?_
          rotate_left
          · (intro w hSw; (try dsimp only at hSw); go_simp); try with_reducible rfl
          try simp only [Act.put, List.setIfInBounds_toArray, List.set_cons_zero, List.set_cons_succ]
          refine wpAnyT_take' (i := 5) (some 15) (v := ?_) rfl rfl (by kernel_rfl) (by kernel_rfl) (by kernel_rfl) (by decide) (fun _ _ _ h => h) (Or.inl ⟨by rfl, ?_⟩) (fun _ => trivial) hT1 ?_
          rotate_left
          · (intro w hSw; (try dsimp only at hSw); go_simp); try with_reducible rfl
          try simp only [Act.put, List.setIfInBounds_toArray, List.set_cons_zero, List.set_cons_succ]
          refine wpAnyT_take' (i := 6) (some 16) (v := ?_) rfl rfl (by kernel_rfl) (by kernel_rfl) (by kernel_rfl) (by decide) (fun _ _ _ h => h) (Or.inl ⟨by rfl, ?_⟩) (fun _ => trivial) hT1 ?_
          rotate_left
          · (intro w hSw; (try dsimp only at hSw); go_simp); try with_reducible rfl
          try simp only [Act.put, List.setIfInBounds_toArray, List.set_cons_zero, List.set_cons_succ]
          refine wpAnyT_take' (i := 7) (some 17) (v := ?_) rfl rfl (by kernel_rfl) (by kernel_rfl) (by kernel_rfl) (by decide) (fun _ _ _ h => h) (Or.inl ⟨by rfl, ?_⟩) (fun _ => trivial) hT1 ?_
          rotate_left
          · (intro w hSw; (try dsimp only at hSw); go_simp); try with_reducible rfl
          try simp only [Act.put, List.setIfInBounds_toArray, List.set_cons_zero, List.set_cons_succ]
          refine wpAnyT_one (i := 8) (by kernel_rfl) rfl (fun K hK => ?_)
          go_simp
          refine (HN.out _ F1).mono ?_
          rintro e w2 ⟨v2, rfl, E2, x1, m1, y1, x2, m2, y2, rfl, hx, hy⟩
          try simp only []
          have hT2 : w2.cell? ⟨nb, 0, none⟩ = some (.int .u8 1) ∧ w2.cell? ⟨nb, 1, none⟩ = some (.int .i64 a) ∧ w2.cell? ⟨nb, 2, none⟩ = some (.int .i64 b) ∧ w2.cell? ⟨nb, 3, none⟩ = some (.bool neg) ∧ w2.cell? ⟨nb, 4, none⟩ = some (.slice a1 n1 c1) ∧ w2.cell? ⟨nb, 5, none⟩ = some (.slice a2 n2 c2) := ⟨E2.cell (E1.cell z0), E2.cell (E1.cell z1), E2.cell (E1.cell z2), E2.cell (E1.cell z3), E2.cell (E1.cell z4), E2.cell (E1.cell z5)⟩
          have F2 := F1.trans E2
          refine hK _ _ (fun _ => trivial) hT2 ?_
          clear hK K
          try simp only [Act.put, List.setIfInBounds_toArray, List.set_cons_zero, List.set_cons_succ]
          refine wpAnyT_one (i := 9) (by kernel_rfl) rfl (fun K hK => ?_)
          go_simp
          refine (HS.out _ _ _ _ _ _ _ F2 hx hy).mono ?_
          rintro e w3 ⟨_, rfl, E3, rfl⟩
          try simp only []
          have hT3 : w3.cell? ⟨nb, 0, none⟩ = some (.int .u8 1) ∧ w3.cell? ⟨nb, 1, none⟩ = some (.int .i64 a) ∧ w3.cell? ⟨nb, 2, none⟩ = some (.int .i64 b) ∧ w3.cell? ⟨nb, 3, none⟩ = some (.bool neg) ∧ w3.cell? ⟨nb, 4, none⟩ = some (.slice a1 n1 c1) ∧ w3.cell? ⟨nb, 5, none⟩ = some (.slice a2 n2 c2) := ⟨E3.cell (E2.cell (E1.cell z0)), E3.cell (E2.cell (E1.cell z1)), E3.cell (E2.cell (E1.cell z2)), E3.cell (E2.cell (E1.cell z3)), E3.cell (E2.cell (E1.cell z4)), E3.cell (E2.cell (E1.cell z5))⟩
          have F3 := F2.trans E3
          refine hK _ _ (fun _ => trivial) hT3 ?_
          clear hK K
          try simp only [Act.put, List.setIfInBounds_toArray, List.set_cons_zero, List.set_cons_succ]
          refine wpAnyT_take' (i := 10) (some 20) (v := ?_) rfl rfl (by kernel_rfl) (by kernel_rfl) (by kernel_rfl) (by decide) (fun _ _ _ h => h) (Or.inl ⟨by rfl, ?_⟩) (fun _ => trivial) hT3 ?_
          rotate_left
          · (intro w hSw; (try dsimp only at hSw); go_simp); try with_reducible rfl
          try simp only [Act.put, List.setIfInBounds_toArray, List.set_cons_zero, List.set_cons_succ]
          refine wpAnyT_take' (i := 11) (some 21) (v := ?_) rfl rfl (by kernel_rfl) (by kernel_rfl) (by kernel_rfl) (by decide) (fun _ _ _ h => h) (Or.inl ⟨by rfl, ?_⟩) (fun _ => trivial) hT3 ?_
          rotate_left
          · (intro w hSw; (try dsimp only at hSw); go_simp); try with_reducible rfl
          try simp only [Act.put, List.setIfInBounds_toArray, List.set_cons_zero, List.set_cons_succ]
          refine wpAnyT_take' (i := 12) (some 22) (v := ?_) rfl rfl (by kernel_rfl) (by kernel_rfl) (by kernel_rfl) (by decide) (fun _ _ _ h => h) (Or.inl ⟨by rfl, ?_⟩) (fun _ => trivial) hT3 ?_
          rotate_left
          · (intro w hSw; (try dsimp only at hSw); go_simp); try with_reducible rfl
          try simp only [Act.put, List.setIfInBounds_toArray, List.set_cons_zero, List.set_cons_succ]
          refine wpAnyT_take' (i := 13) (some 23) (v := ?_) rfl rfl (by kernel_rfl) (by kernel_rfl) (by kernel_rfl) (by decide) (fun _ _ _ h => h) (Or.inl ⟨by rfl, ?_⟩) (fun _ => trivial) hT3 ?_
          rotate_left
          · (intro w hSw; (try dsimp only at hSw); go_simp); try with_reducible rfl
          try simp only [Act.put, List.setIfInBounds_toArray, List.set_cons_zero, List.set_cons_succ]
          refine wpAnyT_take' (i := 14) (some 24) (v := ?_) rfl rfl (by kernel_rfl) (by kernel_rfl) (by kernel_rfl) (by decide) (fun _ _ _ h => h) (Or.inl ⟨by rfl, ?_⟩) (fun _ => trivial) hT3 ?_
          rotate_left
          · (intro w hSw; (try dsimp only at hSw); go_simp); try with_reducible rfl
          try simp only [Act.put, List.setIfInBounds_toArray, List.set_cons_zero, List.set_cons_succ]
          refine wpAnyT_take' (i := 15) (some 25) (v := ?_) rfl rfl (by kernel_rfl) (by kernel_rfl) (by kernel_rfl) (by decide) (fun _ _ _ h => h) (Or.inl ⟨by rfl, ?_⟩) (fun _ => trivial) hT3 ?_
          rotate_left
          · (intro w hSw; (try dsimp only at hSw); go_simp); try with_reducible rfl
          try simp only [Act.put, List.setIfInBounds_toArray, List.set_cons_zero, List.set_cons_succ]
          refine wpAnyT_take' (i := 16) (some 26) (v := ?_) rfl rfl (by kernel_rfl) (by kernel_rfl) (by kernel_rfl) (by decide) (fun _ _ _ h => h) (Or.inl ⟨by rfl, ?_⟩) (fun _ => trivial) hT3 ?_
          rotate_left
          · (intro w hSw; (try dsimp only at hSw); go_simp); try with_reducible rfl
          try simp only [Act.put, List.setIfInBounds_toArray, List.set_cons_zero, List.set_cons_succ]
          refine wpAnyT_take' (i := 17) (some 27) (v := ?_) rfl rfl (by kernel_rfl) (by kernel_rfl) (by kernel_rfl) (by decide) (fun _ _ _ h => h) (Or.inl ⟨by rfl, ?_⟩) (fun _ => trivial) hT3 ?_
          rotate_left
          · (intro w hSw; (try dsimp only at hSw); go_simp); try with_reducible rfl
          try simp only [Act.put, List.setIfInBounds_toArray, List.set_cons_zero, List.set_cons_succ]
          refine wpAnyT_take' (i := 18) (some 28) (v := ?_) rfl rfl (by kernel_rfl) (by kernel_rfl) (by kernel_rfl) (by decide) (fun _ _ _ h => h) (Or.inl ⟨by rfl, ?_⟩) (fun _ => trivial) hT3 ?_
          rotate_left
          · (intro w hSw; (try dsimp only at hSw); go_simp); try with_reducible rfl
          try simp only [Act.put, List.setIfInBounds_toArray, List.set_cons_zero, List.set_cons_succ]
          refine wpAnyT_take' (i := 19) (some 29) (v := ?_) rfl rfl (by kernel_rfl) (by kernel_rfl) (by kernel_rfl) (by decide) (fun _ _ _ h => h) (Or.inl ⟨by rfl, ?_⟩) (fun _ => trivial) hT3 ?_
          rotate_left
          · (intro w hSw; (try dsimp only at hSw); go_simp); try with_reducible rfl
          try simp only [Act.put, List.setIfInBounds_toArray, List.set_cons_zero, List.set_cons_succ]
          refine wpAnyT_take' (i := 20) (some 30) (v := ?_) rfl rfl (by kernel_rfl) (by kernel_rfl) (by kernel_rfl) (by decide) (fun _ _ _ h => h) (Or.inl ⟨by rfl, ?_⟩) (fun _ => trivial) hT3 ?_
          rotate_left
          · (intro w hSw; (try dsimp only at hSw); go_simp); try with_reducible rfl
          try simp only [Act.put, List.setIfInBounds_toArray, List.set_cons_zero, List.set_cons_succ]
          refine wpAnyT_take' (i := 21) (some 6) (v := ?_) rfl rfl (by kernel_rfl) (by kernel_rfl) (by kernel_rfl) (by decide) (fun _ _ _ h => h) (Or.inl ⟨by rfl, ?_⟩) (fun _ => trivial) hT3 ?_
          rotate_left
          · (intro w hSw; (try dsimp only at hSw); go_simp); try with_reducible rfl
          try simp only [Act.put, List.setIfInBounds_toArray, List.set_cons_zero, List.set_cons_succ]
          refine wpAnyT_done (by kernel_rfl) ?_ _
          try simp only [Act.put, List.setIfInBounds_toArray, List.set_cons_zero, List.set_cons_succ]
          clear hT0 HM HN HS
          go_wp2
          go_ret
          exact Post.mk F3 rfl
        · have e0 : r = false := by rw [er]; simp [hb]
          have hb' : (b == 0) = false := by simp [hb]
          subst e0
          clear er ha hb
          go_enter Tryz.func43, Tryz.ntmps43
          go_wp2_with fail
          rw [← HWq.out.2, ← HWq.out.1]
          clear HWq
          refine wp_region_T (fun _ => True) (fun w' : World => w'.cell? ⟨nb, 0, none⟩ = some (.int .u8 1) ∧ w'.cell? ⟨nb, 1, none⟩ = some (.int .i64 a) ∧ w'.cell? ⟨nb, 2, none⟩ = some (.int .i64 b) ∧ w'.cell? ⟨nb, 3, none⟩ = some (.bool neg) ∧ w'.cell? ⟨nb, 4, none⟩ = some (.slice a1 n1 c1) ∧ w'.cell? ⟨nb, 5, none⟩ = some (.slice a2 n2 c2)) 99 22 (by rfl) (by kernel_rfl) ?_
          have hT0 : W1.drew.cell? ⟨nb, 0, none⟩ = some (.int .u8 1) ∧ W1.drew.cell? ⟨nb, 1, none⟩ = some (.int .i64 a) ∧ W1.drew.cell? ⟨nb, 2, none⟩ = some (.int .i64 b) ∧ W1.drew.cell? ⟨nb, 3, none⟩ = some (.bool neg) ∧ W1.drew.cell? ⟨nb, 4, none⟩ = some (.slice a1 n1 c1) ∧ W1.drew.cell? ⟨nb, 5, none⟩ = some (.slice a2 n2 c2) := ⟨z0, z1, z2, z3, z4, z5⟩
          refine wpAnyT_take' (i := 0) (some 10) (v := ?_) rfl rfl (by kernel_rfl) (by kernel_rfl) (by kernel_rfl) (by decide) (fun _ _ _ h => h) (Or.inl ⟨by rfl, ?_⟩) (fun _ => trivial) hT0 ?_
          rotate_left
          · (intro w hSw; (try dsimp only at hSw); go_simp); try with_reducible rfl
          try simp only [Act.put, List.setIfInBounds_toArray, List.set_cons_zero, List.set_cons_succ]
          refine wpAnyT_take' (i := 1) (some 11) (v := ?_) rfl rfl (by kernel_rfl) (by kernel_rfl) (by kernel_rfl) (by decide) (fun _ _ _ h => h) (Or.inl ⟨by rfl, ?_⟩) (fun _ => trivial) hT0 ?_
          rotate_left
          · (intro w hSw; (try dsimp only at hSw); go_simp); try with_reducible rfl
          try simp only [Act.put, List.setIfInBounds_toArray, List.set_cons_zero, List.set_cons_succ]
          refine wpAnyT_one (i := 2) (by kernel_rfl) rfl (fun K hK => ?_)
          go_simp
          refine (HM.out _ EW.drew).mono ?_
          rintro e w1 ⟨_, rfl, E1, rfl⟩
          try simp only []
          have hT1 : w1.cell? ⟨nb, 0, none⟩ = some (.int .u8 1) ∧ w1.cell? ⟨nb, 1, none⟩ = some (.int .i64 a) ∧ w1.cell? ⟨nb, 2, none⟩ = some (.int .i64 b) ∧ w1.cell? ⟨nb, 3, none⟩ = some (.bool neg) ∧ w1.cell? ⟨nb, 4, none⟩ = some (.slice a1 n1 c1) ∧ w1.cell? ⟨nb, 5, none⟩ = some (.slice a2 n2 c2) := ⟨E1.cell z0, E1.cell z1, E1.cell z2, E1.cell z3, E1.cell z4, E1.cell z5⟩
          have F1 := EW.drew.trans E1
          refine hK _ _ (fun _ => trivial) hT1 ?_
          clear hK K
          try simp only [Act.put, List.setIfInBounds_toArray, List.set_cons_zero, List.set_cons_succ]
          refine wpAnyT_take' (i := 3) (some 13) (v := ?_) rfl rfl (by kernel_rfl) (by kernel_rfl) (by kernel_rfl) (by decide) (fun _ _ _ h => h) (Or.inl ⟨by rfl, ?_⟩) (fun _ => trivial) hT1 ?_
          rotate_left
          · (intro w hSw; (try dsimp only at hSw); go_simp); try with_reducible rfl
          try simp only [Act.put, List.setIfInBounds_toArray, List.set_cons_zero, List.set_cons_succ]
          refine wpAnyT_take' (i := 4) (some 14) (v := ?_) rfl rfl (by kernel_rfl) (by kernel_rfl) (by kernel_rfl) (by decide) (fun _ _ _ h => h) (Or.inl ⟨by rfl, ?_⟩) (fun _ => trivial) hT1 ?_
          rotate_left
          · (intro w hSw; (try dsimp only at hSw); go_simp); try with_reducible rfl
          try simp only [Act.put, List.setIfInBounds_toArray, List.set_cons_zero, List.set_cons_succ]
          refine wpAnyT_take' (i := 5) (some 15) (v := ?_) rfl rfl (by kernel_rfl) (by kernel_rfl) (by kernel_rfl) (by decide) (fun _ _ _ h => h) (Or.inl ⟨by rfl, ?_⟩) (fun _ => trivial) hT1 ?_
          rotate_left
          · (intro w hSw; (try dsimp only at hSw); go_simp); try with_reducible rfl
          try simp only [Act.put, List.setIfInBounds_toArray, List.set_cons_zero, List.set_cons_succ]
          refine wpAnyT_take' (i := 6) (some 16) (v := ?_) rfl rfl (by kernel_rfl) (by kernel_rfl) (by kernel_rfl) (by decide) (fun _ _ _ h => h) (Or.inl ⟨by rfl, ?_⟩) (fun _ => trivial) hT1 ?_
          rotate_left
          · (intro w hSw; (try dsimp only at hSw); go_simp); try with_reducible rfl
          try simp only [Act.put, List.setIfInBounds_toArray, List.set_cons_zero, List.set_cons_succ]
          refine wpAnyT_take' (i := 7) (some 17) (v := ?_) rfl rfl (by kernel_rfl) (by kernel_rfl) (by kernel_rfl) (by decide) (fun _ _ _ h => h) (Or.inl ⟨by rfl, ?_⟩) (fun _ => trivial) hT1 ?_
          rotate_left
          · (intro w hSw; (try dsimp only at hSw); go_simp); try with_reducible rfl
          try simp only [Act.put, List.setIfInBounds_toArray, List.set_cons_zero, List.set_cons_succ]
          refine wpAnyT_one (i := 8) (by kernel_rfl) rfl (fun K hK => ?_)
          go_simp
          refine (HN.out _ F1).mono ?_
          rintro e w2 ⟨v2, rfl, E2, x1, m1, y1, x2, m2, y2, rfl, hx, hy⟩
          try simp only []
          have hT2 : w2.cell? ⟨nb, 0, none⟩ = some (.int .u8 1) ∧ w2.cell? ⟨nb, 1, none⟩ = some (.int .i64 a) ∧ w2.cell? ⟨nb, 2, none⟩ = some (.int .i64 b) ∧ w2.cell? ⟨nb, 3, none⟩ = some (.bool neg) ∧ w2.cell? ⟨nb, 4, none⟩ = some (.slice a1 n1 c1) ∧ w2.cell? ⟨nb, 5, none⟩ = some (.slice a2 n2 c2) := ⟨E2.cell (E1.cell z0), E2.cell (E1.cell z1), E2.cell (E1.cell z2), E2.cell (E1.cell z3), E2.cell (E1.cell z4), E2.cell (E1.cell z5)⟩
          have F2 := F1.trans E2
          refine hK _ _ (fun _ => trivial) hT2 ?_
          clear hK K
          try simp only [Act.put, List.setIfInBounds_toArray, List.set_cons_zero, List.set_cons_succ]
          refine wpAnyT_one (i := 9) (by kernel_rfl) rfl (fun K hK => ?_)
          go_simp
          refine (HS.out _ _ _ _ _ _ _ F2 hx hy).mono ?_
          rintro e w3 ⟨_, rfl, E3, rfl⟩
          try simp only []
          have hT3 : w3.cell? ⟨nb, 0, none⟩ = some (.int .u8 1) ∧ w3.cell? ⟨nb, 1, none⟩ = some (.int .i64 a) ∧ w3.cell? ⟨nb, 2, none⟩ = some (.int .i64 b) ∧ w3.cell? ⟨nb, 3, none⟩ = some (.bool neg) ∧ w3.cell? ⟨nb, 4, none⟩ = some (.slice a1 n1 c1) ∧ w3.cell? ⟨nb, 5, none⟩ = some (.slice a2 n2 c2) := ⟨E3.cell (E2.cell (E1.cell z0)), E3.cell (E2.cell (E1.cell z1)), E3.cell (E2.cell (E1.cell z2)), E3.cell (E2.cell (E1.cell z3)), E3.cell (E2.cell (E1.cell z4)), E3.cell (E2.cell (E1.cell z5))⟩
          have F3 := F2.trans E3
          refine hK _ _ (fun _ => trivial) hT3 ?_
          clear hK K
          try simp only [Act.put, List.setIfInBounds_toArray, List.set_cons_zero, List.set_cons_succ]
          refine wpAnyT_take' (i := 10) (some 20) (v := ?_) rfl rfl (by kernel_rfl) (by kernel_rfl) (by kernel_rfl) (by decide) (fun _ _ _ h => h) (Or.inl ⟨by rfl, ?_⟩) (fun _ => trivial) hT3 ?_
          rotate_left
          · (intro w hSw; (try dsimp only at hSw); go_simp); try with_reducible rfl
          try simp only [Act.put, List.setIfInBounds_toArray, List.set_cons_zero, List.set_cons_succ]
          refine wpAnyT_take' (i := 11) (some 21) (v := ?_) rfl rfl (by kernel_rfl) (by kernel_rfl) (by kernel_rfl) (by decide) (fun _ _ _ h => h) (Or.inl ⟨by rfl, ?_⟩) (fun _ => trivial) hT3 ?_
          rotate_left
          · (intro w hSw; (try dsimp only at hSw); go_simp); try with_reducible rfl
          try simp only [Act.put, List.setIfInBounds_toArray, List.set_cons_zero, List.set_cons_succ]
          refine wpAnyT_take' (i := 12) (some 22) (v := ?_) rfl rfl (by kernel_rfl) (by kernel_rfl) (by kernel_rfl) (by decide) (fun _ _ _ h => h) (Or.inl ⟨by rfl, ?_⟩) (fun _ => trivial) hT3 ?_
          rotate_left
          · (intro w hSw; (try dsimp only at hSw); go_simp); try with_reducible rfl
          try simp only [Act.put, List.setIfInBounds_toArray, List.set_cons_zero, List.set_cons_succ]
          refine wpAnyT_take' (i := 13) (some 23) (v := ?_) rfl rfl (by kernel_rfl) (by kernel_rfl) (by kernel_rfl) (by decide) (fun _ _ _ h => h) (Or.inl ⟨by rfl, ?_⟩) (fun _ => trivial) hT3 ?_
          rotate_left
          · (intro w hSw; (try dsimp only at hSw); go_simp); try with_reducible rfl
          try simp only [Act.put, List.setIfInBounds_toArray, List.set_cons_zero, List.set_cons_succ]
          refine wpAnyT_take' (i := 14) (some 24) (v := ?_) rfl rfl (by kernel_rfl) (by kernel_rfl) (by kernel_rfl) (by decide) (fun _ _ _ h => h) (Or.inl ⟨by rfl, ?_⟩) (fun _ => trivial) hT3 ?_
          rotate_left
          · (intro w hSw; (try dsimp only at hSw); go_simp); try with_reducible rfl
          try simp only [Act.put, List.setIfInBounds_toArray, List.set_cons_zero, List.set_cons_succ]
          refine wpAnyT_take' (i := 15) (some 25) (v := ?_) rfl rfl (by kernel_rfl) (by kernel_rfl) (by kernel_rfl) (by decide) (fun _ _ _ h => h) (Or.inl ⟨by rfl, ?_⟩) (fun _ => trivial) hT3 ?_
          rotate_left
          · (intro w hSw; (try dsimp only at hSw); go_simp); try with_reducible rfl
          try simp only [Act.put, List.setIfInBounds_toArray, List.set_cons_zero, List.set_cons_succ]
          refine wpAnyT_take' (i := 16) (some 26) (v := ?_) rfl rfl (by kernel_rfl) (by kernel_rfl) (by kernel_rfl) (by decide) (fun _ _ _ h => h) (Or.inl ⟨by rfl, ?_⟩) (fun _ => trivial) hT3 ?_
          rotate_left
          · (intro w hSw; (try dsimp only at hSw); go_simp); try with_reducible rfl
          try simp only [Act.put, List.setIfInBounds_toArray, List.set_cons_zero, List.set_cons_succ]
          refine wpAnyT_take' (i := 17) (some 27) (v := ?_) rfl rfl (by kernel_rfl) (by kernel_rfl) (by kernel_rfl) (by decide) (fun _ _ _ h => h) (Or.inl ⟨by rfl, ?_⟩) (fun _ => trivial) hT3 ?_
          rotate_left
          · (intro w hSw; (try dsimp only at hSw); go_simp); try with_reducible rfl
          try simp only [Act.put, List.setIfInBounds_toArray, List.set_cons_zero, List.set_cons_succ]
          refine wpAnyT_take' (i := 18) (some 28) (v := ?_) rfl rfl (by kernel_rfl) (by kernel_rfl) (by kernel_rfl) (by decide) (fun _ _ _ h => h) (Or.inl ⟨by rfl, ?_⟩) (fun _ => trivial) hT3 ?_
          rotate_left
          · (intro w hSw; (try dsimp only at hSw); go_simp); try with_reducible rfl
          try simp only [Act.put, List.setIfInBounds_toArray, List.set_cons_zero, List.set_cons_succ]
          refine wpAnyT_take' (i := 19) (some 29) (v := ?_) rfl rfl (by kernel_rfl) (by kernel_rfl) (by kernel_rfl) (by decide) (fun _ _ _ h => h) (Or.inl ⟨by rfl, ?_⟩) (fun _ => trivial) hT3 ?_
          rotate_left
          · (intro w hSw; (try dsimp only at hSw); go_simp); try with_reducible rfl
          try simp only [Act.put, List.setIfInBounds_toArray, List.set_cons_zero, List.set_cons_succ]
          refine wpAnyT_take' (i := 20) (some 30) (v := ?_) rfl rfl (by kernel_rfl) (by kernel_rfl) (by kernel_rfl) (by decide) (fun _ _ _ h => h) (Or.inl ⟨by rfl, ?_⟩) (fun _ => trivial) hT3 ?_
          rotate_left
          · (intro w hSw; (try dsimp only at hSw); go_simp); try with_reducible rfl
          try simp only [Act.put, List.setIfInBounds_toArray, List.set_cons_zero, List.set_cons_succ]
          refine wpAnyT_take' (i := 21) (some 6) (v := ?_) rfl rfl (by kernel_rfl) (by kernel_rfl) (by kernel_rfl) (by decide) (fun _ _ _ h => h) (Or.inl ⟨by rfl, ?_⟩) (fun _ => trivial) hT3 ?_
          rotate_left
          · (intro w hSw; (try dsimp only at hSw); go_simp); try with_reducible rfl
          try simp only [Act.put, List.setIfInBounds_toArray, List.set_cons_zero, List.set_cons_succ]
          refine wpAnyT_done (by kernel_rfl) ?_ _
          try simp only [Act.put, List.setIfInBounds_toArray, List.set_cons_zero, List.set_cons_succ]
          clear hT0 HM HN HS
          go_wp2
          go_ret
          exact Post.mk F3 rfl
      · have e0 : r = false := by rw [er]; simp [ha]
        have ha' : (a == 0) = false := by simp [ha]
        subst e0
        clear er
        go_enter Tryz.func43, Tryz.ntmps43
        go_wp2_with fail
        rw [← HWq.out.2, ← HWq.out.1]
        clear HWq
        refine wp_region_T (fun _ => True) (fun w' : World => w'.cell? ⟨nb, 0, none⟩ = some (.int .u8 1) ∧ w'.cell? ⟨nb, 1, none⟩ = some (.int .i64 a) ∧ w'.cell? ⟨nb, 2, none⟩ = some (.int .i64 b) ∧ w'.cell? ⟨nb, 3, none⟩ = some (.bool neg) ∧ w'.cell? ⟨nb, 4, none⟩ = some (.slice a1 n1 c1) ∧ w'.cell? ⟨nb, 5, none⟩ = some (.slice a2 n2 c2)) 99 22 (by rfl) (by kernel_rfl) ?_
        have hT0 : W1.drew.cell? ⟨nb, 0, none⟩ = some (.int .u8 1) ∧ W1.drew.cell? ⟨nb, 1, none⟩ = some (.int .i64 a) ∧ W1.drew.cell? ⟨nb, 2, none⟩ = some (.int .i64 b) ∧ W1.drew.cell? ⟨nb, 3, none⟩ = some (.bool neg) ∧ W1.drew.cell? ⟨nb, 4, none⟩ = some (.slice a1 n1 c1) ∧ W1.drew.cell? ⟨nb, 5, none⟩ = some (.slice a2 n2 c2) := ⟨z0, z1, z2, z3, z4, z5⟩
        refine wpAnyT_take' (i := 0) (some 10) (v := ?_) rfl rfl (by kernel_rfl) (by kernel_rfl) (by kernel_rfl) (by decide) (fun _ _ _ h => h) (Or.inl ⟨by rfl, ?_⟩) (fun _ => trivial) hT0 ?_
        rotate_left
        · (intro w hSw; (try dsimp only at hSw); go_simp); try with_reducible rfl
        try simp only [Act.put, List.setIfInBounds_toArray, List.set_cons_zero, List.set_cons_succ]
        refine wpAnyT_take' (i := 1) (some 11) (v := ?_) rfl rfl (by kernel_rfl) (by kernel_rfl) (by kernel_rfl) (by decide) (fun _ _ _ h => h) (Or.inl ⟨by rfl, ?_⟩) (fun _ => trivial) hT0 ?_
        rotate_left
        · (intro w hSw; (try dsimp only at hSw); go_simp); try with_reducible rfl
        try simp only [Act.put, List.setIfInBounds_toArray, List.set_cons_zero, List.set_cons_succ]
        refine wpAnyT_one (i := 2) (by kernel_rfl) rfl (fun K hK => ?_)
        go_simp
        refine (HM.out _ EW.drew).mono ?_
        rintro e w1 ⟨_, rfl, E1, rfl⟩
        try simp only []
        have hT1 : w1.cell? ⟨nb, 0, none⟩ = some (.int .u8 1) ∧ w1.cell? ⟨nb, 1, none⟩ = some (.int .i64 a) ∧ w1.cell? ⟨nb, 2, none⟩ = some (.int .i64 b) ∧ w1.cell? ⟨nb, 3, none⟩ = some (.bool neg) ∧ w1.cell? ⟨nb, 4, none⟩ = some (.slice a1 n1 c1) ∧ w1.cell? ⟨nb, 5, none⟩ = some (.slice a2 n2 c2) := ⟨E1.cell z0, E1.cell z1, E1.cell z2, E1.cell z3, E1.cell z4, E1.cell z5⟩
        have F1 := EW.drew.trans E1
        refine hK _ _ (fun _ => trivial) hT1 ?_
        clear hK K
        try simp only [Act.put, List.setIfInBounds_toArray, List.set_cons_zero, List.set_cons_succ]
        refine wpAnyT_take' (i := 3) (some 13) (v := ?_) rfl rfl (by kernel_rfl) (by kernel_rfl) (by kernel_rfl) (by decide) (fun _ _ _ h => h) (Or.inl ⟨by rfl, ?_⟩) (fun _ => trivial) hT1 ?_
        rotate_left
        · (intro w hSw; (try dsimp only at hSw); go_simp); try with_reducible rfl
        try simp only [Act.put, List.setIfInBounds_toArray, List.set_cons_zero, List.set_cons_succ]
        refine wpAnyT_take' (i := 4) (some 14) (v := ?_) rfl rfl (by kernel_rfl) (by kernel_rfl) (by kernel_rfl) (by decide) (fun _ _ _ h => h) (Or.inl ⟨by rfl, ?_⟩) (fun _ => trivial) hT1 ?_
        rotate_left
        · (intro w hSw; (try dsimp only at hSw); go_simp); try with_reducible rfl
        try simp only [Act.put, List.setIfInBounds_toArray, List.set_cons_zero, List.set_cons_succ]
        refine wpAnyT_take' (i := 5) (some 15) (v := ?_) rfl rfl (by kernel_rfl) (by kernel_rfl) (by kernel_rfl) (by decide) (fun _ _ _ h => h) (Or.inl ⟨by rfl, ?_⟩) (fun _ => trivial) hT1 ?_
        rotate_left
        · (intro w hSw; (try dsimp only at hSw); go_simp); try with_reducible rfl
        try simp only [Act.put, List.setIfInBounds_toArray, List.set_cons_zero, List.set_cons_succ]
        refine wpAnyT_take' (i := 6) (some 16) (v := ?_) rfl rfl (by kernel_rfl) (by kernel_rfl) (by kernel_rfl) (by decide) (fun _ _ _ h => h) (Or.inl ⟨by rfl, ?_⟩) (fun _ => trivial) hT1 ?_
        rotate_left
        · (intro w hSw; (try dsimp only at hSw); go_simp); try with_reducible rfl
        try simp only [Act.put, List.setIfInBounds_toArray, List.set_cons_zero, List.set_cons_succ]
        refine wpAnyT_take' (i := 7) (some 17) (v := ?_) rfl rfl (by kernel_rfl) (by kernel_rfl) (by kernel_rfl) (by decide) (fun _ _ _ h => h) (Or.inl ⟨by rfl, ?_⟩) (fun _ => trivial) hT1 ?_
        rotate_left
        · (intro w hSw; (try dsimp only at hSw); go_simp); try with_reducible rfl
        try simp only [Act.put, List.setIfInBounds_toArray, List.set_cons_zero, List.set_cons_succ]
        refine wpAnyT_one (i := 8) (by kernel_rfl) rfl (fun K hK => ?_)
        go_simp
        refine (HN.out _ F1).mono ?_
        rintro e w2 ⟨v2, rfl, E2, x1, m1, y1, x2, m2, y2, rfl, hx, hy⟩
        try simp only []
        have hT2 : w2.cell? ⟨nb, 0, none⟩ = some (.int .u8 1) ∧ w2.cell? ⟨nb, 1, none⟩ = some (.int .i64 a) ∧ w2.cell? ⟨nb, 2, none⟩ = some (.int .i64 b) ∧ w2.cell? ⟨nb, 3, none⟩ = some (.bool neg) ∧ w2.cell? ⟨nb, 4, none⟩ = some (.slice a1 n1 c1) ∧ w2.cell? ⟨nb, 5, none⟩ = some (.slice a2 n2 c2) := ⟨E2.cell (E1.cell z0), E2.cell (E1.cell z1), E2.cell (E1.cell z2), E2.cell (E1.cell z3), E2.cell (E1.cell z4), E2.cell (E1.cell z5)⟩
        have F2 := F1.trans E2
        refine hK _ _ (fun _ => trivial) hT2 ?_
        clear hK K
        try simp only [Act.put, List.setIfInBounds_toArray, List.set_cons_zero, List.set_cons_succ]
        refine wpAnyT_one (i := 9) (by kernel_rfl) rfl (fun K hK => ?_)
        go_simp
        refine (HS.out _ _ _ _ _ _ _ F2 hx hy).mono ?_
        rintro e w3 ⟨_, rfl, E3, rfl⟩
        try simp only []
        have hT3 : w3.cell? ⟨nb, 0, none⟩ = some (.int .u8 1) ∧ w3.cell? ⟨nb, 1, none⟩ = some (.int .i64 a) ∧ w3.cell? ⟨nb, 2, none⟩ = some (.int .i64 b) ∧ w3.cell? ⟨nb, 3, none⟩ = some (.bool neg) ∧ w3.cell? ⟨nb, 4, none⟩ = some (.slice a1 n1 c1) ∧ w3.cell? ⟨nb, 5, none⟩ = some (.slice a2 n2 c2) := ⟨E3.cell (E2.cell (E1.cell z0)), E3.cell (E2.cell (E1.cell z1)), E3.cell (E2.cell (E1.cell z2)), E3.cell (E2.cell (E1.cell z3)), E3.cell (E2.cell (E1.cell z4)), E3.cell (E2.cell (E1.cell z5))⟩
        have F3 := F2.trans E3
        refine hK _ _ (fun _ => trivial) hT3 ?_
        clear hK K
        try simp only [Act.put, List.setIfInBounds_toArray, List.set_cons_zero, List.set_cons_succ]
        refine wpAnyT_take' (i := 10) (some 20) (v := ?_) rfl rfl (by kernel_rfl) (by kernel_rfl) (by kernel_rfl) (by decide) (fun _ _ _ h => h) (Or.inl ⟨by rfl, ?_⟩) (fun _ => trivial) hT3 ?_
        rotate_left
        · (intro w hSw; (try dsimp only at hSw); go_simp); try with_reducible rfl
        try simp only [Act.put, List.setIfInBounds_toArray, List.set_cons_zero, List.set_cons_succ]
        refine wpAnyT_take' (i := 11) (some 21) (v := ?_) rfl rfl (by kernel_rfl) (by kernel_rfl) (by kernel_rfl) (by decide) (fun _ _ _ h => h) (Or.inl ⟨by rfl, ?_⟩) (fun _ => trivial) hT3 ?_
        rotate_left
        · (intro w hSw; (try dsimp only at hSw); go_simp); try with_reducible rfl
        try simp only [Act.put, List.setIfInBounds_toArray, List.set_cons_zero, List.set_cons_succ]
        refine wpAnyT_take' (i := 12) (some 22) (v := ?_) rfl rfl (by kernel_rfl) (by kernel_rfl) (by kernel_rfl) (by decide) (fun _ _ _ h => h) (Or.inl ⟨by rfl, ?_⟩) (fun _ => trivial) hT3 ?_
        rotate_left
        · (intro w hSw; (try dsimp only at hSw); go_simp); try with_reducible rfl
        try simp only [Act.put, List.setIfInBounds_toArray, List.set_cons_zero, List.set_cons_succ]
        refine wpAnyT_take' (i := 13) (some 23) (v := ?_) rfl rfl (by kernel_rfl) (by kernel_rfl) (by kernel_rfl) (by decide) (fun _ _ _ h => h) (Or.inl ⟨by rfl, ?_⟩) (fun _ => trivial) hT3 ?_
        rotate_left
        · (intro w hSw; (try dsimp only at hSw); go_simp); try with_reducible rfl
        try simp only [Act.put, List.setIfInBounds_toArray, List.set_cons_zero, List.set_cons_succ]
        refine wpAnyT_take' (i := 14) (some 24) (v := ?_) rfl rfl (by kernel_rfl) (by kernel_rfl) (by kernel_rfl) (by decide) (fun _ _ _ h => h) (Or.inl ⟨by rfl, ?_⟩) (fun _ => trivial) hT3 ?_
        rotate_left
        · (intro w hSw; (try dsimp only at hSw); go_simp); try with_reducible rfl
        try simp only [Act.put, List.setIfInBounds_toArray, List.set_cons_zero, List.set_cons_succ]
        refine wpAnyT_take' (i := 15) (some 25) (v := ?_) rfl rfl (by kernel_rfl) (by kernel_rfl) (by kernel_rfl) (by decide) (fun _ _ _ h => h) (Or.inl ⟨by rfl, ?_⟩) (fun _ => trivial) hT3 ?_
        rotate_left
        · (intro w hSw; (try dsimp only at hSw); go_simp); try with_reducible rfl
        try simp only [Act.put, List.setIfInBounds_toArray, List.set_cons_zero, List.set_cons_succ]
        refine wpAnyT_take' (i := 16) (some 26) (v := ?_) rfl rfl (by kernel_rfl) (by kernel_rfl) (by kernel_rfl) (by decide) (fun _ _ _ h => h) (Or.inl ⟨by rfl, ?_⟩) (fun _ => trivial) hT3 ?_
        rotate_left
        · (intro w hSw; (try dsimp only at hSw); go_simp); try with_reducible rfl
        try simp only [Act.put, List.setIfInBounds_toArray, List.set_cons_zero, List.set_cons_succ]
        refine wpAnyT_take' (i := 17) (some 27) (v := undef) rfl rfl (by kernel_rfl) (by kernel_rfl) (by kernel_rfl) (by decide) (fun _ _ _ h => h) (Or.inr ⟨by rfl, rfl⟩) (fun _ => trivial) hT3 ?_
        try simp only [Act.put, List.setIfInBounds_toArray, List.set_cons_zero, List.set_cons_succ]
        refine wpAnyT_take' (i := 18) (some 28) (v := undef) rfl rfl (by kernel_rfl) (by kernel_rfl) (by kernel_rfl) (by decide) (fun _ _ _ h => h) (Or.inr ⟨by rfl, rfl⟩) (fun _ => trivial) hT3 ?_
        try simp only [Act.put, List.setIfInBounds_toArray, List.set_cons_zero, List.set_cons_succ]
        refine wpAnyT_take' (i := 19) (some 29) (v := undef) rfl rfl (by kernel_rfl) (by kernel_rfl) (by kernel_rfl) (by decide) (fun _ _ _ h => h) (Or.inr ⟨by rfl, rfl⟩) (fun _ => trivial) hT3 ?_
        try simp only [Act.put, List.setIfInBounds_toArray, List.set_cons_zero, List.set_cons_succ]
        refine wpAnyT_take' (i := 20) (some 30) (v := ?_) rfl rfl (by kernel_rfl) (by kernel_rfl) (by kernel_rfl) (by decide) (fun _ _ _ h => h) (Or.inl ⟨by rfl, ?_⟩) (fun _ => trivial) hT3 ?_
        rotate_left
        · (intro w hSw; (try dsimp only at hSw); go_simp); try with_reducible rfl
        try simp only [Act.put, List.setIfInBounds_toArray, List.set_cons_zero, List.set_cons_succ]
        refine wpAnyT_take' (i := 21) (some 6) (v := ?_) rfl rfl (by kernel_rfl) (by kernel_rfl) (by kernel_rfl) (by decide) (fun _ _ _ h => h) (Or.inl ⟨by rfl, ?_⟩) (fun _ => trivial) hT3 ?_
        rotate_left
        · (intro w hSw; (try dsimp only at hSw); go_simp); try with_reducible rfl
        try simp only [Act.put, List.setIfInBounds_toArray, List.set_cons_zero, List.set_cons_succ]
        refine wpAnyT_done (by kernel_rfl) ?_ _
        try simp only [Act.put, List.setIfInBounds_toArray, List.set_cons_zero, List.set_cons_succ]
        clear hT0 HM HN HS
        go_wp2
        go_ret
        exact Post.mk F3 rfl

set_option maxRecDepth 100000 in
set_option maxHeartbeats 8000000 in
theorem rright_else (op : Nat) (a b : Int) (neg : Bool) (xs ys : List Nat) (a1 a2 : Option Addr) (n1 c1 n2 c2 : Nat) (lim pars : Int) (w : World) (hop : op < 256) (h1 : xs.length = n1) (h2 : ys.length = n2) (b1 : n1 ≤ 2048) (b2 : n2 ≤ 2048) (h0 : op ≠ 1) :
    Calls Tryz.prog 43 #[.agg #[.int .u8 op, .int .i64 a, .int .i64 b, .bool neg, .slice a1 n1 c1, .slice a2 n2 c2], .int .i64 lim, .int .i64 pars] w (Post w fun v _ => v = .bool (rightP ⟨op, a, b, neg, xs, ys⟩ lim pars)) := by
  have HN := Lib.hid (fun W => rnone_any ⟨op, a, b, neg, xs, ys⟩ neg a1 a2 n1 c1 n2 c2 W rfl h1 h2 (by omega) (by omega))
  have HT := Lib.hid (fun W => rtwo_any op hop W)
  have HO := Lib.hid (fun W => rone_any op hop W)
  have f1 : fieldsN op ≠ 1 := by
    intro e
    unfold fieldsN at e
    (repeat' split at e) <;> omega
  have f2 : fieldsN op = 2 ↔ op = 2 := by
    constructor
    · intro e
      unfold fieldsN at e
      (repeat' split at e) <;> omega
    · intro e; subst e; decide
  obtain ⟨q, hq⟩ : ∃ q, q = noneC ⟨op, a, b, neg, xs, ys⟩ := ⟨_, rfl⟩
  rw [← hq] at HN
  obtain ⟨r, hr⟩ : ∃ r, r = rightP ⟨op, a, b, neg, xs, ys⟩ lim pars := ⟨_, rfl⟩
  rw [← hr]
  unfold rightP at hr
  rw [if_neg f1, ← hq] at hr
  simp only at hr
  have h0' : ¬ (((op : Nat) : Int) = 1) := by omega
  have h0b : (((op : Nat) : Int) == 1) = false := by simp; omega
  clear hq h1 h2 h0 hop
  cases q
  · have e0 : r = false := by rw [hr]; (repeat' split) <;> rfl
    subst e0
    clear hr f1 f2 HT HO
    go_enter Tryz.func43, Tryz.ntmps43
    go_wp2_with fail
    refine (HN.out _).mono ?_
    rintro e w1 ⟨_, rfl, E1, rfl⟩
    go_wp2
    go_ret
    exact Post.mk ((Ext.of_alloc _ _).trans E1) rfl
  by_cases k2 : op = 2
  · rw [if_pos (f2.2 k2)] at hr
    subst k2
    clear f1 f2 HT HO
    by_cases c1 : 0 ≤ a
    · by_cases c2 : a < pars
      · by_cases c3 : b = 0
        · have c3b : (b == 0) = true := by simp [c3]
          have e0 : r = true := by rw [hr]; simp [ahead]; omega
          subst e0
          clear hr
          go_enter Tryz.func43, Tryz.ntmps43
          go_wp2_with fail
          refine (HN.out _).mono ?_
          rintro e w1 ⟨_, rfl, E1, rfl⟩
          obtain ⟨hc, hf⟩ := E1.look
          have hz := E1.size
          simp at hz
          go_wp2
          go_ret
          exact Post.mk ((Ext.of_alloc _ _).trans E1) (by first | rfl | exact congrArg Value.bool (decide_eq_false (by omega)) | exact congrArg Value.bool (decide_eq_true (by omega)))
        · have e0 : r = false := by rw [hr]; simp [ahead]; omega
          have c3b : (b == 0) = false := by simp [c3]
          subst e0
          clear hr
          go_enter Tryz.func43, Tryz.ntmps43
          go_wp2_with fail
          refine (HN.out _).mono ?_
          rintro e w1 ⟨_, rfl, E1, rfl⟩
          obtain ⟨hc, hf⟩ := E1.look
          have hz := E1.size
          simp at hz
          go_wp2
          go_ret
          exact Post.mk ((Ext.of_alloc _ _).trans E1) (by first | rfl | exact congrArg Value.bool (decide_eq_false (by omega)) | exact congrArg Value.bool (decide_eq_true (by omega)))
      · have e0 : r = false := by rw [hr]; simp [ahead]; omega
        subst e0
        clear hr
        go_enter Tryz.func43, Tryz.ntmps43
        go_wp2_with fail
        refine (HN.out _).mono ?_
        rintro e w1 ⟨_, rfl, E1, rfl⟩
        obtain ⟨hc, hf⟩ := E1.look
        have hz := E1.size
        simp at hz
        go_wp2
        go_ret
        exact Post.mk ((Ext.of_alloc _ _).trans E1) (by first | rfl | exact congrArg Value.bool (decide_eq_false (by omega)) | exact congrArg Value.bool (decide_eq_true (by omega)))
    · have e0 : r = false := by rw [hr]; simp [ahead]; omega
      subst e0
      clear hr
      go_enter Tryz.func43, Tryz.ntmps43
      go_wp2_with fail
      refine (HN.out _).mono ?_
      rintro e w1 ⟨_, rfl, E1, rfl⟩
      obtain ⟨hc, hf⟩ := E1.look
      have hz := E1.size
      simp at hz
      go_wp2
      go_ret
      exact Post.mk ((Ext.of_alloc _ _).trans E1) (by first | rfl | exact congrArg Value.bool (decide_eq_false (by omega)) | exact congrArg Value.bool (decide_eq_true (by omega)))
  have k2' : ¬ (((op : Nat) : Int) = 2) := by omega
  have k2b : (((op : Nat) : Int) == 2) = false := by simp; omega
  rw [if_neg (fun e => k2 (f2.1 e))] at hr
  by_cases k3 : fieldsN op = 3
  · rw [if_pos k3] at hr
    rw [decide_eq_true k3] at HT
    clear f1 f2 HO k2 k3
    by_cases c1 : 0 ≤ a
    · by_cases c2 : a < lim
      · by_cases c3 : 0 ≤ b
        · by_cases c4 : b < lim
          · have e0 : r = true := by rw [hr]; simp [ahead]; omega
            subst e0
            clear hr
            go_enter Tryz.func43, Tryz.ntmps43
            go_wp2_with fail
            refine (HN.out _).mono ?_
            rintro e w1 ⟨_, rfl, E1, rfl⟩
            obtain ⟨hc, hf⟩ := E1.look
            have hz := E1.size
            simp at hz
            go_wp2_with fail
            refine (HT.out _).mono ?_
            rintro e w2 ⟨_, rfl, E2, rfl⟩
            have E12 := E1.trans E2
            clear hc hf
            obtain ⟨hc, hf⟩ := E12.look
            go_wp2
            go_ret
            exact Post.mk ((Ext.of_alloc _ _).trans E12) (by first | rfl | exact congrArg Value.bool (decide_eq_false (by omega)) | exact congrArg Value.bool (decide_eq_true (by omega)))
          · have e0 : r = false := by rw [hr]; simp [ahead]; omega
            subst e0
            clear hr
            go_enter Tryz.func43, Tryz.ntmps43
            go_wp2_with fail
            refine (HN.out _).mono ?_
            rintro e w1 ⟨_, rfl, E1, rfl⟩
            obtain ⟨hc, hf⟩ := E1.look
            have hz := E1.size
            simp at hz
            go_wp2_with fail
            refine (HT.out _).mono ?_
            rintro e w2 ⟨_, rfl, E2, rfl⟩
            have E12 := E1.trans E2
            clear hc hf
            obtain ⟨hc, hf⟩ := E12.look
            go_wp2
            go_ret
            exact Post.mk ((Ext.of_alloc _ _).trans E12) (by first | rfl | exact congrArg Value.bool (decide_eq_false (by omega)) | exact congrArg Value.bool (decide_eq_true (by omega)))
        · have e0 : r = false := by rw [hr]; simp [ahead]; omega
          subst e0
          clear hr
          go_enter Tryz.func43, Tryz.ntmps43
          go_wp2_with fail
          refine (HN.out _).mono ?_
          rintro e w1 ⟨_, rfl, E1, rfl⟩
          obtain ⟨hc, hf⟩ := E1.look
          have hz := E1.size
          simp at hz
          go_wp2_with fail
          refine (HT.out _).mono ?_
          rintro e w2 ⟨_, rfl, E2, rfl⟩
          have E12 := E1.trans E2
          clear hc hf
          obtain ⟨hc, hf⟩ := E12.look
          go_wp2
          go_ret
          exact Post.mk ((Ext.of_alloc _ _).trans E12) (by first | rfl | exact congrArg Value.bool (decide_eq_false (by omega)) | exact congrArg Value.bool (decide_eq_true (by omega)))
      · have e0 : r = false := by rw [hr]; simp [ahead]; omega
        subst e0
        clear hr
        go_enter Tryz.func43, Tryz.ntmps43
        go_wp2_with fail
        refine (HN.out _).mono ?_
        rintro e w1 ⟨_, rfl, E1, rfl⟩
        obtain ⟨hc, hf⟩ := E1.look
        have hz := E1.size
        simp at hz
        go_wp2_with fail
        refine (HT.out _).mono ?_
        rintro e w2 ⟨_, rfl, E2, rfl⟩
        have E12 := E1.trans E2
        clear hc hf
        obtain ⟨hc, hf⟩ := E12.look
        go_wp2
        go_ret
        exact Post.mk ((Ext.of_alloc _ _).trans E12) (by first | rfl | exact congrArg Value.bool (decide_eq_false (by omega)) | exact congrArg Value.bool (decide_eq_true (by omega)))
    · have e0 : r = false := by rw [hr]; simp [ahead]; omega
      subst e0
      clear hr
      go_enter Tryz.func43, Tryz.ntmps43
      go_wp2_with fail
      refine (HN.out _).mono ?_
      rintro e w1 ⟨_, rfl, E1, rfl⟩
      obtain ⟨hc, hf⟩ := E1.look
      have hz := E1.size
      simp at hz
      go_wp2_with fail
      refine (HT.out _).mono ?_
      rintro e w2 ⟨_, rfl, E2, rfl⟩
      have E12 := E1.trans E2
      clear hc hf
      obtain ⟨hc, hf⟩ := E12.look
      go_wp2
      go_ret
      exact Post.mk ((Ext.of_alloc _ _).trans E12) (by first | rfl | exact congrArg Value.bool (decide_eq_false (by omega)) | exact congrArg Value.bool (decide_eq_true (by omega)))
  rw [if_neg k3] at hr
  rw [decide_eq_false k3] at HT
  by_cases k4 : fieldsN op = 4
  · rw [if_pos k4] at hr
    rw [decide_eq_true k4] at HO
    clear f1 f2 k2 k3 k4
    by_cases c1 : 0 ≤ a
    · by_cases c2 : a < lim
      · by_cases c3 : b = 0
        · have c3b : (b == 0) = true := by simp [c3]
          have e0 : r = true := by rw [hr]; simp [ahead]; omega
          subst e0
          clear hr
          go_enter Tryz.func43, Tryz.ntmps43
          go_wp2_with fail
          refine (HN.out _).mono ?_
          rintro e w1 ⟨_, rfl, E1, rfl⟩
          obtain ⟨hc, hf⟩ := E1.look
          have hz := E1.size
          simp at hz
          go_wp2_with fail
          refine (HT.out _).mono ?_
          rintro e w2 ⟨_, rfl, E2, rfl⟩
          have E12 := E1.trans E2
          clear hc hf
          obtain ⟨hc, hf⟩ := E12.look
          go_wp2_with fail
          refine (HO.out _).mono ?_
          rintro e w3 ⟨_, rfl, E3, rfl⟩
          have E13 := E12.trans E3
          clear hc hf
          obtain ⟨hc, hf⟩ := E13.look
          go_wp2
          go_ret
          exact Post.mk ((Ext.of_alloc _ _).trans E13) (by first | rfl | exact congrArg Value.bool (decide_eq_false (by omega)) | exact congrArg Value.bool (decide_eq_true (by omega)))
        · have e0 : r = false := by rw [hr]; simp [ahead]; omega
          have c3b : (b == 0) = false := by simp [c3]
          subst e0
          clear hr
          go_enter Tryz.func43, Tryz.ntmps43
          go_wp2_with fail
          refine (HN.out _).mono ?_
          rintro e w1 ⟨_, rfl, E1, rfl⟩
          obtain ⟨hc, hf⟩ := E1.look
          have hz := E1.size
          simp at hz
          go_wp2_with fail
          refine (HT.out _).mono ?_
          rintro e w2 ⟨_, rfl, E2, rfl⟩
          have E12 := E1.trans E2
          clear hc hf
          obtain ⟨hc, hf⟩ := E12.look
          go_wp2_with fail
          refine (HO.out _).mono ?_
          rintro e w3 ⟨_, rfl, E3, rfl⟩
          have E13 := E12.trans E3
          clear hc hf
          obtain ⟨hc, hf⟩ := E13.look
          go_wp2
          go_ret
          exact Post.mk ((Ext.of_alloc _ _).trans E13) (by first | rfl | exact congrArg Value.bool (decide_eq_false (by omega)) | exact congrArg Value.bool (decide_eq_true (by omega)))
      · have e0 : r = false := by rw [hr]; simp [ahead]; omega
        subst e0
        clear hr
        go_enter Tryz.func43, Tryz.ntmps43
        go_wp2_with fail
        refine (HN.out _).mono ?_
        rintro e w1 ⟨_, rfl, E1, rfl⟩
        obtain ⟨hc, hf⟩ := E1.look
        have hz := E1.size
        simp at hz
        go_wp2_with fail
        refine (HT.out _).mono ?_
        rintro e w2 ⟨_, rfl, E2, rfl⟩
        have E12 := E1.trans E2
        clear hc hf
        obtain ⟨hc, hf⟩ := E12.look
        go_wp2_with fail
        refine (HO.out _).mono ?_
        rintro e w3 ⟨_, rfl, E3, rfl⟩
        have E13 := E12.trans E3
        clear hc hf
        obtain ⟨hc, hf⟩ := E13.look
        go_wp2
        go_ret
        exact Post.mk ((Ext.of_alloc _ _).trans E13) (by first | rfl | exact congrArg Value.bool (decide_eq_false (by omega)) | exact congrArg Value.bool (decide_eq_true (by omega)))
    · have e0 : r = false := by rw [hr]; simp [ahead]; omega
      subst e0
      clear hr
      go_enter Tryz.func43, Tryz.ntmps43
      go_wp2_with fail
      refine (HN.out _).mono ?_
      rintro e w1 ⟨_, rfl, E1, rfl⟩
      obtain ⟨hc, hf⟩ := E1.look
      have hz := E1.size
      simp at hz
      go_wp2_with fail
      refine (HT.out _).mono ?_
      rintro e w2 ⟨_, rfl, E2, rfl⟩
      have E12 := E1.trans E2
      clear hc hf
      obtain ⟨hc, hf⟩ := E12.look
      go_wp2_with fail
      refine (HO.out _).mono ?_
      rintro e w3 ⟨_, rfl, E3, rfl⟩
      have E13 := E12.trans E3
      clear hc hf
      obtain ⟨hc, hf⟩ := E13.look
      go_wp2
      go_ret
      exact Post.mk ((Ext.of_alloc _ _).trans E13) (by first | rfl | exact congrArg Value.bool (decide_eq_false (by omega)) | exact congrArg Value.bool (decide_eq_true (by omega)))
  rw [if_neg k4] at hr
  rw [decide_eq_false k4] at HO
  subst hr
  clear f1 f2 k2 k3 k4
  go_enter Tryz.func43, Tryz.ntmps43
  go_wp2_with fail
  refine (HN.out _).mono ?_
  rintro e w1 ⟨_, rfl, E1, rfl⟩
  obtain ⟨hc, hf⟩ := E1.look
  have hz := E1.size
  simp at hz
  go_wp2_with fail
  refine (HT.out _).mono ?_
  rintro e w2 ⟨_, rfl, E2, rfl⟩
  have E12 := E1.trans E2
  clear hc hf
  obtain ⟨hc, hf⟩ := E12.look
  go_wp2_with fail
  refine (HO.out _).mono ?_
  rintro e w3 ⟨_, rfl, E3, rfl⟩
  go_wp2
  go_ret
  exact Post.mk ((Ext.of_alloc _ _).trans (E12.trans E3)) rfl
theorem rright_any (v : Value) (s : Step) (lim pars : Int) (w : World) (hs : IsStep w v s) (s1 : Sm 2040 (val s.xs)) (s2 : Sm 2040 (val s.ys)) :
    Calls Tryz.prog 43 #[v, .int .i64 lim, .int .i64 pars] w (Post w fun v _ => v = .bool (rightP s lim pars)) := by
  obtain ⟨a1, n1, c1, a2, n2, c2, rfl, h1, h2, hop, b1, b2⟩ := hs
  obtain ⟨op, a, b, neg, xs, ys⟩ := s
  simp only at *
  by_cases h0 : op = 1
  · subst h0
    exact rright_num a b neg xs ys a1 a2 n1 c1 n2 c2 lim pars w h1 h2 b1 b2 s1 s2
  · exact rright_else op a b neg xs ys a1 a2 n1 c1 n2 c2 lim pars w hop h1.len h2.len b1 b2 h0
end Go.Proofs.YtbncdghbnnefdaaGreat
