/- Parts of the proof: contracts of the functions that the law reaches, and the arithmetic that they rest on; no condition beyond those that each theorem states. -/
import Derived.Test.YtgihjgkpmochcaaM9
import Derived.Test.YtgihjgkpmochcaaM10
import Derived.Test.YtgihjgkpmochcaaM24
import Derived.Test.YtgihjgkpmochcaaM25

namespace Go.Proofs.Ytgihjgkpmochcaa
open Go.RowKit

theorem bmustI_ok (x : Int) (w : World) : Calls Try.prog 47 #[.int .i64 x, .int .i64 0] w fun e w' => e = .returned (.int .i64 x) ∧ w = w' := by
  go_enter Try.func47, Try.ntmps47
  go_wp2
  go_ret
  exact ⟨rfl, rfl⟩
theorem bmustN_ok (a : Option Addr) (n c : Nat) (w : World) : Calls Try.prog 51 #[.slice a n c, .int .i64 0] w fun e w' => e = .returned (.slice a n c) ∧ w = w' := by
  go_enter Try.func51, Try.ntmps51
  go_wp2
  go_ret
  exact ⟨rfl, rfl⟩
theorem bmustF_ok (g : Bool) (a1 a2 : Option Addr) (n1 c1 n2 c2 : Nat) (w : World) :
    Calls Try.prog 50 #[.agg #[.bool g, .slice a1 n1 c1, .slice a2 n2 c2], .int .i64 0] w (Post w fun v _ => v = .agg #[.bool g, .slice a1 n1 c1, .slice a2 n2 c2]) := by
  go_enter Try.func50, Try.ntmps50
  go_wp2
  exact bodyPost_ret (v := .agg #[.bool g, .slice a1 n1 c1, .slice a2 n2 c2]) (by simp [results, Try.results50, go_sem]) rfl (Post.mk (by repeat (first | with_reducible exact Ext.refl _ | with_reducible assumption | (with_reducible refine Ext.alloc ?_ _) | (with_reducible refine Ext.drew ?_) | (with_reducible refine Ext.drewN ?_ _) | (with_reducible refine Ext.set ?_ (by first | (simp; done) | (simp; omega)) _) | (with_reducible refine Ext.trans ?_ (by with_reducible assumption)))) rfl)

set_option maxHeartbeats 1000000 in
theorem zmul_pos (a1 a2 : Option Addr) (n1 c1 n2 c2 m1 m2 : Nat) (w : World) (h1 : IsN w (.slice a1 n1 c1) m1) (h2 : IsN w (.slice a2 n2 c2) m2) (t1 : m1 < Top) (t2 : m2 < Top) (ht : m1 * m2 < Top) :
    Calls Try.prog 86 #[.agg #[.bool false, .slice a1 n1 c1], .agg #[.bool false, .slice a2 n2 c2]] w (Post w fun v w' => ZOk w' v false (m1 * m2)) := by
  obtain ⟨m, hm⟩ : ∃ m, m1 * m2 = m := ⟨_, rfl⟩
  rw [hm] at ht ⊢
  have Hm := Lib.hid hm
  clear hm
  go_enter Try.func86, Try.ntmps86
  go_wp2_with fail
  refine (mul_ok (h1.ext (by repeat (first | with_reducible exact Ext.refl _ | with_reducible assumption | (with_reducible refine Ext.alloc ?_ _) | (with_reducible refine Ext.drew ?_) | (with_reducible refine Ext.drewN ?_ _) | (with_reducible refine Ext.set ?_ (by first | (simp; done) | (simp; omega)) _) | (with_reducible refine Ext.trans ?_ (by with_reducible assumption))))) (h2.ext (by repeat (first | with_reducible exact Ext.refl _ | with_reducible assumption | (with_reducible refine Ext.alloc ?_ _) | (with_reducible refine Ext.drew ?_) | (with_reducible refine Ext.drewN ?_ _) | (with_reducible refine Ext.set ?_ (by first | (simp; done) | (simp; omega)) _) | (with_reducible refine Ext.trans ?_ (by with_reducible assumption))))) t1 t2 (by rw [Hm.out]; exact ht)).mono ?_
  rintro e w1 ⟨_, rfl, E1, x, rfl, hx⟩
  rw [Hm.out] at hx
  obtain ⟨a3, n3, c3, rfl⟩ := hx.sl
  obtain ⟨hc, hf⟩ := E1.look
  have hz := E1.size
  simp at hz
  go_wp2_with fail
  refine (ztold_ok false a3 n3 c3 m _ hx.is ht).mono ?_
  rintro e w2 ⟨_, rfl, E2, _, rfl, a4, n4, c4, rfl, hy, hs⟩
  have e1 : sg false m = false := rfl
  rw [e1]
  have F := E1.trans E2
  clear hc hf hz
  obtain ⟨hc, hf⟩ := F.look
  have hz := F.size
  simp at hz
  clear F
  go_wp2
  exact bodyPost_ret (v := .tuple #[.agg #[.bool false, .slice a4 n4 c4], .int .i64 0]) (by simp [results, Try.results86, go_sem, hc]) rfl (Post.mk (by repeat (first | with_reducible exact Ext.refl _ | with_reducible assumption | (with_reducible refine Ext.alloc ?_ _) | (with_reducible refine Ext.drew ?_) | (with_reducible refine Ext.drewN ?_ _) | (with_reducible refine Ext.set ?_ (by first | (simp; done) | (simp; omega)) _) | (with_reducible refine Ext.trans ?_ (by with_reducible assumption)))) ⟨_, rfl, a4, n4, c4, rfl, hy.keep (by repeat (first | with_reducible exact Keeps.refl _ | with_reducible assumption | (with_reducible refine Keeps.alloc ?_ _) | (with_reducible refine Keeps.drew ?_) | (with_reducible refine Keeps.drewN ?_ _) | (with_reducible refine Keeps.set ?_ (by simp [go_sem, isU, *]) _) | (with_reducible refine Keeps.trans ?_ (Ext.keeps (by with_reducible assumption))) | (with_reducible refine Keeps.trans ?_ (by with_reducible assumption)))), fun h => by cases h⟩)

theorem fsign_pos (a1 a2 : Option Addr) (n1 c1 n2 c2 n d : Nat) (w : World) (h1 : IsN w (.slice a1 n1 c1) n) (h2 : IsN w (.slice a2 n2 c2) d) (t1 : n < Top) (t2 : d < Top) (hd : d ≠ 0) (hn : n ≠ 0) :
    Calls Try.prog 49 #[.agg #[.bool false, .slice a1 n1 c1, .slice a2 n2 c2]] w (Post w fun v _ => v = .int .i64 1) := by
  have Hd := Lib.hid (And.intro hd hn)
  clear hd hn
  go_enter Try.func49, Try.ntmps49
  go_wp2_with fail
  refine (fnorm_ok false a1 a2 n1 c1 n2 c2 n d _ (h1.ext (by repeat (first | with_reducible exact Ext.refl _ | with_reducible assumption | (with_reducible refine Ext.alloc ?_ _) | (with_reducible refine Ext.drew ?_) | (with_reducible refine Ext.drewN ?_ _) | (with_reducible refine Ext.set ?_ (by first | (simp; done) | (simp; omega)) _) | (with_reducible refine Ext.trans ?_ (by with_reducible assumption))))) (h2.ext (by repeat (first | with_reducible exact Ext.refl _ | with_reducible assumption | (with_reducible refine Ext.alloc ?_ _) | (with_reducible refine Ext.drew ?_) | (with_reducible refine Ext.drewN ?_ _) | (with_reducible refine Ext.set ?_ (by first | (simp; done) | (simp; omega)) _) | (with_reducible refine Ext.trans ?_ (by with_reducible assumption))))) t1 t2 Hd.out.1).mono ?_
  rintro e w1 ⟨_, rfl, E1, _, rfl, a3, n3, c3, a4, n4, c4, rfl, hu, hv⟩
  obtain ⟨hc, hf⟩ := E1.looka
  have hz := E1.size
  simp at hz
  obtain ⟨b, hb⟩ : ∃ b, b = sg false (n / Nat.gcd n d) := ⟨_, rfl⟩
  rw [← hb]
  clear hb hu hv
  go_wp2_with fail
  refine (zsign_any false a1 n1 c1 n _ (h1.ext (by repeat (first | with_reducible exact Ext.refl _ | with_reducible assumption | (with_reducible refine Ext.alloc ?_ _) | (with_reducible refine Ext.drew ?_) | (with_reducible refine Ext.drewN ?_ _) | (with_reducible refine Ext.set ?_ (by first | (simp; done) | (simp; omega)) _) | (with_reducible refine Ext.trans ?_ (by with_reducible assumption)))))).mono ?_
  rintro e w2 ⟨_, rfl, E2, rfl⟩
  have e1 : sign false n = 1 := by unfold sign; rw [if_neg Hd.out.2]; rfl
  rw [e1]
  clear e1
  go_wp2
  go_ret
  exact Post.mk (by repeat (first | with_reducible exact Ext.refl _ | with_reducible assumption | (with_reducible refine Ext.alloc ?_ _) | (with_reducible refine Ext.drew ?_) | (with_reducible refine Ext.drewN ?_ _) | (with_reducible refine Ext.set ?_ (by first | (simp; done) | (simp; omega)) _) | (with_reducible refine Ext.trans ?_ (by with_reducible assumption)))) rfl
theorem bmay_ok (g : Bool) (a1 a2 : Option Addr) (n1 c1 n2 c2 n d : Nat) (w : World) (h1 : IsN w (.slice a1 n1 c1) n) (h2 : IsN w (.slice a2 n2 c2) d) (t1 : n < Top) (t2 : d < Top) (hd : d ≠ 0) :
    Calls Try.prog 29 #[.agg #[.bool g, .slice a1 n1 c1, .slice a2 n2 c2]] w (Post w fun v _ => v = .bool true) := by
  have Hd := Lib.hid hd
  clear hd
  go_enter Try.func29, Try.ntmps29
  go_wp2_with fail
  refine (fnorm_ok g a1 a2 n1 c1 n2 c2 n d _ (h1.ext (by repeat (first | with_reducible exact Ext.refl _ | with_reducible assumption | (with_reducible refine Ext.alloc ?_ _) | (with_reducible refine Ext.drew ?_) | (with_reducible refine Ext.drewN ?_ _) | (with_reducible refine Ext.set ?_ (by first | (simp; done) | (simp; omega)) _) | (with_reducible refine Ext.trans ?_ (by with_reducible assumption))))) (h2.ext (by repeat (first | with_reducible exact Ext.refl _ | with_reducible assumption | (with_reducible refine Ext.alloc ?_ _) | (with_reducible refine Ext.drew ?_) | (with_reducible refine Ext.drewN ?_ _) | (with_reducible refine Ext.set ?_ (by first | (simp; done) | (simp; omega)) _) | (with_reducible refine Ext.trans ?_ (by with_reducible assumption))))) t1 t2 Hd.out).mono ?_
  rintro e w1 ⟨_, rfl, E1, _, rfl, a3, n3, c3, a4, n4, c4, rfl, hu, hv⟩
  obtain ⟨b, hb⟩ : ∃ b, b = sg g (n / Nat.gcd n d) := ⟨_, rfl⟩
  rw [← hb]
  clear hb hu hv
  go_wp2
  go_ret
  exact Post.mk (by repeat (first | with_reducible exact Ext.refl _ | with_reducible assumption | (with_reducible refine Ext.alloc ?_ _) | (with_reducible refine Ext.drew ?_) | (with_reducible refine Ext.drewN ?_ _) | (with_reducible refine Ext.set ?_ (by first | (simp; done) | (simp; omega)) _) | (with_reducible refine Ext.trans ?_ (by with_reducible assumption)))) rfl

set_option maxHeartbeats 1000000 in
theorem ratio_ok (n d : Nat) (hn : n < 9223372036854775808) (hd : d < 9223372036854775808) (h0 : d ≠ 0) (w : World) :
    Calls Try.prog 15 #[.int .i64 n, .int .i64 d] w (Post w fun v w' => FNum w' v false (n / Nat.gcd n d) (d / Nat.gcd n d)) := by
  have H0 := Lib.hid (And.intro h0 (And.intro hn hd))
  clear h0 hn hd
  go_enter Try.func15, Try.ntmps15
  go_wp2_with fail
  refine (zof_any n H0.out.2.1 _).mono ?_
  rintro e w1 ⟨_, rfl, E1, a1, n1, c1, rfl, hx, _⟩
  go_wp2_with fail
  refine (zof_any d H0.out.2.2 _).mono ?_
  rintro e w2 ⟨_, rfl, E2, a2, n2, c2, rfl, hy, _⟩
  go_wp2_with fail
  refine (make_ok false false a1 a2 n1 c1 n2 c2 n d _ (hx.is.ext E2) hy.is hx.lt hy.lt H0.out.1).mono ?_
  rintro e w3 ⟨_, rfl, E3, _, rfl, a3, n3, c3, a4, n4, c4, rfl, hu, hv⟩
  have e1 : sg (false != false) (n / Nat.gcd n d) = false := rfl
  rw [e1]
  have F := E1.trans (E2.trans E3)
  obtain ⟨hc, hf⟩ := F.looka
  have hz := F.size
  simp at hz
  clear F
  go_wp2
  exact bodyPost_ret (v := .agg #[.bool false, .slice a3 n3 c3, .slice a4 n4 c4]) (by simp [results, Try.results15, go_sem, hc]) rfl (Post.mk (by repeat (first | with_reducible exact Ext.refl _ | with_reducible assumption | (with_reducible refine Ext.alloc ?_ _) | (with_reducible refine Ext.drew ?_) | (with_reducible refine Ext.drewN ?_ _) | (with_reducible refine Ext.set ?_ (by first | (simp; done) | (simp; omega)) _) | (with_reducible refine Ext.trans ?_ (by with_reducible assumption)))) ⟨a3, n3, c3, a4, n4, c4, rfl, hu.keep (by repeat (first | with_reducible exact Keeps.refl _ | with_reducible assumption | (with_reducible refine Keeps.alloc ?_ _) | (with_reducible refine Keeps.drew ?_) | (with_reducible refine Keeps.drewN ?_ _) | (with_reducible refine Keeps.set ?_ (by simp [go_sem, isU, *]) _) | (with_reducible refine Keeps.trans ?_ (Ext.keeps (by with_reducible assumption))) | (with_reducible refine Keeps.trans ?_ (by with_reducible assumption)))), hv.keep (by repeat (first | with_reducible exact Keeps.refl _ | with_reducible assumption | (with_reducible refine Keeps.alloc ?_ _) | (with_reducible refine Keeps.drew ?_) | (with_reducible refine Keeps.drewN ?_ _) | (with_reducible refine Keeps.set ?_ (by simp [go_sem, isU, *]) _) | (with_reducible refine Keeps.trans ?_ (Ext.keeps (by with_reducible assumption))) | (with_reducible refine Keeps.trans ?_ (by with_reducible assumption))))⟩)
end Go.Proofs.Ytgihjgkpmochcaa

namespace Go.Proofs.Ytgihjgkpmochcaa
open Go.RowKit

theorem fnums_pos {w : World} {v : Value} {m : Nat} (h : Num w v m) (h0 : m ≠ 0) : ∃ a n c, v = .slice a n c ∧ 1 ≤ n ∧ Hid (Num w v m) := by
  obtain ⟨t, a, n, c, e, k⟩ := h
  refine ⟨a, n, c, e, ?_, Lib.hid ⟨t, a, n, c, e, k⟩⟩
  have hl := k.len
  obtain ⟨xs, z, e2, _⟩ := limbs_last (n := m) h0
  rw [e2] at hl
  simp at hl
  omega

/-- Two rational numbers in a row. -/
structure FTwo (w : World) (b : Nat) (n1 d1 n2 d2 : Nat) : Prop where
  a : ∃ x1 y1 z1 x2 y2 z2, w.cell? ⟨b, 0, none⟩ = some (.bool false) ∧ w.cell? ⟨b, 1, none⟩ = some (.slice x1 y1 z1) ∧ w.cell? ⟨b, 2, none⟩ = some (.slice x2 y2 z2) ∧ IsN w (.slice x1 y1 z1) n1 ∧ IsN w (.slice x2 y2 z2) d1
  b : ∃ x1 y1 z1 x2 y2 z2, w.cell? ⟨b, 3, none⟩ = some (.bool false) ∧ w.cell? ⟨b, 4, none⟩ = some (.slice x1 y1 z1) ∧ w.cell? ⟨b, 5, none⟩ = some (.slice x2 y2 z2) ∧ IsN w (.slice x1 y1 z1) n2 ∧ IsN w (.slice x2 y2 z2) d2

set_option maxRecDepth 100000 in
set_option maxHeartbeats 4000000 in
theorem fmay_two {w : World} {b n1 d1 n2 d2 : Nat} (h : FTwo w b n1 d1 n2 d2) (t1 : n1 < Top) (t2 : d1 < Top) (t3 : n2 < Top) (t4 : d2 < Top) (z1 : d1 ≠ 0) (z2 : d2 ≠ 0) :
    Calls Try.prog 69 #[.slice (some ⟨b, 0, none⟩) 2 2] w fun e w' => e = .returned (.tuple #[]) ∧ Ext w w' := by
  have HT := Lib.hid (And.intro t1 (And.intro t2 (And.intro t3 t4)))
  have HZ := Lib.hid (And.intro z1 z2)
  clear t1 t2 t3 t4 z1 z2
  obtain ⟨⟨x1, y1, q1, x2, y2, q2, k0, k1, k2, i1, i2⟩, ⟨x3, y3, q3, x4, y4, q4, k3, k4, k5, i3, i4⟩⟩ := h
  have hb := World.block_lt_of_cell? w _ k0
  simp at hb
  go_enter Try.func69, Try.ntmps69
  go_wp2
  go_loopw [10] (fun kv wr => ∃ (k : Nat), kv = .int .i64 (k : Int) ∧ k ≤ 2 ∧ Ext w wr) (fun kv _ => 2 - (intOf kv).toNat)
  case atStart => exact ⟨0, rfl, by omega, Ext.refl _⟩
  case round =>
    obtain ⟨k, rfl, hk, hE⟩ := hrel
    have hk3 : k = 0 ∨ k = 1 ∨ k = 2 := by omega
    rcases hk3 with rfl | rfl | rfl
    · have c0 := hE.cell k0
      have c1 := hE.cell k1
      have c2 := hE.cell k2
      have j1 := i1.ext hE
      have j2 := i2.ext hE
      have HE := Lib.hid hE
      clear k0 k1 k2 k3 k4 k5 i1 i2 i3 i4 hE
      go_wp2_with fail
      refine (znorm_ok false x1 y1 q1 n1 _ (j1.ext (by repeat (first | with_reducible exact Ext.refl _ | with_reducible assumption | (with_reducible refine Ext.alloc ?_ _) | (with_reducible refine Ext.drew ?_) | (with_reducible refine Ext.drewN ?_ _) | (with_reducible refine Ext.set ?_ (by first | (simp; done) | (simp; omega)) _) | (with_reducible refine Ext.trans ?_ (by with_reducible assumption))))) HT.out.1).mono ?_
      rintro e w1 ⟨_, rfl, E1, _, rfl, a3, n3, c3, rfl, hx, hs⟩
      have d2 : ∀ O, (w1.alloc O).cell? ⟨wr.heap.size, 2, none⟩ = some (.slice x2 y2 q2) := fun O => (Ext.of_alloc w1 O).cell (E1.cell (by simp))
      have F1 := Lib.hid ((Ext.of_alloc wr _).trans E1)
      have hz1 := E1.size
      simp at hz1
      obtain ⟨g, hg⟩ : ∃ g, g = sg false n1 := ⟨_, rfl⟩
      rw [← hg]
      have j3 := Lib.hid (j2.ext F1.out)
      clear hg hx hs E1 j1 j2 c0 c1 c2
      go_wp2_with fail
      refine (norm_n (j3.out.ext (by repeat (first | with_reducible exact Ext.refl _ | with_reducible assumption | (with_reducible refine Ext.alloc ?_ _) | (with_reducible refine Ext.drew ?_) | (with_reducible refine Ext.drewN ?_ _) | (with_reducible refine Ext.set ?_ (by first | (simp; done) | (simp; omega)) _) | (with_reducible refine Ext.trans ?_ (by with_reducible assumption))))) HT.out.2.1).mono ?_
      rintro e w2 ⟨_, rfl, E2, y, rfl, hy⟩
      obtain ⟨a4, n4, c4, rfl, hn4, HX⟩ := fnums_pos hy HZ.out.1
      have hn0 : ¬ n4 = 0 := by omega
      have F2 := Lib.hid ((F1.out.alloc _).trans E2)
      clear hy hn4 E2
      go_wp2
      go_roundw
      case rel => exact ⟨1, rfl, by omega, HE.out.trans F2.out⟩
      case measure => simp [intOf]
    · have c0 := hE.cell k3
      have c1 := hE.cell k4
      have c2 := hE.cell k5
      have j1 := i3.ext hE
      have j2 := i4.ext hE
      have HE := Lib.hid hE
      clear k0 k1 k2 k3 k4 k5 i1 i2 i3 i4 hE
      go_wp2_with fail
      refine (znorm_ok false x3 y3 q3 n2 _ (j1.ext (by repeat (first | with_reducible exact Ext.refl _ | with_reducible assumption | (with_reducible refine Ext.alloc ?_ _) | (with_reducible refine Ext.drew ?_) | (with_reducible refine Ext.drewN ?_ _) | (with_reducible refine Ext.set ?_ (by first | (simp; done) | (simp; omega)) _) | (with_reducible refine Ext.trans ?_ (by with_reducible assumption))))) HT.out.2.2.1).mono ?_
      rintro e w1 ⟨_, rfl, E1, _, rfl, a3, n3, c3, rfl, hx, hs⟩
      have d2 : ∀ O, (w1.alloc O).cell? ⟨wr.heap.size, 2, none⟩ = some (.slice x4 y4 q4) := fun O => (Ext.of_alloc w1 O).cell (E1.cell (by simp))
      have F1 := Lib.hid ((Ext.of_alloc wr _).trans E1)
      have hz1 := E1.size
      simp at hz1
      obtain ⟨g, hg⟩ : ∃ g, g = sg false n2 := ⟨_, rfl⟩
      rw [← hg]
      have j3 := Lib.hid (j2.ext F1.out)
      clear hg hx hs E1 j1 j2 c0 c1 c2
      go_wp2_with fail
      refine (norm_n (j3.out.ext (by repeat (first | with_reducible exact Ext.refl _ | with_reducible assumption | (with_reducible refine Ext.alloc ?_ _) | (with_reducible refine Ext.drew ?_) | (with_reducible refine Ext.drewN ?_ _) | (with_reducible refine Ext.set ?_ (by first | (simp; done) | (simp; omega)) _) | (with_reducible refine Ext.trans ?_ (by with_reducible assumption))))) HT.out.2.2.2).mono ?_
      rintro e w2 ⟨_, rfl, E2, y, rfl, hy⟩
      obtain ⟨a4, n4, c4, rfl, hn4, HX⟩ := fnums_pos hy HZ.out.2
      have hn0 : ¬ n4 = 0 := by omega
      have F2 := Lib.hid ((F1.out.alloc _).trans E2)
      clear hy hn4 E2
      go_wp2
      go_roundw
      case rel => exact ⟨2, rfl, by omega, HE.out.trans F2.out⟩
      case measure => simp [intOf]
    · go_wp2
      go_end0
      exact ⟨rfl, hE⟩

/-- Two integers in a row, none below 0. -/
structure ZTwo (w : World) (b : Nat) (m1 m2 : Nat) : Prop where
  a : ∃ x1 y1 z1, w.cell? ⟨b, 0, none⟩ = some (.bool false) ∧ w.cell? ⟨b, 1, none⟩ = some (.slice x1 y1 z1) ∧ IsN w (.slice x1 y1 z1) m1
  b : ∃ x1 y1 z1, w.cell? ⟨b, 2, none⟩ = some (.bool false) ∧ w.cell? ⟨b, 3, none⟩ = some (.slice x1 y1 z1) ∧ IsN w (.slice x1 y1 z1) m2
/-- An integer in a box, not below 0. -/
def ZBox (w : World) (b m : Nat) : Prop := ∃ a n c, w.cell? ⟨b, 0, none⟩ = some (.bool false) ∧ w.cell? ⟨b, 1, none⟩ = some (.slice a n c) ∧ w.frozen? ⟨b, 0, none⟩ = false ∧ w.frozen? ⟨b, 1, none⟩ = false ∧ Num w (.slice a n c) m

theorem ZBox.ext {w w' : World} {b m : Nat} (h : ZBox w b m) (e : Ext w w') : ZBox w' b m := by
  obtain ⟨a, n, c, h1, h2, h3, h4, h5⟩ := h
  have hb := World.block_lt_of_cell? w _ h1
  simp at hb
  have hf := e.look.2
  exact ⟨a, n, c, e.cell h1, e.cell h2, (hf b 0 hb).trans h3, (hf b 1 hb).trans h4, h5.ext e⟩
theorem ZBox.set {w : World} {b m m' : Nat} {a : Option Addr} {n c : Nat} (h : ZBox w b m) (hN : Num w (.slice a n c) m') : ZBox ((w.setCell ⟨b, 0, none⟩ (.bool false)).setCell ⟨b, 1, none⟩ (.slice a n c)) b m' := by
  obtain ⟨a0, n0, c0, h1, h2, h3, h4, h5⟩ := h
  have hb := World.block_lt_of_cell? w _ h1
  simp at hb
  exact ⟨a, n, c, by simp [go_sem, h1], by simp [go_sem, h2], by simp [go_sem, h3], by simp [go_sem, h4], hN.keep (by repeat (first | with_reducible exact Keeps.refl _ | with_reducible assumption | (with_reducible refine Keeps.alloc ?_ _) | (with_reducible refine Keeps.drew ?_) | (with_reducible refine Keeps.drewN ?_ _) | (with_reducible refine Keeps.set ?_ (by simp [go_sem, isU, *]) _) | (with_reducible refine Keeps.trans ?_ (Ext.keeps (by with_reducible assumption))) | (with_reducible refine Keeps.trans ?_ (by with_reducible assumption))))⟩
theorem ZBox.setOther {w : World} {b m : Nat} (h : ZBox w b m) {q : Addr} {u : Value} (hq : b ≠ q.block) (hu : ∃ v, w.cell? q = some v ∧ isU v = false) : ZBox (w.setCell q u) b m := by
  obtain ⟨a0, n0, c0, h1, h2, h3, h4, h5⟩ := h
  have hk := Below.heap_setCell w q u b hq
  exact ⟨a0, n0, c0, (World.cell?_of_block hk).trans h1, (World.cell?_of_block hk).trans h2, (World.frozen?_of_block hk).trans h3, (World.frozen?_of_block hk).trans h4, h5.keep ((Keeps.refl w).set hu _)⟩
/-- What product holds after k rounds. -/
def pOf (m1 m2 : Nat) : Nat → Nat
  | 0 => 1
  | 1 => m1
  | _ => m1 * m2
theorem zround_ext {w0 w : World} {b : Nat} (h : Ext w0 w) (hb : w0.heap.size ≤ b) (v u : Value) : Ext w0 ((w.setCell ⟨b, 0, none⟩ v).setCell ⟨b, 1, none⟩ u) := (h.set (p := ⟨b, 0, none⟩) hb v).set (p := ⟨b, 1, none⟩) hb u

set_option maxRecDepth 100000 in
set_option maxHeartbeats 4000000 in
theorem product_two {w : World} {b m1 m2 : Nat} (h : ZTwo w b m1 m2) (t1 : m1 < Top) (t2 : m2 < Top) (t3 : m1 * m2 < Top) :
    Calls Try.prog 71 #[.slice (some ⟨b, 0, none⟩) 2 2] w (Post w fun v w' => ZNum w' v false (m1 * m2)) := by
  have HT := Lib.hid (And.intro t1 (And.intro t2 t3))
  clear t1 t2 t3
  obtain ⟨⟨x1, y1, q1, k0, k1, i1⟩, ⟨x2, y2, q2, k2, k3, i2⟩⟩ := h
  have hb := World.block_lt_of_cell? w _ k0
  simp at hb
  go_enter Try.func71, Try.ntmps71
  go_wp2_with fail
  refine (zof_any 1 (by omega) _).mono ?_
  rintro e w1 ⟨_, rfl, E1, a3, n3, c3, rfl, hx, hs⟩
  have F1 := (Ext.of_alloc w (.cells #[.bool false, .slice none 0 0] 42)).trans E1
  have hz1 := E1.size
  simp at hz1
  obtain ⟨hc, hf⟩ := E1.looka
  have HX := Lib.hid hx
  have HF1 := Lib.hid (F1.alloc (.cells #[.bool false, .slice a3 n3 c3] 42))
  obtain ⟨N3, hN3⟩ : ∃ N3, N3 = w1.heap.size := ⟨_, rfl⟩
  have hB0 : ZBox (w1.alloc (.cells #[.bool false, .slice a3 n3 c3] 42)) N3 1 := by
    rw [hN3]
    exact ⟨a3, n3, c3, by simp [go_sem], by simp [go_sem], by simp [go_sem], by simp [go_sem], hx.ext (Ext.of_alloc _ _)⟩
  have hR0 : ZBox (w1.alloc (.cells #[.bool false, .slice a3 n3 c3] 42)) w.heap.size 0 :=
    ⟨none, 0, 0, by simp [go_sem, hc], by simp [go_sem, hc], by simp [go_sem, hf], by simp [go_sem, hf], Num.nil _⟩
  go_wp2
  rw [← hN3]
  have hNw : w.heap.size ≤ N3 := by omega
  have hNe : w.heap.size < N3 := by omega
  generalize (w1.alloc (.cells #[.bool false, .slice a3 n3 c3] 42)) = W at HF1 hB0 hR0 ⊢
  clear hN3 hc hf hz1 F1 hx HX E1
  go_loopw [9] (fun kv wr => ∃ (k : Nat), kv = .int .i64 (k : Int) ∧ k ≤ 2 ∧ Ext w wr ∧ ZBox wr N3 (pOf m1 m2 k) ∧ ZBox wr w.heap.size 0) (fun kv _ => 2 - (intOf kv).toNat)
  case atStart => exact ⟨0, rfl, by omega, HF1.out, hB0, hR0⟩
  case round =>
    clear hB0 hR0
    obtain ⟨k, rfl, hk, hE, hB, hR⟩ := hrel
    have hB' := hB
    have hk3 : k = 0 ∨ k = 1 ∨ k = 2 := by omega
    rcases hk3 with rfl | rfl | rfl
    · have c0 := hE.cell k0
      have c1 := hE.cell k1
      have j1 := i1.ext hE
      obtain ⟨oa, on, oc, o0, o1, g0, g1, hoN⟩ := hB
      have HH := Lib.hid (And.intro hE (And.intro hB' (And.intro hR hoN)))
      have hN3 := World.block_lt_of_cell? wr _ o0
      simp at hN3
      have e0 := fun O => (Ext.of_alloc wr O).cell o0
      have e1 := fun O => (Ext.of_alloc wr O).cell o1
      clear k0 k1 k2 k3 i1 i2 hE hB' hR hoN
      go_wp2_with fail
      refine (zmul_pos oa x1 on oc y1 q1 _ _ _ (HH.out.2.2.2.is.ext (by repeat (first | with_reducible exact Ext.refl _ | with_reducible assumption | (with_reducible refine Ext.alloc ?_ _) | (with_reducible refine Ext.drew ?_) | (with_reducible refine Ext.drewN ?_ _) | (with_reducible refine Ext.set ?_ (by first | (simp; done) | (simp; omega)) _) | (with_reducible refine Ext.trans ?_ (by with_reducible assumption))))) (j1.ext (by repeat (first | with_reducible exact Ext.refl _ | with_reducible assumption | (with_reducible refine Ext.alloc ?_ _) | (with_reducible refine Ext.drew ?_) | (with_reducible refine Ext.drewN ?_ _) | (with_reducible refine Ext.set ?_ (by first | (simp; done) | (simp; omega)) _) | (with_reducible refine Ext.trans ?_ (by with_reducible assumption))))) (Nat.lt_of_lt_of_le (show (1 : Nat) < B64 by decide) Top_big) HT.out.1 (by rw [show pOf m1 m2 0 = 1 from rfl, Nat.one_mul]; exact HT.out.1)).mono ?_
      rintro e w2 ⟨_, rfl, E2, _, rfl, a4, n4, c4, rfl, hy, hs⟩
      go_wp2_with fail
      refine (mustZ_ok false a4 n4 c4 _).mono ?_
      rintro e w3 ⟨_, rfl, E3, rfl⟩
      have F := (Ext.of_alloc wr _).trans (E2.trans E3)
      have B3 := HH.out.2.1.ext F
      have HB3 := Lib.hid B3
      obtain ⟨pa, pn, pc, p0, p1, f0, f1, hpN⟩ := B3
      have HF := Lib.hid (And.intro F (hy.ext E3))
      clear hpN E2 E3 F hy c0 c1 o0 o1 g0 g1 e0 e1 j1
      go_wp2
      go_roundw
      case rel =>
        have hx := HF.out.2
        rw [show pOf m1 m2 0 * m1 = pOf m1 m2 1 by simp [pOf]] at hx
        refine ⟨1, rfl, by omega, zround_ext (HH.out.1.trans HF.out.1) hNw _ _, HB3.out.set hx, ((HH.out.2.2.1.ext HF.out.1).setOther (by simp; omega) ⟨_, p0, rfl⟩).setOther (by simp; omega) ⟨.slice pa pn pc, by rw [World.cell?_setCell_other] <;> simp [p1], rfl⟩⟩
      case measure => simp [intOf]
    · have c0 := hE.cell k2
      have c1 := hE.cell k3
      have j1 := i2.ext hE
      obtain ⟨oa, on, oc, o0, o1, g0, g1, hoN⟩ := hB
      have HH := Lib.hid (And.intro hE (And.intro hB' (And.intro hR hoN)))
      have hN3 := World.block_lt_of_cell? wr _ o0
      simp at hN3
      have e0 := fun O => (Ext.of_alloc wr O).cell o0
      have e1 := fun O => (Ext.of_alloc wr O).cell o1
      clear k0 k1 k2 k3 i1 i2 hE hB' hR hoN
      go_wp2_with fail
      refine (zmul_pos oa x2 on oc y2 q2 _ _ _ (HH.out.2.2.2.is.ext (by repeat (first | with_reducible exact Ext.refl _ | with_reducible assumption | (with_reducible refine Ext.alloc ?_ _) | (with_reducible refine Ext.drew ?_) | (with_reducible refine Ext.drewN ?_ _) | (with_reducible refine Ext.set ?_ (by first | (simp; done) | (simp; omega)) _) | (with_reducible refine Ext.trans ?_ (by with_reducible assumption))))) (j1.ext (by repeat (first | with_reducible exact Ext.refl _ | with_reducible assumption | (with_reducible refine Ext.alloc ?_ _) | (with_reducible refine Ext.drew ?_) | (with_reducible refine Ext.drewN ?_ _) | (with_reducible refine Ext.set ?_ (by first | (simp; done) | (simp; omega)) _) | (with_reducible refine Ext.trans ?_ (by with_reducible assumption))))) HT.out.1 HT.out.2.1 HT.out.2.2).mono ?_
      rintro e w2 ⟨_, rfl, E2, _, rfl, a4, n4, c4, rfl, hy, hs⟩
      go_wp2_with fail
      refine (mustZ_ok false a4 n4 c4 _).mono ?_
      rintro e w3 ⟨_, rfl, E3, rfl⟩
      have F := (Ext.of_alloc wr _).trans (E2.trans E3)
      have B3 := HH.out.2.1.ext F
      have HB3 := Lib.hid B3
      obtain ⟨pa, pn, pc, p0, p1, f0, f1, hpN⟩ := B3
      have HF := Lib.hid (And.intro F (hy.ext E3))
      clear hpN E2 E3 F hy c0 c1 o0 o1 g0 g1 e0 e1 j1
      go_wp2
      go_roundw
      case rel =>
        have hx := HF.out.2
        rw [show pOf m1 m2 1 * m2 = pOf m1 m2 2 from rfl] at hx
        refine ⟨2, rfl, by omega, zround_ext (HH.out.1.trans HF.out.1) hNw _ _, HB3.out.set hx, ((HH.out.2.2.1.ext HF.out.1).setOther (by simp; omega) ⟨_, p0, rfl⟩).setOther (by simp; omega) ⟨.slice pa pn pc, by rw [World.cell?_setCell_other] <;> simp [p1], rfl⟩⟩
      case measure => simp [intOf]
    · obtain ⟨oa, on, oc, o0, o1, g0, g1, hoN⟩ := hB
      obtain ⟨ra, rn, rc, r0, r1, h0, h1, hrN⟩ := hR
      have HH := Lib.hid (And.intro hE hoN)
      clear k0 k1 k2 k3 i1 i2 hE hB' hoN hrN
      go_wp2
      exact bodyPost_ret (v := .agg #[.bool false, .slice oa on oc]) (by simp [results, Try.results71, go_sem, r0, r1]) rfl (Post.mk (zround_ext HH.out.1 (Nat.le_refl _) _ _) ⟨oa, on, oc, rfl, HH.out.2.keep (((Keeps.refl wr).set ⟨_, r0, rfl⟩ _).set ⟨.slice ra rn rc, by rw [World.cell?_setCell_other] <;> simp [r1], rfl⟩ _), fun h => by cases h⟩)
end Go.Proofs.Ytgihjgkpmochcaa

namespace Go.Proofs.Ytgihjgkpmochcaa
open Go.RowKit

theorem of_pos (a : Option Addr) (n c : Nat) (m : Nat) (w : World) (h : IsN w (.slice a n c) m) :
    Calls Try.prog 85 #[.agg #[.bool false, .slice a n c]] w (Post w fun r _ => r = .agg #[.slice a n c, .bool false]) := by
  refine (of_z false a n c m w h).mono ?_
  rintro e w' ⟨_, rfl, E, rfl⟩
  exact Post.mk E rfl
/-- A size and a sign, in a box. -/
def NBox (w : World) (b : Nat) (v : Value) : Prop := w.heap[b]? = some (.cells #[v, .bool false] 112 (0, 0))
section
variable {w : World} {b : Nat} {v : Value}
theorem NBox.lt (h : NBox w b v) : b < w.heap.size := (Array.getElem?_eq_some_iff.1 h).1
theorem NBox.c0 (h : NBox w b v) : w.cell? ⟨b, 0, none⟩ = some v := by simp [World.cell?, show w.heap[b]? = _ from h]
theorem NBox.c1 (h : NBox w b v) : w.cell? ⟨b, 1, none⟩ = some (.bool false) := by simp [World.cell?, show w.heap[b]? = _ from h]
theorem NBox.fr (h : NBox w b v) (o : Nat) : w.frozen? ⟨b, o, none⟩ = false := by simp [World.frozen?, show w.heap[b]? = _ from h]
theorem NBox.set (h : NBox w b v) (u : Value) : NBox ((w.setCell ⟨b, 0, none⟩ u).setCell ⟨b, 1, none⟩ (.bool false)) b u := by
  have h1 : (w.setCell ⟨b, 0, none⟩ u).heap[b]? = some (.cells #[u, .bool false] 112 (0, 0)) := by
    obtain ⟨hlt, hk⟩ := Array.getElem?_eq_some_iff.1 h
    show (w.heap.modify b _)[b]? = _
    rw [Array.getElem?_eq_getElem (by rw [Array.size_modify]; exact hlt), Array.getElem_modify_self, hk]
    rfl
  generalize w.setCell ⟨b, 0, none⟩ u = W at h1
  obtain ⟨hlt, hk⟩ := Array.getElem?_eq_some_iff.1 h1
  show (W.heap.modify b _)[b]? = _
  rw [Array.getElem?_eq_getElem (by rw [Array.size_modify]; exact hlt), Array.getElem_modify_self, hk]
  rfl
theorem NBox.other (h : NBox w b v) {d : Nat} (hd : b ≠ d) (u x : Value) : NBox ((w.setCell ⟨d, 0, none⟩ u).setCell ⟨d, 1, none⟩ x) b v :=
  (Below.heap_setCell _ ⟨d, 1, none⟩ x b hd).trans ((Below.heap_setCell w ⟨d, 0, none⟩ u b hd).trans h)
end
/-- What holds within Cmp's first region. -/
def CmpJ (W0 : World) (N : Nat) (A1 A2 x1 x2 : Value) (L : Nat → Bool) (a : Act) (w : World) : Prop :=
  ∃ t5 t6 t8 t9 t10 t11 : Value, a = { tmps := #[A1, A2, .pointer (some ⟨N, 0, none⟩), .pointer (some ⟨N + 1, 0, none⟩), .int .i64 0, t5, t6, undef, t8, t9, t10, t11, undef, undef, undef, undef, undef, undef, undef, undef, undef, undef, undef, undef, undef, undef, undef, undef, undef, undef, undef, undef, undef], defers := [] } ∧
    Ext W0 w ∧ (L 0 = true → t8 = A1) ∧ (L 1 = true → t9 = .agg #[x1, .bool false]) ∧ (L 2 = true → t10 = A2) ∧ (L 3 = true → t11 = .agg #[x2, .bool false]) ∧
    (L 4 = true → ∃ b, t5 = .pointer (some ⟨b, 0, none⟩) ∧ W0.heap.size ≤ b ∧ NBox w b (if L 6 then x1 else .slice none 0 0)) ∧
    (L 5 = true → ∃ b, t6 = .pointer (some ⟨b, 0, none⟩) ∧ W0.heap.size ≤ b ∧ NBox w b (if L 7 then x2 else .slice none 0 0)) ∧
    (L 4 = true → L 5 = true → t5 ≠ t6) ∧ (L 6 = true → L 4 = true) ∧ (L 7 = true → L 5 = true)

set_option maxRecDepth 100000 in
set_option maxHeartbeats 4000000 in
theorem zcmp_pos (a1 a2 : Option Addr) (n1 c1 n2 c2 m1 m2 : Nat) (w : World) (h1 : IsN w (.slice a1 n1 c1) m1) (h2 : IsN w (.slice a2 n2 c2) m2) :
    Calls Try.prog 70 #[.agg #[.bool false, .slice a1 n1 c1], .agg #[.bool false, .slice a2 n2 c2]] w (Post w fun v _ => v = .int .i64 (cmpN m1 m2)) := by
  go_enter Try.func70, Try.ntmps70
  go_wp2
  have k0 : ((w.alloc (.cells #[.bool false, .slice a1 n1 c1] 42)).alloc (.cells #[.bool false, .slice a2 n2 c2] 42)).cell? ⟨w.heap.size, 0, none⟩ = some (.bool false) := by simp [go_sem]
  have k1 : ((w.alloc (.cells #[.bool false, .slice a1 n1 c1] 42)).alloc (.cells #[.bool false, .slice a2 n2 c2] 42)).cell? ⟨w.heap.size, 1, none⟩ = some (.slice a1 n1 c1) := by simp [go_sem]
  have k2 : ((w.alloc (.cells #[.bool false, .slice a1 n1 c1] 42)).alloc (.cells #[.bool false, .slice a2 n2 c2] 42)).cell? ⟨w.heap.size + 1, 0, none⟩ = some (.bool false) := by simp [go_sem]
  have k3 : ((w.alloc (.cells #[.bool false, .slice a1 n1 c1] 42)).alloc (.cells #[.bool false, .slice a2 n2 c2] 42)).cell? ⟨w.heap.size + 1, 1, none⟩ = some (.slice a2 n2 c2) := by simp [go_sem]
  have hE : Ext w ((w.alloc (.cells #[.bool false, .slice a1 n1 c1] 42)).alloc (.cells #[.bool false, .slice a2 n2 c2] 42)) := (by repeat (first | with_reducible exact Ext.refl _ | with_reducible assumption | (with_reducible refine Ext.alloc ?_ _) | (with_reducible refine Ext.drew ?_) | (with_reducible refine Ext.drewN ?_ _) | (with_reducible refine Ext.set ?_ (by first | (simp; done) | (simp; omega)) _) | (with_reducible refine Ext.trans ?_ (by with_reducible assumption))))
  generalize ((w.alloc (.cells #[.bool false, .slice a1 n1 c1] 42)).alloc (.cells #[.bool false, .slice a2 n2 c2] 42)) = W0 at k0 k1 k2 k3 hE ⊢
  have i1 := h1.ext hE
  have i2 := h2.ext hE
  obtain ⟨N, hN⟩ : ∃ N, N = w.heap.size := ⟨_, rfl⟩
  rw [← hN] at k0 k1 k2 k3 ⊢
  clear hN h1 h2
  refine wp_region_inv (CmpJ W0 N (.agg #[.bool false, .slice a1 n1 c1]) (.agg #[.bool false, .slice a2 n2 c2]) (.slice a1 n1 c1) (.slice a2 n2 c2)) (by kernel_rfl) (low_of (by kernel_rfl)) ⟨_, _, _, _, _, _, rfl, (Ext.refl W0).drew, by simp, by simp, by simp, by simp, by simp, by simp, by simp, by simp, by simp⟩ ?steps ?done
  case steps =>
    rintro i hi L o a w' ho ⟨t5, t6, t8, t9, t10, t11, rfl, E, l0, l1, l2, l3, l4, l5, l6, l7, l8⟩ hLi hdep K hK
    rcases (show i = 0 ∨ i = 1 ∨ i = 2 ∨ i = 3 ∨ i = 4 ∨ i = 5 ∨ i = 6 ∨ i = 7 by simp at hi; omega) with rfl | rfl | rfl | rfl | rfl | rfl | rfl | rfl
    · cases ho
      have e0 := E.cell k0
      have e1 := E.cell k1
      go_simp
      exact hK _ _ ⟨t5, t6, _, t9, t10, t11, rfl, E, (by simp), l1, l2, l3, l4, l5, l6, l7, l8⟩
    · cases ho
      have d : L 0 = true := by simpa [Region.binds] using hdep { on := 0, ground := .data } (by simp) rfl
      obtain rfl := l0 d
      go_simp
      refine (of_pos a1 n1 c1 m1 _ (i1.ext E)).mono ?_
      rintro e w1 ⟨_, rfl, E1, rfl⟩
      try simp only []
      exact hK _ _ ⟨t5, t6, _, _, t10, t11, rfl, E.trans E1, l0, (fun _ => rfl), l2, l3, (fun h => by obtain ⟨b, e1, e2, e3⟩ := l4 h; exact ⟨b, e1, e2, E1.block e3⟩), (fun h => by obtain ⟨b, e1, e2, e3⟩ := l5 h; exact ⟨b, e1, e2, E1.block e3⟩), l6, l7, l8⟩
    · cases ho
      have e0 := E.cell k2
      have e1 := E.cell k3
      go_simp
      exact hK _ _ ⟨t5, t6, t8, t9, _, t11, rfl, E, l0, l1, (by simp), l3, l4, l5, l6, l7, l8⟩
    · cases ho
      have d : L 2 = true := by simpa [Region.binds] using hdep { on := 2, ground := .data } (by simp) rfl
      obtain rfl := l2 d
      go_simp
      refine (of_pos a2 n2 c2 m2 _ (i2.ext E)).mono ?_
      rintro e w1 ⟨_, rfl, E1, rfl⟩
      try simp only []
      exact hK _ _ ⟨t5, t6, t8, t9, _, _, rfl, E.trans E1, l0, l1, l2, (fun _ => rfl), (fun h => by obtain ⟨b, e1, e2, e3⟩ := l4 h; exact ⟨b, e1, e2, E1.block e3⟩), (fun h => by obtain ⟨b, e1, e2, e3⟩ := l5 h; exact ⟨b, e1, e2, E1.block e3⟩), l6, l7, l8⟩
    · cases ho
      go_simp
      refine hK _ _ ⟨_, t6, t8, t9, t10, t11, rfl, E.alloc _, l0, l1, l2, l3, fun _ => ⟨w'.heap.size, rfl, E.size, ?_⟩, fun h => by obtain ⟨b, e1, e2, e3⟩ := l5 h; exact ⟨b, e1, e2, (Ext.of_alloc _ _).block e3⟩, fun _ h => ?_, fun _ => rfl, l8⟩
      · have h6 : L 6 = false := by
          rcases Bool.eq_false_or_eq_true (L 6) with h | h
          · rw [l7 h] at hLi; cases hLi
          · exact h
        rw [show upd L 4 6 = L 6 from rfl, h6]
        exact World.alloc_heap_new w' _
      · obtain ⟨b, e1, e2, e3⟩ := l5 h
        have := e3.lt
        rw [e1]
        intro e
        cases e
        omega
    · cases ho
      go_simp
      refine hK _ _ ⟨t5, _, t8, t9, t10, t11, rfl, E.alloc _, l0, l1, l2, l3, fun h => by obtain ⟨b, e1, e2, e3⟩ := l4 h; exact ⟨b, e1, e2, (Ext.of_alloc _ _).block e3⟩, fun _ => ⟨w'.heap.size, rfl, E.size, ?_⟩, fun h _ => ?_, l7, fun _ => rfl⟩
      · have h6 : L 7 = false := by
          rcases Bool.eq_false_or_eq_true (L 7) with h | h
          · rw [l8 h] at hLi; cases hLi
          · exact h
        rw [show upd L 5 7 = L 7 from rfl, h6]
        exact World.alloc_heap_new w' _
      · obtain ⟨b, e1, e2, e3⟩ := l4 h
        have := e3.lt
        rw [e1]
        intro e
        cases e
        omega
    · cases ho
      have d4 : L 4 = true := hdep { on := 4, ground := .data } (by simp) rfl
      have d1 : L 1 = true := hdep { on := 1, ground := .data } (by simp) rfl
      obtain rfl := l1 d1
      obtain ⟨b, rfl, hb, B⟩ := l4 d4
      rw [hLi, if_neg (by simp)] at B
      have b0 := B.c0
      have b1 := B.c1
      have f0 := B.fr 0
      have f1 := B.fr 1
      go_simp
      refine hK _ _ ⟨_, t6, t8, _, t10, t11, rfl, (E.set (p := ⟨b, 0, none⟩) hb _).set (p := ⟨b, 1, none⟩) hb _, l0, fun _ => rfl, l2, l3, fun _ => ⟨b, rfl, hb, B.set _⟩, fun h => ?_, fun _ h => l6 d4 h, fun _ => d4, l8⟩
      obtain ⟨b', rfl, e2, e3⟩ := l5 h
      refine ⟨b', rfl, e2, e3.other (fun e => l6 d4 h ?_) _ _⟩
      rw [e]
    · cases ho
      have d4 : L 5 = true := hdep { on := 5, ground := .data } (by simp) rfl
      have d1 : L 3 = true := hdep { on := 3, ground := .data } (by simp) rfl
      obtain rfl := l3 d1
      obtain ⟨b, rfl, hb, B⟩ := l5 d4
      rw [hLi, if_neg (by simp)] at B
      have b0 := B.c0
      have b1 := B.c1
      have f0 := B.fr 0
      have f1 := B.fr 1
      go_simp
      refine hK _ _ ⟨t5, _, t8, t9, t10, _, rfl, (E.set (p := ⟨b, 0, none⟩) hb _).set (p := ⟨b, 1, none⟩) hb _, l0, l1, l2, fun _ => rfl, fun h => ?_, fun _ => ⟨b, rfl, hb, B.set _⟩, fun h _ => l6 h d4, l7, fun _ => d4⟩
      obtain ⟨b', rfl, e2, e3⟩ := l4 h
      refine ⟨b', rfl, e2, e3.other (fun e => l6 h d4 ?_) _ _⟩
      rw [e]
  case done =>
    rintro L a W ⟨t5, t6, t8, t9, t10, t11, rfl, E, l0, l1, l2, l3, l4, l5, l6, l7, l8⟩ hall
    obtain ⟨b5, rfl, hb5, B5⟩ := l4 (hall 4 (by simp))
    obtain ⟨b6, rfl, hb6, B6⟩ := l5 (hall 5 (by simp))
    rw [if_pos (hall 6 (by simp))] at B5
    rw [if_pos (hall 7 (by simp))] at B6
    have e5 := B5.c1
    have e6 := B6.c1
    have e1 := E.cell k1
    have e3 := E.cell k3
    have j1 := i1.ext E
    have j2 := i2.ext E
    have HE := Lib.hid (hE.trans E)
    clear l0 l1 l2 l3 l4 l5 l6 l7 l8 B5 B6 hall k0 k1 k2 k3 i1 i2 hE E
    go_wp2_with fail
    refine (cmp_n j1 j2).mono ?_
    rintro e w1 ⟨_, rfl, E1, rfl⟩
    have q5 := E1.cell e5
    have q6 := E1.cell e6
    obtain ⟨cc, hcc⟩ : ∃ cc, cmpN m1 m2 = cc := ⟨_, rfl⟩
    rw [hcc]
    have HC := Lib.hid hcc
    clear hcc
    go_wp2
    go_ret
    exact Post.mk (HE.out.trans E1) (congrArg (Value.int .i64) HC.out.symm)
end Go.Proofs.Ytgihjgkpmochcaa

namespace Go.Proofs.Ytgihjgkpmochcaa
open Go.RowKit

set_option maxRecDepth 100000 in
set_option maxHeartbeats 8000000 in
theorem cmp1_pos (b1 b2 : Nat) (x1 x2 x3 x4 : Option Addr) (y1 z1 y2 z2 y3 z3 y4 z4 n1 d1 n2 d2 : Nat) (w0 : World)
    (p0 : w0.cell? ⟨b1, 0, none⟩ = some (.bool false)) (p1 : w0.cell? ⟨b1, 1, none⟩ = some (.slice x1 y1 z1)) (p2 : w0.cell? ⟨b1, 2, none⟩ = some (.slice x2 y2 z2))
    (p3 : w0.cell? ⟨b2, 0, none⟩ = some (.bool false)) (p4 : w0.cell? ⟨b2, 1, none⟩ = some (.slice x3 y3 z3)) (p5 : w0.cell? ⟨b2, 2, none⟩ = some (.slice x4 y4 z4))
    (h1 : IsN w0 (.slice x1 y1 z1) n1) (h2 : IsN w0 (.slice x2 y2 z2) d1) (h3 : IsN w0 (.slice x3 y3 z3) n2) (h4 : IsN w0 (.slice x4 y4 z4) d2)
    (t1 : n1 < Top) (t2 : d1 < Top) (t3 : n2 < Top) (t4 : d2 < Top) (t5 : n1 * d2 < Top) (t6 : n2 * d1 < Top) (e1 : d1 ≠ 0) (e2 : d2 ≠ 0) :
    Calls Try.prog 68 #[.pointer (some ⟨b1, 0, none⟩), .pointer (some ⟨b2, 0, none⟩)] w0 (Post w0 fun v _ => v = .int .i64 (cmpN (n1 * d2) (n2 * d1))) := by
  have HT := Lib.hid (And.intro t1 (And.intro t2 (And.intro t3 (And.intro t4 (And.intro t5 t6)))))
  have HZ := Lib.hid (And.intro e1 e2)
  obtain ⟨cc, hcc⟩ : ∃ cc, cc = cmpN (n1 * d2) (n2 * d1) := ⟨_, rfl⟩
  rw [← hcc]
  have HC := Lib.hid hcc
  clear hcc t1 t2 t3 t4 t5 t6 e1 e2
  go_enter Try.func68, Try.ntmps68
  go_wp2_with fail
  have A0 := Ext.of_alloc w0 (.cells #[.bool false, .slice x1 y1 z1, .slice x2 y2 z2, .bool false, .slice x3 y3 z3, .slice x4 y4 z4] 44)
  have hF : FTwo (w0.alloc (.cells #[.bool false, .slice x1 y1 z1, .slice x2 y2 z2, .bool false, .slice x3 y3 z3, .slice x4 y4 z4] 44)) w0.heap.size n1 d1 n2 d2 :=
    ⟨⟨x1, y1, z1, x2, y2, z2, by simp [go_sem], by simp [go_sem], by simp [go_sem], h1.ext A0, h2.ext A0⟩, ⟨x3, y3, z3, x4, y4, z4, by simp [go_sem], by simp [go_sem], by simp [go_sem], h3.ext A0, h4.ext A0⟩⟩
  refine (fmay_two hF HT.out.1 HT.out.2.1 HT.out.2.2.1 HT.out.2.2.2.1 HZ.out.1 HZ.out.2).mono ?_
  rintro e w ⟨rfl, E0⟩
  have G0 := A0.trans E0
  have k0 := G0.cell p0
  have k1 := G0.cell p1
  have k2 := G0.cell p2
  have k3 := G0.cell p3
  have k4 := G0.cell p4
  have k5 := G0.cell p5
  have i1 := h1.ext G0
  have i2 := h2.ext G0
  have i3 := h3.ext G0
  have i4 := h4.ext G0
  have HG := Lib.hid G0
  clear p0 p1 p2 p3 p4 p5 h1 h2 h3 h4 A0 E0 hF G0
  go_wp2
  refine wp_region_T (fun _ => True) (fun w' : World => w'.cell? ⟨b1, 0, none⟩ = some (.bool false) ∧ w'.cell? ⟨b1, 1, none⟩ = some (.slice x1 y1 z1) ∧ w'.cell? ⟨b1, 2, none⟩ = some (.slice x2 y2 z2) ∧ w'.cell? ⟨b2, 0, none⟩ = some (.bool false) ∧ w'.cell? ⟨b2, 1, none⟩ = some (.slice x3 y3 z3) ∧ w'.cell? ⟨b2, 2, none⟩ = some (.slice x4 y4 z4)) 99 16 (by rfl) (by kernel_rfl) ?_
  have hT0 : w.drew.cell? ⟨b1, 0, none⟩ = some (.bool false) ∧ w.drew.cell? ⟨b1, 1, none⟩ = some (.slice x1 y1 z1) ∧ w.drew.cell? ⟨b1, 2, none⟩ = some (.slice x2 y2 z2) ∧ w.drew.cell? ⟨b2, 0, none⟩ = some (.bool false) ∧ w.drew.cell? ⟨b2, 1, none⟩ = some (.slice x3 y3 z3) ∧ w.drew.cell? ⟨b2, 2, none⟩ = some (.slice x4 y4 z4) := ⟨k0, k1, k2, k3, k4, k5⟩
  refine wpAnyT_take' (i := 0) (some 7) (v := ?_) rfl rfl (by kernel_rfl) (by kernel_rfl) (by kernel_rfl) (by decide) (fun _ _ _ h => h) (Or.inl ⟨by rfl, ?_⟩) (fun _ => trivial) hT0 ?_
  rotate_left
  · (intro w hSw; (try dsimp only at hSw); go_simp); try with_reducible rfl
  try simp only [Act.put, List.setIfInBounds_toArray, List.set_cons_zero, List.set_cons_succ]
  refine wpAnyT_take' (i := 1) (some 8) (v := ?_) rfl rfl (by kernel_rfl) (by kernel_rfl) (by kernel_rfl) (by decide) (fun _ _ _ h => h) (Or.inl ⟨by rfl, ?_⟩) (fun _ => trivial) hT0 ?_
  rotate_left
  · (intro w hSw; (try dsimp only at hSw); go_simp); try with_reducible rfl
  try simp only [Act.put, List.setIfInBounds_toArray, List.set_cons_zero, List.set_cons_succ]
  refine wpAnyT_take' (i := 2) (some 9) (v := ?_) rfl rfl (by kernel_rfl) (by kernel_rfl) (by kernel_rfl) (by decide) (fun _ _ _ h => h) (Or.inl ⟨by rfl, ?_⟩) (fun _ => trivial) hT0 ?_
  rotate_left
  · (intro w hSw; (try dsimp only at hSw); go_simp); try with_reducible rfl
  try simp only [Act.put, List.setIfInBounds_toArray, List.set_cons_zero, List.set_cons_succ]
  refine wpAnyT_take' (i := 3) (some 10) (v := ?_) rfl rfl (by kernel_rfl) (by kernel_rfl) (by kernel_rfl) (by decide) (fun _ _ _ h => h) (Or.inl ⟨by rfl, ?_⟩) (fun _ => trivial) hT0 ?_
  rotate_left
  · (intro w hSw; (try dsimp only at hSw); go_simp); try with_reducible rfl
  try simp only [Act.put, List.setIfInBounds_toArray, List.set_cons_zero, List.set_cons_succ]
  refine wpAnyT_take' (i := 7) (some 14) (v := ?_) rfl rfl (by kernel_rfl) (by kernel_rfl) (by kernel_rfl) (by decide) (fun _ _ _ h => h) (Or.inl ⟨by rfl, ?_⟩) (fun _ => trivial) hT0 ?_
  rotate_left
  · (intro w hSw; (try dsimp only at hSw); go_simp); try with_reducible rfl
  try simp only [Act.put, List.setIfInBounds_toArray, List.set_cons_zero, List.set_cons_succ]
  refine wpAnyT_take' (i := 8) (some 15) (v := ?_) rfl rfl (by kernel_rfl) (by kernel_rfl) (by kernel_rfl) (by decide) (fun _ _ _ h => h) (Or.inl ⟨by rfl, ?_⟩) (fun _ => trivial) hT0 ?_
  rotate_left
  · (intro w hSw; (try dsimp only at hSw); go_simp); try with_reducible rfl
  try simp only [Act.put, List.setIfInBounds_toArray, List.set_cons_zero, List.set_cons_succ]
  refine wpAnyT_take' (i := 9) (some 16) (v := ?_) rfl rfl (by kernel_rfl) (by kernel_rfl) (by kernel_rfl) (by decide) (fun _ _ _ h => h) (Or.inl ⟨by rfl, ?_⟩) (fun _ => trivial) hT0 ?_
  rotate_left
  · (intro w hSw; (try dsimp only at hSw); go_simp); try with_reducible rfl
  try simp only [Act.put, List.setIfInBounds_toArray, List.set_cons_zero, List.set_cons_succ]
  refine wpAnyT_take' (i := 10) (some 17) (v := ?_) rfl rfl (by kernel_rfl) (by kernel_rfl) (by kernel_rfl) (by decide) (fun _ _ _ h => h) (Or.inl ⟨by rfl, ?_⟩) (fun _ => trivial) hT0 ?_
  rotate_left
  · (intro w hSw; (try dsimp only at hSw); go_simp); try with_reducible rfl
  try simp only [Act.put, List.setIfInBounds_toArray, List.set_cons_zero, List.set_cons_succ]
  refine wpAnyT_one (i := 4) (by kernel_rfl) rfl (fun K hK => ?_)
  go_simp
  refine (whole_any x4 y4 z4 _).mono ?_
  rintro e w1 ⟨_, rfl, E1, rfl⟩
  try simp only []
  have hT1 : w1.cell? ⟨b1, 0, none⟩ = some (.bool false) ∧ w1.cell? ⟨b1, 1, none⟩ = some (.slice x1 y1 z1) ∧ w1.cell? ⟨b1, 2, none⟩ = some (.slice x2 y2 z2) ∧ w1.cell? ⟨b2, 0, none⟩ = some (.bool false) ∧ w1.cell? ⟨b2, 1, none⟩ = some (.slice x3 y3 z3) ∧ w1.cell? ⟨b2, 2, none⟩ = some (.slice x4 y4 z4) := ⟨E1.cell hT0.1, E1.cell hT0.2.1, E1.cell hT0.2.2.1, E1.cell hT0.2.2.2.1, E1.cell hT0.2.2.2.2.1, E1.cell hT0.2.2.2.2.2⟩
  have G1 : Ext w w1 := (Ext.refl w).drew.trans E1
  refine hK _ _ (fun _ => trivial) hT1 ?_
  clear hK K
  try simp only [Act.put, List.setIfInBounds_toArray, List.set_cons_zero, List.set_cons_succ]
  refine wpAnyT_one (i := 5) (by kernel_rfl) rfl (fun K hK => ?_)
  go_simp
  have A1 := Ext.of_alloc w1 (.cells #[.bool false, .slice x1 y1 z1, .bool false, .slice x4 y4 z4] 42)
  have hT2 : (w1.alloc (.cells #[.bool false, .slice x1 y1 z1, .bool false, .slice x4 y4 z4] 42)).cell? ⟨b1, 0, none⟩ = some (.bool false) ∧ (w1.alloc (.cells #[.bool false, .slice x1 y1 z1, .bool false, .slice x4 y4 z4] 42)).cell? ⟨b1, 1, none⟩ = some (.slice x1 y1 z1) ∧ (w1.alloc (.cells #[.bool false, .slice x1 y1 z1, .bool false, .slice x4 y4 z4] 42)).cell? ⟨b1, 2, none⟩ = some (.slice x2 y2 z2) ∧ (w1.alloc (.cells #[.bool false, .slice x1 y1 z1, .bool false, .slice x4 y4 z4] 42)).cell? ⟨b2, 0, none⟩ = some (.bool false) ∧ (w1.alloc (.cells #[.bool false, .slice x1 y1 z1, .bool false, .slice x4 y4 z4] 42)).cell? ⟨b2, 1, none⟩ = some (.slice x3 y3 z3) ∧ (w1.alloc (.cells #[.bool false, .slice x1 y1 z1, .bool false, .slice x4 y4 z4] 42)).cell? ⟨b2, 2, none⟩ = some (.slice x4 y4 z4) := ⟨A1.cell hT1.1, A1.cell hT1.2.1, A1.cell hT1.2.2.1, A1.cell hT1.2.2.2.1, A1.cell hT1.2.2.2.2.1, A1.cell hT1.2.2.2.2.2⟩
  refine hK _ _ (fun _ => trivial) hT2 ?_
  clear hK K
  try simp only [Act.put, List.setIfInBounds_toArray, List.set_cons_zero, List.set_cons_succ]
  have G2 := G1.trans A1
  have Z2 : ZTwo (w1.alloc (.cells #[.bool false, .slice x1 y1 z1, .bool false, .slice x4 y4 z4] 42)) w1.heap.size n1 d2 :=
    ⟨⟨x1, y1, z1, by simp [go_sem], by simp [go_sem], i1.ext G2⟩, ⟨x4, y4, z4, by simp [go_sem], by simp [go_sem], i4.ext G2⟩⟩
  generalize w1.heap.size = g1 at Z2 ⊢
  generalize (w1.alloc (.cells #[.bool false, .slice x1 y1 z1, .bool false, .slice x4 y4 z4] 42)) = w2 at Z2 G2 hT2 ⊢
  clear hT1 A1 G1 E1
  refine wpAnyT_one (i := 6) (by kernel_rfl) rfl (fun K hK => ?_)
  go_simp
  refine (product_two Z2 HT.out.1 HT.out.2.2.2.1 HT.out.2.2.2.2.1).mono ?_
  rintro e w3 ⟨_, rfl, E3, x5, y5, z5, rfl, hx, _⟩
  try simp only []
  have hT3 : w3.cell? ⟨b1, 0, none⟩ = some (.bool false) ∧ w3.cell? ⟨b1, 1, none⟩ = some (.slice x1 y1 z1) ∧ w3.cell? ⟨b1, 2, none⟩ = some (.slice x2 y2 z2) ∧ w3.cell? ⟨b2, 0, none⟩ = some (.bool false) ∧ w3.cell? ⟨b2, 1, none⟩ = some (.slice x3 y3 z3) ∧ w3.cell? ⟨b2, 2, none⟩ = some (.slice x4 y4 z4) := ⟨E3.cell hT2.1, E3.cell hT2.2.1, E3.cell hT2.2.2.1, E3.cell hT2.2.2.2.1, E3.cell hT2.2.2.2.2.1, E3.cell hT2.2.2.2.2.2⟩
  have G3 := G2.trans E3
  refine hK _ _ (fun _ => trivial) hT3 ?_
  clear hK K
  try simp only [Act.put, List.setIfInBounds_toArray, List.set_cons_zero, List.set_cons_succ]
  refine wpAnyT_one (i := 11) (by kernel_rfl) rfl (fun K hK => ?_)
  go_simp
  refine (whole_any x2 y2 z2 _).mono ?_
  rintro e w4 ⟨_, rfl, E4, rfl⟩
  try simp only []
  have hT4 : w4.cell? ⟨b1, 0, none⟩ = some (.bool false) ∧ w4.cell? ⟨b1, 1, none⟩ = some (.slice x1 y1 z1) ∧ w4.cell? ⟨b1, 2, none⟩ = some (.slice x2 y2 z2) ∧ w4.cell? ⟨b2, 0, none⟩ = some (.bool false) ∧ w4.cell? ⟨b2, 1, none⟩ = some (.slice x3 y3 z3) ∧ w4.cell? ⟨b2, 2, none⟩ = some (.slice x4 y4 z4) := ⟨E4.cell hT3.1, E4.cell hT3.2.1, E4.cell hT3.2.2.1, E4.cell hT3.2.2.2.1, E4.cell hT3.2.2.2.2.1, E4.cell hT3.2.2.2.2.2⟩
  have G4 := G3.trans E4
  refine hK _ _ (fun _ => trivial) hT4 ?_
  clear hK K
  try simp only [Act.put, List.setIfInBounds_toArray, List.set_cons_zero, List.set_cons_succ]
  refine wpAnyT_one (i := 12) (by kernel_rfl) rfl (fun K hK => ?_)
  go_simp
  have A4 := Ext.of_alloc w4 (.cells #[.bool false, .slice x3 y3 z3, .bool false, .slice x2 y2 z2] 42)
  have hT5 : (w4.alloc (.cells #[.bool false, .slice x3 y3 z3, .bool false, .slice x2 y2 z2] 42)).cell? ⟨b1, 0, none⟩ = some (.bool false) ∧ (w4.alloc (.cells #[.bool false, .slice x3 y3 z3, .bool false, .slice x2 y2 z2] 42)).cell? ⟨b1, 1, none⟩ = some (.slice x1 y1 z1) ∧ (w4.alloc (.cells #[.bool false, .slice x3 y3 z3, .bool false, .slice x2 y2 z2] 42)).cell? ⟨b1, 2, none⟩ = some (.slice x2 y2 z2) ∧ (w4.alloc (.cells #[.bool false, .slice x3 y3 z3, .bool false, .slice x2 y2 z2] 42)).cell? ⟨b2, 0, none⟩ = some (.bool false) ∧ (w4.alloc (.cells #[.bool false, .slice x3 y3 z3, .bool false, .slice x2 y2 z2] 42)).cell? ⟨b2, 1, none⟩ = some (.slice x3 y3 z3) ∧ (w4.alloc (.cells #[.bool false, .slice x3 y3 z3, .bool false, .slice x2 y2 z2] 42)).cell? ⟨b2, 2, none⟩ = some (.slice x4 y4 z4) := ⟨A4.cell hT4.1, A4.cell hT4.2.1, A4.cell hT4.2.2.1, A4.cell hT4.2.2.2.1, A4.cell hT4.2.2.2.2.1, A4.cell hT4.2.2.2.2.2⟩
  refine hK _ _ (fun _ => trivial) hT5 ?_
  clear hK K
  try simp only [Act.put, List.setIfInBounds_toArray, List.set_cons_zero, List.set_cons_succ]
  have G5 := G4.trans A4
  have hx5 := hx.ext (E4.trans A4)
  have Z5 : ZTwo (w4.alloc (.cells #[.bool false, .slice x3 y3 z3, .bool false, .slice x2 y2 z2] 42)) w4.heap.size n2 d1 :=
    ⟨⟨x3, y3, z3, by simp [go_sem], by simp [go_sem], i3.ext G5⟩, ⟨x2, y2, z2, by simp [go_sem], by simp [go_sem], i2.ext G5⟩⟩
  generalize w4.heap.size = g4 at Z5 ⊢
  generalize (w4.alloc (.cells #[.bool false, .slice x3 y3 z3, .bool false, .slice x2 y2 z2] 42)) = w5 at Z5 G5 hT5 hx5 ⊢
  clear hT4 A4 G4 E4 hT3 G3 E3 hT2 G2 Z2 hx
  refine wpAnyT_one (i := 13) (by kernel_rfl) rfl (fun K hK => ?_)
  go_simp
  refine (product_two Z5 HT.out.2.2.1 HT.out.2.1 HT.out.2.2.2.2.2).mono ?_
  rintro e w6 ⟨_, rfl, E6, x6, y6, z6, rfl, hy, _⟩
  try simp only []
  have hT6 : w6.cell? ⟨b1, 0, none⟩ = some (.bool false) ∧ w6.cell? ⟨b1, 1, none⟩ = some (.slice x1 y1 z1) ∧ w6.cell? ⟨b1, 2, none⟩ = some (.slice x2 y2 z2) ∧ w6.cell? ⟨b2, 0, none⟩ = some (.bool false) ∧ w6.cell? ⟨b2, 1, none⟩ = some (.slice x3 y3 z3) ∧ w6.cell? ⟨b2, 2, none⟩ = some (.slice x4 y4 z4) := ⟨E6.cell hT5.1, E6.cell hT5.2.1, E6.cell hT5.2.2.1, E6.cell hT5.2.2.2.1, E6.cell hT5.2.2.2.2.1, E6.cell hT5.2.2.2.2.2⟩
  have G6 := G5.trans E6
  refine hK _ _ (fun _ => trivial) hT6 ?_
  clear hK K
  try simp only [Act.put, List.setIfInBounds_toArray, List.set_cons_zero, List.set_cons_succ]
  refine wpAnyT_one (i := 14) (by kernel_rfl) rfl (fun K hK => ?_)
  go_simp
  refine (zcmp_pos x5 x6 y5 z5 y6 z6 (n1 * d2) (n2 * d1) _ (hx5.ext E6).is hy.is).mono ?_
  rintro e w7 ⟨_, rfl, E7, rfl⟩
  rw [← HC.out]
  try simp only []
  have hT7 : w7.cell? ⟨b1, 0, none⟩ = some (.bool false) ∧ w7.cell? ⟨b1, 1, none⟩ = some (.slice x1 y1 z1) ∧ w7.cell? ⟨b1, 2, none⟩ = some (.slice x2 y2 z2) ∧ w7.cell? ⟨b2, 0, none⟩ = some (.bool false) ∧ w7.cell? ⟨b2, 1, none⟩ = some (.slice x3 y3 z3) ∧ w7.cell? ⟨b2, 2, none⟩ = some (.slice x4 y4 z4) := ⟨E7.cell hT6.1, E7.cell hT6.2.1, E7.cell hT6.2.2.1, E7.cell hT6.2.2.2.1, E7.cell hT6.2.2.2.2.1, E7.cell hT6.2.2.2.2.2⟩
  have G7 := G6.trans E7
  refine hK _ _ (fun _ => trivial) hT7 ?_
  clear hK K
  try simp only [Act.put, List.setIfInBounds_toArray, List.set_cons_zero, List.set_cons_succ]
  refine wpAnyT_one (i := 15) (by kernel_rfl) rfl (fun K hK => ?_)
  go_simp
  refine hK _ _ (fun _ => trivial) hT7 ?_
  clear hK K
  try simp only [Act.put, List.setIfInBounds_toArray, List.set_cons_zero, List.set_cons_succ]
  refine wpAnyT_done (by kernel_rfl) ?_ _
  try simp only [Act.put, List.setIfInBounds_toArray, List.set_cons_zero, List.set_cons_succ]
  go_wp2
  go_ret
  exact Post.mk (HG.out.trans G7) rfl
end Go.Proofs.Ytgihjgkpmochcaa

namespace Go.Proofs.Ytgihjgkpmochcaa
open Go.RowKit

theorem faceI1_idle (p q : Addr) (w : World) :
    CallsD Try.prog 84 #[.pointer (some p), .pointer (some q)] .returning w fun e u' w' => e = .returned (.tuple #[]) ∧ u' = .returning ∧ w' = w := by
  refine callsD_of_wpS Try.func84 rfl fun c₀ cs hu => ?_
  apply wpS_seq
  apply wpS_region
  simp [wpOpsS, go_sem, recoverD, hu, Try.ntmps84, Exit.thenS]
  rw [tmps_two]
  refine wpS_of_wp ?_
  go_wp2
  cases c₀
  simp_all [bodyPostS, results, Try.results84]

set_option maxHeartbeats 1000000 in
theorem faceI_ok (b1 b2 : Nat) (x : Int) (w : World)
    (hdo : ∀ W, Ext w W → Calls Try.prog 68 #[.pointer (some ⟨b1, 0, none⟩), .pointer (some ⟨b2, 0, none⟩)] W (Post W fun v _ => v = .int .i64 x)) :
    Calls Try.prog 67 #[.func (.func 68) #[] #[.pointer (some ⟨b1, 0, none⟩), .pointer (some ⟨b2, 0, none⟩)]] w (Post w fun v _ => v = .tuple #[.int .i64 x, .int .i64 0]) := by
  have hdo' := Lib.hid hdo
  clear hdo
  have hmf : ∀ (fn : Fn) (first cap : Array Value) (w : World), (Instr.makeFunc fn first cap).run Try.prog w = .ok (.func fn first cap) w := fun _ _ _ _ => rfl
  go_enter_defers Try.func67, Try.ntmps67
  go_wp2_with fail
  refine (hdo'.out _ (by repeat (first | with_reducible exact Ext.refl _ | with_reducible assumption | (with_reducible refine Ext.alloc ?_ _) | (with_reducible refine Ext.drew ?_) | (with_reducible refine Ext.drewN ?_ _) | (with_reducible refine Ext.set ?_ (by first | (simp; done) | (simp; omega)) _) | (with_reducible refine Ext.trans ?_ (by with_reducible assumption))))).mono ?_
  rintro e w1 ⟨_, rfl, E1, rfl⟩
  clear hdo'
  obtain ⟨hc, hf⟩ := E1.look
  have hz := E1.size
  simp at hz
  go_wp2
  refine leaves_cons (f := 84) (args := #[.pointer (some ⟨w.heap.size, 0, none⟩), .pointer (some ⟨w.heap.size + 1, 0, none⟩)]) (by simp) (by simp [go_sem]) ?_
  refine (faceI1_idle _ _ _).mono ?_
  rintro e u' w'' ⟨rfl, rfl, rfl⟩
  simp only [Leaves, settle]
  exact ⟨_, by simp [results, Try.results67, go_sem, hc], Post.mk (by repeat (first | with_reducible exact Ext.refl _ | with_reducible assumption | (with_reducible refine Ext.alloc ?_ _) | (with_reducible refine Ext.drew ?_) | (with_reducible refine Ext.drewN ?_ _) | (with_reducible refine Ext.set ?_ (by first | (simp; done) | (simp; omega)) _) | (with_reducible refine Ext.trans ?_ (by with_reducible assumption)))) rfl⟩

set_option maxHeartbeats 1000000 in
theorem fcmp_pos (x1 x2 x3 x4 : Option Addr) (y1 z1 y2 z2 y3 z3 y4 z4 n1 d1 n2 d2 : Nat) (w : World)
    (h1 : IsN w (.slice x1 y1 z1) n1) (h2 : IsN w (.slice x2 y2 z2) d1) (h3 : IsN w (.slice x3 y3 z3) n2) (h4 : IsN w (.slice x4 y4 z4) d2)
    (t1 : n1 < Top) (t2 : d1 < Top) (t3 : n2 < Top) (t4 : d2 < Top) (t5 : n1 * d2 < Top) (t6 : n2 * d1 < Top) (e1 : d1 ≠ 0) (e2 : d2 ≠ 0) :
    Calls Try.prog 48 #[.agg #[.bool false, .slice x1 y1 z1, .slice x2 y2 z2], .agg #[.bool false, .slice x3 y3 z3, .slice x4 y4 z4]] w (Post w fun v _ => v = .tuple #[.int .i64 (cmpN (n1 * d2) (n2 * d1)), .int .i64 0]) := by
  have HT := Lib.hid (And.intro t1 (And.intro t2 (And.intro t3 (And.intro t4 (And.intro t5 (And.intro t6 (And.intro e1 e2)))))))
  clear t1 t2 t3 t4 t5 t6 e1 e2
  have hmf : ∀ (fn : Fn) (first cap : Array Value) (w : World), (Instr.makeFunc fn first cap).run Try.prog w = .ok (.func fn first cap) w := fun _ _ _ _ => rfl
  go_enter Try.func48, Try.ntmps48
  go_wp2_with fail
  refine (faceI_ok w.heap.size (w.heap.size + 1) (cmpN (n1 * d2) (n2 * d1)) _ fun W hW => ?_).mono ?_
  · exact cmp1_pos _ _ x1 x2 x3 x4 y1 z1 y2 z2 y3 z3 y4 z4 n1 d1 n2 d2 W (hW.cell (by simp [go_sem])) (hW.cell (by simp [go_sem])) (hW.cell (by simp [go_sem])) (hW.cell (by simp [go_sem])) (hW.cell (by simp [go_sem])) (hW.cell (by simp [go_sem])) (h1.ext (by repeat (first | with_reducible exact Ext.refl _ | with_reducible assumption | (with_reducible refine Ext.alloc ?_ _) | (with_reducible refine Ext.drew ?_) | (with_reducible refine Ext.drewN ?_ _) | (with_reducible refine Ext.set ?_ (by first | (simp; done) | (simp; omega)) _) | (with_reducible refine Ext.trans ?_ (by with_reducible assumption))))) (h2.ext (by repeat (first | with_reducible exact Ext.refl _ | with_reducible assumption | (with_reducible refine Ext.alloc ?_ _) | (with_reducible refine Ext.drew ?_) | (with_reducible refine Ext.drewN ?_ _) | (with_reducible refine Ext.set ?_ (by first | (simp; done) | (simp; omega)) _) | (with_reducible refine Ext.trans ?_ (by with_reducible assumption))))) (h3.ext (by repeat (first | with_reducible exact Ext.refl _ | with_reducible assumption | (with_reducible refine Ext.alloc ?_ _) | (with_reducible refine Ext.drew ?_) | (with_reducible refine Ext.drewN ?_ _) | (with_reducible refine Ext.set ?_ (by first | (simp; done) | (simp; omega)) _) | (with_reducible refine Ext.trans ?_ (by with_reducible assumption))))) (h4.ext (by repeat (first | with_reducible exact Ext.refl _ | with_reducible assumption | (with_reducible refine Ext.alloc ?_ _) | (with_reducible refine Ext.drew ?_) | (with_reducible refine Ext.drewN ?_ _) | (with_reducible refine Ext.set ?_ (by first | (simp; done) | (simp; omega)) _) | (with_reducible refine Ext.trans ?_ (by with_reducible assumption))))) HT.out.1 HT.out.2.1 HT.out.2.2.1 HT.out.2.2.2.1 HT.out.2.2.2.2.1 HT.out.2.2.2.2.2.1 HT.out.2.2.2.2.2.2.1 HT.out.2.2.2.2.2.2.2
  rintro e w1 ⟨_, rfl, E1, rfl⟩
  obtain ⟨cc, hcc⟩ : ∃ cc, cc = cmpN (n1 * d2) (n2 * d1) := ⟨_, rfl⟩
  rw [← hcc]
  have HC := Lib.hid hcc
  clear hcc
  go_wp2
  go_ret2
  exact Post.mk (by repeat (first | with_reducible exact Ext.refl _ | with_reducible assumption | (with_reducible refine Ext.alloc ?_ _) | (with_reducible refine Ext.drew ?_) | (with_reducible refine Ext.drewN ?_ _) | (with_reducible refine Ext.set ?_ (by first | (simp; done) | (simp; omega)) _) | (with_reducible refine Ext.trans ?_ (by with_reducible assumption)))) (by rw [← HC.out]; rfl)
end Go.Proofs.Ytgihjgkpmochcaa
