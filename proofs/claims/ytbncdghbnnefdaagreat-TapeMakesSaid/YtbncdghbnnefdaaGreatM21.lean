/- Parts of the proof: contracts of the functions that the law reaches, and the arithmetic that they rest on; no condition beyond those that each theorem states. -/
import Derived.Test.YtbncdghbnnefdaaGreatM14
import Derived.Test.YtbncdghbnnefdaaGreatM17
import Derived.Test.YtbncdghbnnefdaaGreatM20

namespace Go.Proofs.YtbncdghbnnefdaaGreat
open Go.RowKit

/-- All numbers are small enough for the reference. -/
def SmL (L : List Step) : Prop := ∀ s ∈ L, Sm 2040 (val s.xs) ∧ Sm 2040 (val s.ys)
set_option maxRecDepth 100000 in
set_option maxHeartbeats 4000000 in
theorem rsameNode_any (v u : Value) (s t : Step) (w : World) (h1 : IsStep w v s) (h2 : IsStep w u t) :
    Calls Tryz.prog 39 #[v, u] w (Post w fun r _ => r = .bool (sameS s t)) := by
  obtain ⟨a1, n1, c1, a2, n2, c2, rfl, g1, g2, g3, g4, g5⟩ := h1
  obtain ⟨a3, n3, c3, a4, n4, c4, rfl, k1, k2, k3, k4, k5⟩ := h2
  have HX := Lib.hid (fun W (e : Ext w W) => rlimbs_any a1 a3 n1 c1 n3 c3 s.xs t.xs W (g1.ext e) (k1.ext e))
  have HY := Lib.hid (fun W (e : Ext w W) => rlimbs_any a2 a4 n2 c2 n4 c4 s.ys t.ys W (g2.ext e) (k2.ext e))
  obtain ⟨q, hq⟩ : ∃ q, q = sameS s t := ⟨_, rfl⟩
  rw [← hq]
  clear g1 g2 k1 k2
  by_cases e0 : s.op = t.op
  rotate_left
  · have b0 : (((s.op : Nat) : Int) == ((t.op : Nat) : Int)) = false := by simp; omega
    have e : q = false := by rw [hq]; simp [sameS, sameC, e0]
    subst e
    clear hq HX HY e0
    go_enter Tryz.func39, Tryz.ntmps39
    go_wp2
    go_ret
    exact Post.mk (by repeat (first | with_reducible exact Ext.refl _ | with_reducible assumption | (with_reducible refine Ext.alloc ?_ _) | (with_reducible refine Ext.drew ?_) | (with_reducible refine Ext.drewN ?_ _) | (with_reducible refine Ext.set ?_ (by first | (simp; done) | (simp; omega)) _) | (with_reducible refine Ext.trans ?_ (by with_reducible assumption)))) rfl
  have b0 : (((s.op : Nat) : Int) == ((t.op : Nat) : Int)) = true := by simp [e0]
  by_cases e1 : s.a = t.a
  rotate_left
  · have b1 : (s.a == t.a) = false := by simp [e1]
    have e : q = false := by rw [hq]; simp [sameS, sameC, e1]
    subst e
    clear hq HX HY e0 e1
    go_enter Tryz.func39, Tryz.ntmps39
    go_wp2
    go_ret
    exact Post.mk (by repeat (first | with_reducible exact Ext.refl _ | with_reducible assumption | (with_reducible refine Ext.alloc ?_ _) | (with_reducible refine Ext.drew ?_) | (with_reducible refine Ext.drewN ?_ _) | (with_reducible refine Ext.set ?_ (by first | (simp; done) | (simp; omega)) _) | (with_reducible refine Ext.trans ?_ (by with_reducible assumption)))) rfl
  have b1 : (s.a == t.a) = true := by simp [e1]
  by_cases e2 : s.b = t.b
  rotate_left
  · have b2 : (s.b == t.b) = false := by simp [e2]
    have e : q = false := by rw [hq]; simp [sameS, sameC, e2]
    subst e
    clear hq HX HY e0 e1 e2
    go_enter Tryz.func39, Tryz.ntmps39
    go_wp2
    go_ret
    exact Post.mk (by repeat (first | with_reducible exact Ext.refl _ | with_reducible assumption | (with_reducible refine Ext.alloc ?_ _) | (with_reducible refine Ext.drew ?_) | (with_reducible refine Ext.drewN ?_ _) | (with_reducible refine Ext.set ?_ (by first | (simp; done) | (simp; omega)) _) | (with_reducible refine Ext.trans ?_ (by with_reducible assumption)))) rfl
  have b2 : (s.b == t.b) = true := by simp [e2]
  by_cases e3 : s.neg = t.neg
  rotate_left
  · have b3 : (s.neg == t.neg) = false := by simp [e3]
    have e : q = false := by rw [hq]; simp [sameS, sameC, e3]
    subst e
    clear hq HX HY e0 e1 e2 e3
    go_enter Tryz.func39, Tryz.ntmps39
    go_wp2
    go_ret
    exact Post.mk (by repeat (first | with_reducible exact Ext.refl _ | with_reducible assumption | (with_reducible refine Ext.alloc ?_ _) | (with_reducible refine Ext.drew ?_) | (with_reducible refine Ext.drewN ?_ _) | (with_reducible refine Ext.set ?_ (by first | (simp; done) | (simp; omega)) _) | (with_reducible refine Ext.trans ?_ (by with_reducible assumption)))) rfl
  have b3 : (s.neg == t.neg) = true := by simp [e3]
  have hxy : q = (sameL s.xs t.xs && sameL s.ys t.ys) := by rw [hq]; simp [sameS, sameC, e0, e1, e2, e3]
  obtain ⟨x, hx⟩ : ∃ x, x = sameL s.xs t.xs := ⟨_, rfl⟩
  obtain ⟨y, hy⟩ : ∃ y, y = sameL s.ys t.ys := ⟨_, rfl⟩
  rw [← hx] at HX hxy
  rw [← hy] at HY hxy
  clear hq hx hy e0 e1 e2 e3
  cases x
  · obtain rfl : q = false := hxy
    clear HY
    go_enter Tryz.func39, Tryz.ntmps39
    go_wp2_with fail
    refine (HX.out _ (by repeat (first | with_reducible exact Ext.refl _ | with_reducible assumption | (with_reducible refine Ext.alloc ?_ _) | (with_reducible refine Ext.drew ?_) | (with_reducible refine Ext.drewN ?_ _) | (with_reducible refine Ext.set ?_ (by first | (simp; done) | (simp; omega)) _) | (with_reducible refine Ext.trans ?_ (by with_reducible assumption))))).mono ?_
    rintro e w1 ⟨_, rfl, E1, rfl⟩
    go_wp2
    go_ret
    exact Post.mk (by repeat (first | with_reducible exact Ext.refl _ | with_reducible assumption | (with_reducible refine Ext.alloc ?_ _) | (with_reducible refine Ext.drew ?_) | (with_reducible refine Ext.drewN ?_ _) | (with_reducible refine Ext.set ?_ (by first | (simp; done) | (simp; omega)) _) | (with_reducible refine Ext.trans ?_ (by with_reducible assumption)))) rfl
  · obtain rfl : q = y := hxy
    go_enter Tryz.func39, Tryz.ntmps39
    go_wp2_with fail
    refine (HX.out _ (by repeat (first | with_reducible exact Ext.refl _ | with_reducible assumption | (with_reducible refine Ext.alloc ?_ _) | (with_reducible refine Ext.drew ?_) | (with_reducible refine Ext.drewN ?_ _) | (with_reducible refine Ext.set ?_ (by first | (simp; done) | (simp; omega)) _) | (with_reducible refine Ext.trans ?_ (by with_reducible assumption))))).mono ?_
    rintro e w1 ⟨_, rfl, E1, rfl⟩
    obtain ⟨hc, hf⟩ := E1.look
    have hz := E1.size
    simp at hz
    go_wp2_with fail
    refine (HY.out _ (by repeat (first | with_reducible exact Ext.refl _ | with_reducible assumption | (with_reducible refine Ext.alloc ?_ _) | (with_reducible refine Ext.drew ?_) | (with_reducible refine Ext.drewN ?_ _) | (with_reducible refine Ext.set ?_ (by first | (simp; done) | (simp; omega)) _) | (with_reducible refine Ext.trans ?_ (by with_reducible assumption))))).mono ?_
    rintro e w2 ⟨_, rfl, E2, rfl⟩
    cases q
    · go_wp2
      go_ret
      exact Post.mk (by repeat (first | with_reducible exact Ext.refl _ | with_reducible assumption | (with_reducible refine Ext.alloc ?_ _) | (with_reducible refine Ext.drew ?_) | (with_reducible refine Ext.drewN ?_ _) | (with_reducible refine Ext.set ?_ (by first | (simp; done) | (simp; omega)) _) | (with_reducible refine Ext.trans ?_ (by with_reducible assumption)))) rfl
    · go_wp2
      go_ret
      exact Post.mk (by repeat (first | with_reducible exact Ext.refl _ | with_reducible assumption | (with_reducible refine Ext.alloc ?_ _) | (with_reducible refine Ext.drew ?_) | (with_reducible refine Ext.drewN ?_ _) | (with_reducible refine Ext.set ?_ (by first | (simp; done) | (simp; omega)) _) | (with_reducible refine Ext.trans ?_ (by with_reducible assumption)))) rfl
set_option maxRecDepth 100000 in
set_option maxHeartbeats 4000000 in
theorem rcheck_head (pars out : Int) (a1 a2 : Option Addr) (n1 c1 n2 c2 : Nat) (w : World) (hn : n1 ≤ 65536) (h : ¬ headOk pars out n1) :
    Calls Tryz.prog 25 #[.agg #[.int .i64 pars, .int .i64 out, .slice a1 n1 c1, .slice a2 n2 c2]] w (Post w fun v _ => v = .int .i64 170) := by
  unfold headOk at h
  by_cases h1 : pars < 0
  · clear h
    go_enter Tryz.func25, Tryz.ntmps25
    go_wp2
    go_ret
    exact Post.mk (by repeat (first | with_reducible exact Ext.refl _ | with_reducible assumption | (with_reducible refine Ext.alloc ?_ _) | (with_reducible refine Ext.drew ?_) | (with_reducible refine Ext.drewN ?_ _) | (with_reducible refine Ext.set ?_ (by first | (simp; done) | (simp; omega)) _) | (with_reducible refine Ext.trans ?_ (by with_reducible assumption)))) rfl
  · by_cases h2 : 200 < pars
    · clear h
      go_enter Tryz.func25, Tryz.ntmps25
      go_wp2
      go_ret
      exact Post.mk (by repeat (first | with_reducible exact Ext.refl _ | with_reducible assumption | (with_reducible refine Ext.alloc ?_ _) | (with_reducible refine Ext.drew ?_) | (with_reducible refine Ext.drewN ?_ _) | (with_reducible refine Ext.set ?_ (by first | (simp; done) | (simp; omega)) _) | (with_reducible refine Ext.trans ?_ (by with_reducible assumption)))) rfl
    · by_cases h3 : (n1 : Int) < 1
      · clear h
        go_enter Tryz.func25, Tryz.ntmps25
        go_wp2
        go_ret
        exact Post.mk (by repeat (first | with_reducible exact Ext.refl _ | with_reducible assumption | (with_reducible refine Ext.alloc ?_ _) | (with_reducible refine Ext.drew ?_) | (with_reducible refine Ext.drewN ?_ _) | (with_reducible refine Ext.set ?_ (by first | (simp; done) | (simp; omega)) _) | (with_reducible refine Ext.trans ?_ (by with_reducible assumption)))) rfl
      · by_cases h4 : (20000 : Int) < n1
        · clear h
          go_enter Tryz.func25, Tryz.ntmps25
          go_wp2
          go_ret
          exact Post.mk (by repeat (first | with_reducible exact Ext.refl _ | with_reducible assumption | (with_reducible refine Ext.alloc ?_ _) | (with_reducible refine Ext.drew ?_) | (with_reducible refine Ext.drewN ?_ _) | (with_reducible refine Ext.set ?_ (by first | (simp; done) | (simp; omega)) _) | (with_reducible refine Ext.trans ?_ (by with_reducible assumption)))) rfl
        · by_cases h5 : out < 0
          · clear h
            go_enter Tryz.func25, Tryz.ntmps25
            go_wp2
            go_ret
            exact Post.mk (by repeat (first | with_reducible exact Ext.refl _ | with_reducible assumption | (with_reducible refine Ext.alloc ?_ _) | (with_reducible refine Ext.drew ?_) | (with_reducible refine Ext.drewN ?_ _) | (with_reducible refine Ext.set ?_ (by first | (simp; done) | (simp; omega)) _) | (with_reducible refine Ext.trans ?_ (by with_reducible assumption)))) rfl
          · have h6 : (n1 : Int) ≤ out := by omega
            clear h
            go_enter Tryz.func25, Tryz.ntmps25
            go_wp2
            go_ret
            exact Post.mk (by repeat (first | with_reducible exact Ext.refl _ | with_reducible assumption | (with_reducible refine Ext.alloc ?_ _) | (with_reducible refine Ext.drew ?_) | (with_reducible refine Ext.drewN ?_ _) | (with_reducible refine Ext.set ?_ (by first | (simp; done) | (simp; omega)) _) | (with_reducible refine Ext.trans ?_ (by with_reducible assumption)))) rfl

set_option linter.unusedSimpArgs false in
set_option maxRecDepth 100000 in
set_option maxHeartbeats 4000000 in
theorem rcheck_main (pars out : Int) (a1 a2 : Option Addr) (n1 c1 n2 c2 : Nat) (L : List Step) (T : List (ByteArray × Int)) (w : World) (hs : Steps w a1 n1 c1 L) (ht : Tells w a2 n2 c2 T) (hsm : SmL L) (h : headOk pars out n1) :
    Calls Tryz.prog 25 #[.agg #[.int .i64 pars, .int .i64 out, .slice a1 n1 c1, .slice a2 n2 c2]] w (Post w fun v _ => v = .int .i64 ((if allR L pars = true ∧ allT T n1 = true then 0 else 170 : Nat) : Int)) := by
  obtain ⟨g1, g2, g3, g4, g5, g6⟩ := h
  have f2 := ht.few
  have g1' : ¬ pars < 0 := by omega
  have g2' : ¬ 200 < pars := by omega
  have g3' : ¬ (n1 : Int) < 1 := by omega
  have g4' : ¬ (20000 : Int) < n1 := by omega
  have g5' : ¬ out < 0 := by omega
  have g6' : ¬ (n1 : Int) ≤ out := by omega
  have HSM := Lib.hid hsm
  clear g1 g2 g5 hsm
  obtain ⟨R, hR0⟩ : ∃ R : Nat, R = if allR L pars = true ∧ allT T n1 = true then 0 else 170 := ⟨_, rfl⟩
  rw [← hR0]
  have HR0 := Lib.hid hR0
  clear hR0
  go_enter Tryz.func25, Tryz.ntmps25
  go_wp2
  obtain ⟨W0, hW0⟩ : ∃ W0, W0 = w.alloc (.cells #[.int .i64 pars, .int .i64 out, .slice a1 n1 c1, .slice a2 n2 c2] 53) := ⟨_, rfl⟩
  obtain ⟨tb, htb⟩ : ∃ tb, tb = w.heap.size := ⟨_, rfl⟩
  have E0 : Ext w W0 := by rw [hW0]; exact (by repeat (first | with_reducible exact Ext.refl _ | with_reducible assumption | (with_reducible refine Ext.alloc ?_ _) | (with_reducible refine Ext.drew ?_) | (with_reducible refine Ext.drewN ?_ _) | (with_reducible refine Ext.set ?_ (by first | (simp; done) | (simp; omega)) _) | (with_reducible refine Ext.trans ?_ (by with_reducible assumption))))
  have z0 : W0.cell? ⟨tb, 0, none⟩ = some (.int .i64 pars) := by rw [hW0, htb]; simp [go_sem]
  have z2 : W0.cell? ⟨tb, 2, none⟩ = some (.slice a1 n1 c1) := by rw [hW0, htb]; simp [go_sem]
  have z3 : W0.cell? ⟨tb, 3, none⟩ = some (.slice a2 n2 c2) := by rw [hW0, htb]; simp [go_sem]
  rw [← hW0, ← htb]
  clear hW0 htb
  go_loopw [4] (fun k wr => ∃ j : Nat, j ≤ n1 ∧ k = .int .i64 j ∧ Hid (∀ (i : Nat) (s : Step), i < j → L[i]? = some s → rightP s i pars = true) ∧ Ext W0 wr) (fun k _ => n1 - (intOf k).toNat)
  case atStart => exact ⟨0, Nat.zero_le _, rfl, Lib.hid (fun i s h => by omega), Ext.refl _⟩
  case round =>
    obtain ⟨j, hj, rfl, hall, hext⟩ := hrel
    have y0 := hext.cell z0
    have y2 := hext.cell z2
    by_cases hlt : j < n1
    · have hlt' : ((j : Nat) : Int) < n1 := by omega
      obtain ⟨b, off, s, rfl, hj', a3, n3, c3, a4, n4, c4, q0, q1, q2, q3, q4, q5, q6, q7, q8⟩ := ((hs.ext E0).ext hext).at hlt
      have hst : IsStep wr (.agg #[.int .u8 s.op, .int .i64 s.a, .int .i64 s.b, .bool s.neg, .slice a3 n3 c3, .slice a4 n4 c4]) s := ⟨_, _, _, _, _, _, rfl, q6, q7, q8⟩
      have hsm := HSM.out s (List.mem_of_getElem? hj')
      have HR := Lib.hid (fun W (e : Ext wr W) => rright_any _ s j pars W (hst.ext e) hsm.1 hsm.2)
      obtain ⟨r, hr⟩ : ∃ r, r = rightP s j pars := ⟨_, rfl⟩
      rw [← hr] at HR
      have Hr := Lib.hid hr
      have Hj := Lib.hid hj'
      clear hst q6 q7 q8 hr hj' hsm
      go_wp2_with fail
      cases r
      · have hf : ¬ (allR L pars = true ∧ allT T n1 = true) := by
          rintro ⟨h, _⟩
          have := (allR_iff L pars).1 h j s Hj.out
          rw [← Hr.out] at this
          cases this
        have Hf := Lib.hid (HR0.out.trans (if_neg hf))
        clear hf
        refine wp_region_T (fun _ => True) (fun w' : World => w'.cell? ⟨tb, 2, none⟩ = some (.slice (some ⟨b, off, none⟩) n1 c1) ∧ w'.cell? ⟨tb, 0, none⟩ = some (.int .i64 pars) ∧ w'.cell? ⟨b, off + j * 6, none⟩ = some (.int .u8 s.op) ∧ w'.cell? ⟨b, off + j * 6 + 1, none⟩ = some (.int .i64 s.a) ∧ w'.cell? ⟨b, off + j * 6 + 2, none⟩ = some (.int .i64 s.b) ∧ w'.cell? ⟨b, off + j * 6 + 3, none⟩ = some (.bool s.neg) ∧ w'.cell? ⟨b, off + j * 6 + 4, none⟩ = some (.slice a3 n3 c3) ∧ w'.cell? ⟨b, off + j * 6 + 5, none⟩ = some (.slice a4 n4 c4)) 99 10 (by rfl) (by kernel_rfl) ?_
        have hT0 : wr.drew.cell? ⟨tb, 2, none⟩ = some (.slice (some ⟨b, off, none⟩) n1 c1) ∧ wr.drew.cell? ⟨tb, 0, none⟩ = some (.int .i64 pars) ∧ wr.drew.cell? ⟨b, off + j * 6, none⟩ = some (.int .u8 s.op) ∧ wr.drew.cell? ⟨b, off + j * 6 + 1, none⟩ = some (.int .i64 s.a) ∧ wr.drew.cell? ⟨b, off + j * 6 + 2, none⟩ = some (.int .i64 s.b) ∧ wr.drew.cell? ⟨b, off + j * 6 + 3, none⟩ = some (.bool s.neg) ∧ wr.drew.cell? ⟨b, off + j * 6 + 4, none⟩ = some (.slice a3 n3 c3) ∧ wr.drew.cell? ⟨b, off + j * 6 + 5, none⟩ = some (.slice a4 n4 c4) := ⟨y2, y0, q0, q1, q2, q3, q4, q5⟩
        refine wpAnyT_take' (i := 0) (some 41) (v := ?_) rfl rfl (by kernel_rfl) (by kernel_rfl) (by kernel_rfl) (by decide) (fun _ _ _ h => h) (Or.inl ⟨by rfl, ?_⟩) (fun _ => trivial) hT0 ?_
        rotate_left
        · (intro w hSw; (try dsimp only at hSw); go_simp); try with_reducible rfl
        try simp only [Act.put, List.setIfInBounds_toArray, List.set_cons_zero, List.set_cons_succ]
        refine wpAnyT_take' (i := 1) (some 42) (v := ?_) rfl rfl (by kernel_rfl) (by kernel_rfl) (by kernel_rfl) (by decide) (fun _ _ _ h => h) (Or.inl ⟨by rfl, ?_⟩) (fun _ => trivial) hT0 ?_
        rotate_left
        · (intro w hSw; (try dsimp only at hSw); go_simp); try with_reducible rfl
        try simp only [Act.put, List.setIfInBounds_toArray, List.set_cons_zero, List.set_cons_succ]
        refine wpAnyT_take' (i := 2) (some 43) (v := ?_) rfl rfl (by kernel_rfl) (by kernel_rfl) (by kernel_rfl) (by decide) (fun _ _ _ h => h) (Or.inl ⟨by rfl, ?_⟩) (fun _ => trivial) hT0 ?_
        rotate_left
        · (intro w hSw; (try dsimp only at hSw); go_simp); try with_reducible rfl
        try simp only [Act.put, List.setIfInBounds_toArray, List.set_cons_zero, List.set_cons_succ]
        refine wpAnyT_take' (i := 3) (some 44) (v := ?_) rfl rfl (by kernel_rfl) (by kernel_rfl) (by kernel_rfl) (by decide) (fun _ _ _ h => h) (Or.inl ⟨by rfl, ?_⟩) (fun _ => trivial) hT0 ?_
        rotate_left
        · (intro w hSw; (try dsimp only at hSw); go_simp); try with_reducible rfl
        try simp only [Act.put, List.setIfInBounds_toArray, List.set_cons_zero, List.set_cons_succ]
        refine wpAnyT_take' (i := 4) (some 45) (v := ?_) rfl rfl (by kernel_rfl) (by kernel_rfl) (by kernel_rfl) (by decide) (fun _ _ _ h => h) (Or.inl ⟨by rfl, ?_⟩) (fun _ => trivial) hT0 ?_
        rotate_left
        · (intro w hSw; (try dsimp only at hSw); go_simp); try with_reducible rfl
        try simp only [Act.put, List.setIfInBounds_toArray, List.set_cons_zero, List.set_cons_succ]
        refine wpAnyT_take' (i := 5) (some 46) (v := ?_) rfl rfl (by kernel_rfl) (by kernel_rfl) (by kernel_rfl) (by decide) (fun _ _ _ h => h) (Or.inl ⟨by rfl, ?_⟩) (fun _ => trivial) hT0 ?_
        rotate_left
        · (intro w hSw; (try dsimp only at hSw); go_simp); try with_reducible rfl
        try simp only [Act.put, List.setIfInBounds_toArray, List.set_cons_zero, List.set_cons_succ]
        refine wpAnyT_take' (i := 6) (some 47) (v := ?_) rfl rfl (by kernel_rfl) (by kernel_rfl) (by kernel_rfl) (by decide) (fun _ _ _ h => h) (Or.inl ⟨by rfl, ?_⟩) (fun _ => trivial) hT0 ?_
        rotate_left
        · (intro w hSw; (try dsimp only at hSw); go_simp); try with_reducible rfl
        try simp only [Act.put, List.setIfInBounds_toArray, List.set_cons_zero, List.set_cons_succ]
        refine wpAnyT_take' (i := 7) (some 48) (v := ?_) rfl rfl (by kernel_rfl) (by kernel_rfl) (by kernel_rfl) (by decide) (fun _ _ _ h => h) (Or.inl ⟨by rfl, ?_⟩) (fun _ => trivial) hT0 ?_
        rotate_left
        · (intro w hSw; (try dsimp only at hSw); go_simp); try with_reducible rfl
        try simp only [Act.put, List.setIfInBounds_toArray, List.set_cons_zero, List.set_cons_succ]
        refine wpAnyT_one (i := 8) (by kernel_rfl) rfl (fun K hK => ?_)
        go_simp
        refine (HR.out _ (Ext.refl wr).drew).mono ?_
        rintro e w2 ⟨_, rfl, E2, rfl⟩
        try simp only []
        have hT1 : w2.cell? ⟨tb, 2, none⟩ = some (.slice (some ⟨b, off, none⟩) n1 c1) ∧ w2.cell? ⟨tb, 0, none⟩ = some (.int .i64 pars) ∧ w2.cell? ⟨b, off + j * 6, none⟩ = some (.int .u8 s.op) ∧ w2.cell? ⟨b, off + j * 6 + 1, none⟩ = some (.int .i64 s.a) ∧ w2.cell? ⟨b, off + j * 6 + 2, none⟩ = some (.int .i64 s.b) ∧ w2.cell? ⟨b, off + j * 6 + 3, none⟩ = some (.bool s.neg) ∧ w2.cell? ⟨b, off + j * 6 + 4, none⟩ = some (.slice a3 n3 c3) ∧ w2.cell? ⟨b, off + j * 6 + 5, none⟩ = some (.slice a4 n4 c4) := ⟨E2.cell y2, E2.cell y0, E2.cell q0, E2.cell q1, E2.cell q2, E2.cell q3, E2.cell q4, E2.cell q5⟩
        refine hK _ _ (fun _ => trivial) hT1 ?_
        clear hK K
        try simp only [Act.put, List.setIfInBounds_toArray, List.set_cons_zero, List.set_cons_succ]
        refine wpAnyT_take' (i := 9) (some 50) (v := ?_) rfl rfl (by kernel_rfl) (by kernel_rfl) (by kernel_rfl) (by decide) (fun _ _ _ h => h) (Or.inl ⟨by rfl, ?_⟩) (fun _ => trivial) hT1 ?_
        rotate_left
        · (intro w hSw; (try dsimp only at hSw); go_simp); try with_reducible rfl
        try simp only [Act.put, List.setIfInBounds_toArray, List.set_cons_zero, List.set_cons_succ]
        refine wpAnyT_done (by kernel_rfl) ?_ _
        try simp only [Act.put, List.setIfInBounds_toArray, List.set_cons_zero, List.set_cons_succ]
        clear hT0
        have EF := (E0.trans hext).drew.trans E2
        go_wp2
        go_ret
        exact Post.mk EF (by rw [Hf.out]; rfl)
      · have hn1 : Hid (∀ (i : Nat) (s : Step), i < j + 1 → L[i]? = some s → rightP s i pars = true) := Lib.hid (by
          intro i t hi ht
          by_cases e : i = j
          · subst e
            have := Hj.out
            rw [ht] at this
            cases this
            exact Hr.out.symm
          · exact hall.out i t (by omega) ht)
        refine wp_region_T (fun _ => True) (fun w' : World => w'.cell? ⟨tb, 2, none⟩ = some (.slice (some ⟨b, off, none⟩) n1 c1) ∧ w'.cell? ⟨tb, 0, none⟩ = some (.int .i64 pars) ∧ w'.cell? ⟨b, off + j * 6, none⟩ = some (.int .u8 s.op) ∧ w'.cell? ⟨b, off + j * 6 + 1, none⟩ = some (.int .i64 s.a) ∧ w'.cell? ⟨b, off + j * 6 + 2, none⟩ = some (.int .i64 s.b) ∧ w'.cell? ⟨b, off + j * 6 + 3, none⟩ = some (.bool s.neg) ∧ w'.cell? ⟨b, off + j * 6 + 4, none⟩ = some (.slice a3 n3 c3) ∧ w'.cell? ⟨b, off + j * 6 + 5, none⟩ = some (.slice a4 n4 c4)) 99 10 (by rfl) (by kernel_rfl) ?_
        have hT0 : wr.drew.cell? ⟨tb, 2, none⟩ = some (.slice (some ⟨b, off, none⟩) n1 c1) ∧ wr.drew.cell? ⟨tb, 0, none⟩ = some (.int .i64 pars) ∧ wr.drew.cell? ⟨b, off + j * 6, none⟩ = some (.int .u8 s.op) ∧ wr.drew.cell? ⟨b, off + j * 6 + 1, none⟩ = some (.int .i64 s.a) ∧ wr.drew.cell? ⟨b, off + j * 6 + 2, none⟩ = some (.int .i64 s.b) ∧ wr.drew.cell? ⟨b, off + j * 6 + 3, none⟩ = some (.bool s.neg) ∧ wr.drew.cell? ⟨b, off + j * 6 + 4, none⟩ = some (.slice a3 n3 c3) ∧ wr.drew.cell? ⟨b, off + j * 6 + 5, none⟩ = some (.slice a4 n4 c4) := ⟨y2, y0, q0, q1, q2, q3, q4, q5⟩
        refine wpAnyT_take' (i := 0) (some 41) (v := ?_) rfl rfl (by kernel_rfl) (by kernel_rfl) (by kernel_rfl) (by decide) (fun _ _ _ h => h) (Or.inl ⟨by rfl, ?_⟩) (fun _ => trivial) hT0 ?_
        rotate_left
        · (intro w hSw; (try dsimp only at hSw); go_simp); try with_reducible rfl
        try simp only [Act.put, List.setIfInBounds_toArray, List.set_cons_zero, List.set_cons_succ]
        refine wpAnyT_take' (i := 1) (some 42) (v := ?_) rfl rfl (by kernel_rfl) (by kernel_rfl) (by kernel_rfl) (by decide) (fun _ _ _ h => h) (Or.inl ⟨by rfl, ?_⟩) (fun _ => trivial) hT0 ?_
        rotate_left
        · (intro w hSw; (try dsimp only at hSw); go_simp); try with_reducible rfl
        try simp only [Act.put, List.setIfInBounds_toArray, List.set_cons_zero, List.set_cons_succ]
        refine wpAnyT_take' (i := 2) (some 43) (v := ?_) rfl rfl (by kernel_rfl) (by kernel_rfl) (by kernel_rfl) (by decide) (fun _ _ _ h => h) (Or.inl ⟨by rfl, ?_⟩) (fun _ => trivial) hT0 ?_
        rotate_left
        · (intro w hSw; (try dsimp only at hSw); go_simp); try with_reducible rfl
        try simp only [Act.put, List.setIfInBounds_toArray, List.set_cons_zero, List.set_cons_succ]
        refine wpAnyT_take' (i := 3) (some 44) (v := ?_) rfl rfl (by kernel_rfl) (by kernel_rfl) (by kernel_rfl) (by decide) (fun _ _ _ h => h) (Or.inl ⟨by rfl, ?_⟩) (fun _ => trivial) hT0 ?_
        rotate_left
        · (intro w hSw; (try dsimp only at hSw); go_simp); try with_reducible rfl
        try simp only [Act.put, List.setIfInBounds_toArray, List.set_cons_zero, List.set_cons_succ]
        refine wpAnyT_take' (i := 4) (some 45) (v := ?_) rfl rfl (by kernel_rfl) (by kernel_rfl) (by kernel_rfl) (by decide) (fun _ _ _ h => h) (Or.inl ⟨by rfl, ?_⟩) (fun _ => trivial) hT0 ?_
        rotate_left
        · (intro w hSw; (try dsimp only at hSw); go_simp); try with_reducible rfl
        try simp only [Act.put, List.setIfInBounds_toArray, List.set_cons_zero, List.set_cons_succ]
        refine wpAnyT_take' (i := 5) (some 46) (v := ?_) rfl rfl (by kernel_rfl) (by kernel_rfl) (by kernel_rfl) (by decide) (fun _ _ _ h => h) (Or.inl ⟨by rfl, ?_⟩) (fun _ => trivial) hT0 ?_
        rotate_left
        · (intro w hSw; (try dsimp only at hSw); go_simp); try with_reducible rfl
        try simp only [Act.put, List.setIfInBounds_toArray, List.set_cons_zero, List.set_cons_succ]
        refine wpAnyT_take' (i := 6) (some 47) (v := ?_) rfl rfl (by kernel_rfl) (by kernel_rfl) (by kernel_rfl) (by decide) (fun _ _ _ h => h) (Or.inl ⟨by rfl, ?_⟩) (fun _ => trivial) hT0 ?_
        rotate_left
        · (intro w hSw; (try dsimp only at hSw); go_simp); try with_reducible rfl
        try simp only [Act.put, List.setIfInBounds_toArray, List.set_cons_zero, List.set_cons_succ]
        refine wpAnyT_take' (i := 7) (some 48) (v := ?_) rfl rfl (by kernel_rfl) (by kernel_rfl) (by kernel_rfl) (by decide) (fun _ _ _ h => h) (Or.inl ⟨by rfl, ?_⟩) (fun _ => trivial) hT0 ?_
        rotate_left
        · (intro w hSw; (try dsimp only at hSw); go_simp); try with_reducible rfl
        try simp only [Act.put, List.setIfInBounds_toArray, List.set_cons_zero, List.set_cons_succ]
        refine wpAnyT_one (i := 8) (by kernel_rfl) rfl (fun K hK => ?_)
        go_simp
        refine (HR.out _ (Ext.refl wr).drew).mono ?_
        rintro e w2 ⟨_, rfl, E2, rfl⟩
        try simp only []
        have hT1 : w2.cell? ⟨tb, 2, none⟩ = some (.slice (some ⟨b, off, none⟩) n1 c1) ∧ w2.cell? ⟨tb, 0, none⟩ = some (.int .i64 pars) ∧ w2.cell? ⟨b, off + j * 6, none⟩ = some (.int .u8 s.op) ∧ w2.cell? ⟨b, off + j * 6 + 1, none⟩ = some (.int .i64 s.a) ∧ w2.cell? ⟨b, off + j * 6 + 2, none⟩ = some (.int .i64 s.b) ∧ w2.cell? ⟨b, off + j * 6 + 3, none⟩ = some (.bool s.neg) ∧ w2.cell? ⟨b, off + j * 6 + 4, none⟩ = some (.slice a3 n3 c3) ∧ w2.cell? ⟨b, off + j * 6 + 5, none⟩ = some (.slice a4 n4 c4) := ⟨E2.cell y2, E2.cell y0, E2.cell q0, E2.cell q1, E2.cell q2, E2.cell q3, E2.cell q4, E2.cell q5⟩
        refine hK _ _ (fun _ => trivial) hT1 ?_
        clear hK K
        try simp only [Act.put, List.setIfInBounds_toArray, List.set_cons_zero, List.set_cons_succ]
        refine wpAnyT_take' (i := 9) (some 50) (v := ?_) rfl rfl (by kernel_rfl) (by kernel_rfl) (by kernel_rfl) (by decide) (fun _ _ _ h => h) (Or.inl ⟨by rfl, ?_⟩) (fun _ => trivial) hT1 ?_
        rotate_left
        · (intro w hSw; (try dsimp only at hSw); go_simp); try with_reducible rfl
        try simp only [Act.put, List.setIfInBounds_toArray, List.set_cons_zero, List.set_cons_succ]
        refine wpAnyT_done (by kernel_rfl) ?_ _
        try simp only [Act.put, List.setIfInBounds_toArray, List.set_cons_zero, List.set_cons_succ]
        have EF := hext.drew.trans E2
        clear hT0 hT1 y0 y2 q0 q1 q2 q3 q4 q5
        go_wp2
        go_roundw
        case rel => exact ⟨j + 1, by omega, by go_num, hn1, EF⟩
        case measure => simp [intOf]; omega
    · have hlt' : ¬ ((j : Nat) : Int) < n1 := by omega
      have hR : allR L pars = true := (allR_iff L pars).2 fun i s hi => hall.out i s (by have := (List.getElem?_eq_some_iff.1 hi).1; have := hs.len; omega) hi
      have HR := Lib.hid hR
      clear hR hall
      have y3 := hext.cell z3
      have ht' := (ht.ext E0).ext hext
      have Eg : Ext w wr := E0.trans hext
      clear hs ht z0 z2 z3 E0 hext y0 y2
      go_wp2_with fail
      obtain ⟨W1, rfl⟩ : ∃ W1 : World, W1 = wr := ⟨_, rfl⟩
      go_loopw [5] (fun k wr => ∃ i : Nat, i ≤ n2 ∧ k = .int .i64 i ∧ Hid (∀ (m : Nat) (t : ByteArray × Int), m < i → T[m]? = some t → 0 ≤ t.2 ∧ t.2 < n1) ∧ Ext W1 wr) (fun k _ => n2 - (intOf k).toNat)
      case atStart => exact ⟨0, Nat.zero_le _, rfl, Lib.hid (fun i s h => by omega), Ext.refl _⟩
      case round =>
        obtain ⟨i, hi, rfl, hall, hext⟩ := hrel
        have x3 := hext.cell y3
        by_cases hlt2 : i < n2
        · have hlt2' : ((i : Nat) : Int) < n2 := by omega
          obtain ⟨b, off, t, rfl, hj', q0, q1⟩ := (ht'.ext hext).at hlt2
          obtain ⟨nm, at'⟩ := t
          simp only at q0 q1
          have Hj := Lib.hid hj'
          clear hj'
          by_cases u1 : at' < 0
          · have hf : ¬ (allR L pars = true ∧ allT T n1 = true) := by
              rintro ⟨_, h⟩
              have := (allT_iff T n1).1 h i _ Hj.out
              simp only at this
              omega
            have Hf := Lib.hid (HR0.out.trans (if_neg hf))
            clear hf
            go_wp2
            go_ret
            exact Post.mk (Eg.trans hext) (by rw [Hf.out]; rfl)
          · by_cases u2 : (n1 : Int) ≤ at'
            · have hf : ¬ (allR L pars = true ∧ allT T n1 = true) := by
                rintro ⟨_, h⟩
                have := (allT_iff T n1).1 h i _ Hj.out
                simp only at this
                omega
              have Hf := Lib.hid (HR0.out.trans (if_neg hf))
              clear hf
              go_wp2
              go_ret
              exact Post.mk (Eg.trans hext) (by rw [Hf.out]; rfl)
            · have hn1 : Hid (∀ (m : Nat) (t : ByteArray × Int), m < i + 1 → T[m]? = some t → 0 ≤ t.2 ∧ t.2 < n1) := Lib.hid (by
                intro m t hm htm
                by_cases e : m = i
                · subst e
                  have := Hj.out
                  rw [htm] at this
                  cases this
                  exact ⟨by show 0 ≤ at'; omega, by show at' < n1; omega⟩
                · exact hall.out m t (by omega) htm)
              go_wp2
              go_roundw
              case rel => exact ⟨i + 1, by omega, by go_num, hn1, hext⟩
              case measure => simp [intOf]; omega
        · have hlt2' : ¬ ((i : Nat) : Int) < n2 := by omega
          have hT : allT T n1 = true := (allT_iff T n1).2 fun m t hm => hall.out m t (by have := (List.getElem?_eq_some_iff.1 hm).1; have := ht'.len; omega) hm
          have Hf := Lib.hid (HR0.out.trans (if_pos ⟨HR.out, hT⟩))
          clear hT hall
          go_wp2
          go_ret
          exact Post.mk (Eg.trans hext) (by rw [Hf.out]; rfl)
theorem rcheck_any (pars out : Int) (a1 a2 : Option Addr) (n1 c1 n2 c2 : Nat) (L : List Step) (T : List (ByteArray × Int)) (w : World) (hs : Steps w a1 n1 c1 L) (ht : Tells w a2 n2 c2 T) (hsm : SmL L) :
    Calls Tryz.prog 25 #[.agg #[.int .i64 pars, .int .i64 out, .slice a1 n1 c1, .slice a2 n2 c2]] w (Post w fun v _ => v = .int .i64 (checkP pars out L T)) := by
  obtain rfl := hs.len
  by_cases h : headOk pars out L.length
  · have e : checkP pars out L T = if allR L pars = true ∧ allT T L.length = true then 0 else 170 := by
      unfold checkP
      simp [h]
    rw [e]
    exact rcheck_main pars out a1 a2 _ c1 n2 c2 L T w hs ht hsm h
  · have e : checkP pars out L T = 170 := by unfold checkP; rw [if_neg (fun k => h k.1)]
    rw [e]
    exact rcheck_head pars out a1 a2 _ c1 n2 c2 w hs.few h

set_option linter.unusedSimpArgs false in
set_option maxRecDepth 100000 in
set_option maxHeartbeats 8000000 in
theorem rsame17_main (p o : Int) (a1 a2 a7 a8 : Option Addr) (n1 c1 n2 c2 c3' c4' : Nat) (L M : List Step) (T U : List (ByteArray × Int)) (w : World) (h1 : Steps w a1 n1 c1 L) (h2 : Tells w a2 n2 c2 T) (h3 : Steps w a7 n1 c3' M) (h4 : Tells w a8 n2 c4' U) :
    Calls Tryz.prog 19 #[.agg #[.int .i64 p, .int .i64 o, .slice a1 n1 c1, .slice a2 n2 c2], .agg #[.int .i64 p, .int .i64 o, .slice a7 n1 c3', .slice a8 n2 c4']] w (Post w fun r _ => r = .bool (sameR L M && sameT T U)) := by
  obtain ⟨q, hq⟩ : ∃ q, q = (sameR L M && sameT T U) := ⟨_, rfl⟩
  rw [← hq]
  have Hq := Lib.hid hq
  clear hq
  have f1 := h1.few
  have f2 := h2.few
  go_enter Tryz.func19, Tryz.ntmps19
  go_wp2_with fail
  obtain ⟨W0, hW0⟩ : ∃ W0, W0 = (w.alloc (.cells #[.int .i64 p, .int .i64 o, .slice a1 n1 c1, .slice a2 n2 c2] 53)).alloc (.cells #[.int .i64 p, .int .i64 o, .slice a7 n1 c3', .slice a8 n2 c4'] 53) := ⟨_, rfl⟩
  obtain ⟨tb, htb⟩ : ∃ tb, tb = w.heap.size := ⟨_, rfl⟩
  obtain ⟨ub, hub⟩ : ∃ ub, ub = w.heap.size + 1 := ⟨_, rfl⟩
  have E0 : Ext w W0 := by rw [hW0]; exact (by repeat (first | with_reducible exact Ext.refl _ | with_reducible assumption | (with_reducible refine Ext.alloc ?_ _) | (with_reducible refine Ext.drew ?_) | (with_reducible refine Ext.drewN ?_ _) | (with_reducible refine Ext.set ?_ (by first | (simp; done) | (simp; omega)) _) | (with_reducible refine Ext.trans ?_ (by with_reducible assumption))))
  have z2 : W0.cell? ⟨tb, 2, none⟩ = some (.slice a1 n1 c1) := by rw [hW0, htb]; simp [go_sem]
  have z3 : W0.cell? ⟨tb, 3, none⟩ = some (.slice a2 n2 c2) := by rw [hW0, htb]; simp [go_sem]
  have u2 : W0.cell? ⟨ub, 2, none⟩ = some (.slice a7 n1 c3') := by rw [hW0, hub]; simp [go_sem]
  have u3 : W0.cell? ⟨ub, 3, none⟩ = some (.slice a8 n2 c4') := by rw [hW0, hub]; simp [go_sem]
  rw [← hW0, ← hub, ← htb]
  clear hW0 htb hub
  go_loopw [5] (fun k wr => ∃ j : Nat, j ≤ n1 ∧ k = .int .i64 j ∧ Hid (∀ i, i < j → L[i]? = M[i]?) ∧ Ext W0 wr) (fun k _ => n1 - (intOf k).toNat)
  case atStart => exact ⟨0, Nat.zero_le _, rfl, Lib.hid (fun i h => by omega), Ext.refl _⟩
  case round =>
    obtain ⟨j, hj, rfl, hall, hext⟩ := hrel
    have y2 := hext.cell z2
    have x2 := hext.cell u2
    by_cases hlt : j < n1
    · have hlt' : ((j : Nat) : Int) < n1 := by omega
      obtain ⟨b, off, s, rfl, hsj, a3, n3, c3, a4, n4, c4, q0, q1, q2, q3, q4, q5, q6, q7, q8⟩ := ((h1.ext E0).ext hext).at hlt
      obtain ⟨b', off', t, rfl, htj, a5, n5, c5, a6, n6, c6, r0, r1, r2, r3, r4, r5, r6, r7, r8⟩ := ((h3.ext E0).ext hext).at hlt
      have hst : IsStep wr (.agg #[.int .u8 s.op, .int .i64 s.a, .int .i64 s.b, .bool s.neg, .slice a3 n3 c3, .slice a4 n4 c4]) s := ⟨_, _, _, _, _, _, rfl, q6, q7, q8⟩
      have htt : IsStep wr (.agg #[.int .u8 t.op, .int .i64 t.a, .int .i64 t.b, .bool t.neg, .slice a5 n5 c5, .slice a6 n6 c6]) t := ⟨_, _, _, _, _, _, rfl, r6, r7, r8⟩
      have HR := Lib.hid (fun W (e : Ext wr W) => rsameNode_any _ _ s t W (hst.ext e) (htt.ext e))
      obtain ⟨r, hr⟩ : ∃ r, r = sameS s t := ⟨_, rfl⟩
      rw [← hr] at HR
      have Hr := Lib.hid hr
      have Hs := Lib.hid hsj
      have Ht := Lib.hid htj
      clear hst htt q6 q7 q8 r6 r7 r8 hr hsj htj
      go_wp2_with fail
      cases r
      · have hq0 : q = false := by
          rw [Hq.out]
          cases hh : sameR L M with
          | false => rfl
          | true =>
            have e := (sameR_iff _ _).1 hh
            have h5 := Hs.out
            rw [e, Ht.out] at h5
            have h6 := Hr.out
            cases h5
            rw [(sameS_iff s s).2 rfl] at h6
            cases h6
        subst hq0
        refine wp_region_T (fun _ => True) (fun w' : World => w'.cell? ⟨tb, 2, none⟩ = some (.slice (some ⟨b, off, none⟩) n1 c1) ∧ w'.cell? ⟨ub, 2, none⟩ = some (.slice (some ⟨b', off', none⟩) n1 c3') ∧ w'.cell? ⟨b, off + j * 6, none⟩ = some (.int .u8 s.op) ∧ w'.cell? ⟨b, off + j * 6 + 1, none⟩ = some (.int .i64 s.a) ∧ w'.cell? ⟨b, off + j * 6 + 2, none⟩ = some (.int .i64 s.b) ∧ w'.cell? ⟨b, off + j * 6 + 3, none⟩ = some (.bool s.neg) ∧ w'.cell? ⟨b, off + j * 6 + 4, none⟩ = some (.slice a3 n3 c3) ∧ w'.cell? ⟨b, off + j * 6 + 5, none⟩ = some (.slice a4 n4 c4) ∧ w'.cell? ⟨b', off' + j * 6, none⟩ = some (.int .u8 t.op) ∧ w'.cell? ⟨b', off' + j * 6 + 1, none⟩ = some (.int .i64 t.a) ∧ w'.cell? ⟨b', off' + j * 6 + 2, none⟩ = some (.int .i64 t.b) ∧ w'.cell? ⟨b', off' + j * 6 + 3, none⟩ = some (.bool t.neg) ∧ w'.cell? ⟨b', off' + j * 6 + 4, none⟩ = some (.slice a5 n5 c5) ∧ w'.cell? ⟨b', off' + j * 6 + 5, none⟩ = some (.slice a6 n6 c6)) 99 12 (by rfl) (by kernel_rfl) ?_
        have hT0 : wr.drew.cell? ⟨tb, 2, none⟩ = some (.slice (some ⟨b, off, none⟩) n1 c1) ∧ wr.drew.cell? ⟨ub, 2, none⟩ = some (.slice (some ⟨b', off', none⟩) n1 c3') ∧ wr.drew.cell? ⟨b, off + j * 6, none⟩ = some (.int .u8 s.op) ∧ wr.drew.cell? ⟨b, off + j * 6 + 1, none⟩ = some (.int .i64 s.a) ∧ wr.drew.cell? ⟨b, off + j * 6 + 2, none⟩ = some (.int .i64 s.b) ∧ wr.drew.cell? ⟨b, off + j * 6 + 3, none⟩ = some (.bool s.neg) ∧ wr.drew.cell? ⟨b, off + j * 6 + 4, none⟩ = some (.slice a3 n3 c3) ∧ wr.drew.cell? ⟨b, off + j * 6 + 5, none⟩ = some (.slice a4 n4 c4) ∧ wr.drew.cell? ⟨b', off' + j * 6, none⟩ = some (.int .u8 t.op) ∧ wr.drew.cell? ⟨b', off' + j * 6 + 1, none⟩ = some (.int .i64 t.a) ∧ wr.drew.cell? ⟨b', off' + j * 6 + 2, none⟩ = some (.int .i64 t.b) ∧ wr.drew.cell? ⟨b', off' + j * 6 + 3, none⟩ = some (.bool t.neg) ∧ wr.drew.cell? ⟨b', off' + j * 6 + 4, none⟩ = some (.slice a5 n5 c5) ∧ wr.drew.cell? ⟨b', off' + j * 6 + 5, none⟩ = some (.slice a6 n6 c6) := ⟨y2, x2, q0, q1, q2, q3, q4, q5, r0, r1, r2, r3, r4, r5⟩
        refine wpAnyT_take' (i := 0) (some 44) (v := ?_) rfl rfl (by kernel_rfl) (by kernel_rfl) (by kernel_rfl) (by decide) (fun _ _ _ h => h) (Or.inl ⟨by rfl, ?_⟩) (fun _ => trivial) hT0 ?_
        rotate_left
        · (intro w hSw; (try dsimp only at hSw); go_simp); try with_reducible rfl
        try simp only [Act.put, List.setIfInBounds_toArray, List.set_cons_zero, List.set_cons_succ]
        refine wpAnyT_take' (i := 1) (some 45) (v := ?_) rfl rfl (by kernel_rfl) (by kernel_rfl) (by kernel_rfl) (by decide) (fun _ _ _ h => h) (Or.inl ⟨by rfl, ?_⟩) (fun _ => trivial) hT0 ?_
        rotate_left
        · (intro w hSw; (try dsimp only at hSw); go_simp); try with_reducible rfl
        try simp only [Act.put, List.setIfInBounds_toArray, List.set_cons_zero, List.set_cons_succ]
        refine wpAnyT_take' (i := 2) (some 46) (v := ?_) rfl rfl (by kernel_rfl) (by kernel_rfl) (by kernel_rfl) (by decide) (fun _ _ _ h => h) (Or.inl ⟨by rfl, ?_⟩) (fun _ => trivial) hT0 ?_
        rotate_left
        · (intro w hSw; (try dsimp only at hSw); go_simp); try with_reducible rfl
        try simp only [Act.put, List.setIfInBounds_toArray, List.set_cons_zero, List.set_cons_succ]
        refine wpAnyT_take' (i := 3) (some 47) (v := ?_) rfl rfl (by kernel_rfl) (by kernel_rfl) (by kernel_rfl) (by decide) (fun _ _ _ h => h) (Or.inl ⟨by rfl, ?_⟩) (fun _ => trivial) hT0 ?_
        rotate_left
        · (intro w hSw; (try dsimp only at hSw); go_simp); try with_reducible rfl
        try simp only [Act.put, List.setIfInBounds_toArray, List.set_cons_zero, List.set_cons_succ]
        refine wpAnyT_take' (i := 4) (some 48) (v := ?_) rfl rfl (by kernel_rfl) (by kernel_rfl) (by kernel_rfl) (by decide) (fun _ _ _ h => h) (Or.inl ⟨by rfl, ?_⟩) (fun _ => trivial) hT0 ?_
        rotate_left
        · (intro w hSw; (try dsimp only at hSw); go_simp); try with_reducible rfl
        try simp only [Act.put, List.setIfInBounds_toArray, List.set_cons_zero, List.set_cons_succ]
        refine wpAnyT_take' (i := 5) (some 49) (v := ?_) rfl rfl (by kernel_rfl) (by kernel_rfl) (by kernel_rfl) (by decide) (fun _ _ _ h => h) (Or.inl ⟨by rfl, ?_⟩) (fun _ => trivial) hT0 ?_
        rotate_left
        · (intro w hSw; (try dsimp only at hSw); go_simp); try with_reducible rfl
        try simp only [Act.put, List.setIfInBounds_toArray, List.set_cons_zero, List.set_cons_succ]
        refine wpAnyT_take' (i := 6) (some 50) (v := ?_) rfl rfl (by kernel_rfl) (by kernel_rfl) (by kernel_rfl) (by decide) (fun _ _ _ h => h) (Or.inl ⟨by rfl, ?_⟩) (fun _ => trivial) hT0 ?_
        rotate_left
        · (intro w hSw; (try dsimp only at hSw); go_simp); try with_reducible rfl
        try simp only [Act.put, List.setIfInBounds_toArray, List.set_cons_zero, List.set_cons_succ]
        refine wpAnyT_take' (i := 7) (some 51) (v := ?_) rfl rfl (by kernel_rfl) (by kernel_rfl) (by kernel_rfl) (by decide) (fun _ _ _ h => h) (Or.inl ⟨by rfl, ?_⟩) (fun _ => trivial) hT0 ?_
        rotate_left
        · (intro w hSw; (try dsimp only at hSw); go_simp); try with_reducible rfl
        try simp only [Act.put, List.setIfInBounds_toArray, List.set_cons_zero, List.set_cons_succ]
        refine wpAnyT_take' (i := 8) (some 52) (v := ?_) rfl rfl (by kernel_rfl) (by kernel_rfl) (by kernel_rfl) (by decide) (fun _ _ _ h => h) (Or.inl ⟨by rfl, ?_⟩) (fun _ => trivial) hT0 ?_
        rotate_left
        · (intro w hSw; (try dsimp only at hSw); go_simp); try with_reducible rfl
        try simp only [Act.put, List.setIfInBounds_toArray, List.set_cons_zero, List.set_cons_succ]
        refine wpAnyT_take' (i := 9) (some 53) (v := ?_) rfl rfl (by kernel_rfl) (by kernel_rfl) (by kernel_rfl) (by decide) (fun _ _ _ h => h) (Or.inl ⟨by rfl, ?_⟩) (fun _ => trivial) hT0 ?_
        rotate_left
        · (intro w hSw; (try dsimp only at hSw); go_simp); try with_reducible rfl
        try simp only [Act.put, List.setIfInBounds_toArray, List.set_cons_zero, List.set_cons_succ]
        refine wpAnyT_one (i := 10) (by kernel_rfl) rfl (fun K hK => ?_)
        go_simp
        refine (HR.out _ (Ext.refl wr).drew).mono ?_
        rintro e w2 ⟨_, rfl, E2, rfl⟩
        try simp only []
        have hT1 : w2.cell? ⟨tb, 2, none⟩ = some (.slice (some ⟨b, off, none⟩) n1 c1) ∧ w2.cell? ⟨ub, 2, none⟩ = some (.slice (some ⟨b', off', none⟩) n1 c3') ∧ w2.cell? ⟨b, off + j * 6, none⟩ = some (.int .u8 s.op) ∧ w2.cell? ⟨b, off + j * 6 + 1, none⟩ = some (.int .i64 s.a) ∧ w2.cell? ⟨b, off + j * 6 + 2, none⟩ = some (.int .i64 s.b) ∧ w2.cell? ⟨b, off + j * 6 + 3, none⟩ = some (.bool s.neg) ∧ w2.cell? ⟨b, off + j * 6 + 4, none⟩ = some (.slice a3 n3 c3) ∧ w2.cell? ⟨b, off + j * 6 + 5, none⟩ = some (.slice a4 n4 c4) ∧ w2.cell? ⟨b', off' + j * 6, none⟩ = some (.int .u8 t.op) ∧ w2.cell? ⟨b', off' + j * 6 + 1, none⟩ = some (.int .i64 t.a) ∧ w2.cell? ⟨b', off' + j * 6 + 2, none⟩ = some (.int .i64 t.b) ∧ w2.cell? ⟨b', off' + j * 6 + 3, none⟩ = some (.bool t.neg) ∧ w2.cell? ⟨b', off' + j * 6 + 4, none⟩ = some (.slice a5 n5 c5) ∧ w2.cell? ⟨b', off' + j * 6 + 5, none⟩ = some (.slice a6 n6 c6) := ⟨E2.cell y2, E2.cell x2, E2.cell q0, E2.cell q1, E2.cell q2, E2.cell q3, E2.cell q4, E2.cell q5, E2.cell r0, E2.cell r1, E2.cell r2, E2.cell r3, E2.cell r4, E2.cell r5⟩
        refine hK _ _ (fun _ => trivial) hT1 ?_
        clear hK K
        try simp only [Act.put, List.setIfInBounds_toArray, List.set_cons_zero, List.set_cons_succ]
        refine wpAnyT_take' (i := 11) (some 55) (v := ?_) rfl rfl (by kernel_rfl) (by kernel_rfl) (by kernel_rfl) (by decide) (fun _ _ _ h => h) (Or.inl ⟨by rfl, ?_⟩) (fun _ => trivial) hT1 ?_
        rotate_left
        · (intro w hSw; (try dsimp only at hSw); go_simp); try with_reducible rfl
        try simp only [Act.put, List.setIfInBounds_toArray, List.set_cons_zero, List.set_cons_succ]
        refine wpAnyT_done (by kernel_rfl) ?_ _
        try simp only [Act.put, List.setIfInBounds_toArray, List.set_cons_zero, List.set_cons_succ]
        clear hT0
        have EF := (E0.trans hext).drew.trans E2
        go_wp2
        go_ret
        exact Post.mk EF rfl
      · have hn1 : Hid (∀ i, i < j + 1 → L[i]? = M[i]?) := Lib.hid (by
          intro i hi
          by_cases e : i = j
          · subst e
            rw [Hs.out, Ht.out, (sameS_iff s t).1 Hr.out.symm]
          · exact hall.out i (by omega))
        refine wp_region_T (fun _ => True) (fun w' : World => w'.cell? ⟨tb, 2, none⟩ = some (.slice (some ⟨b, off, none⟩) n1 c1) ∧ w'.cell? ⟨ub, 2, none⟩ = some (.slice (some ⟨b', off', none⟩) n1 c3') ∧ w'.cell? ⟨b, off + j * 6, none⟩ = some (.int .u8 s.op) ∧ w'.cell? ⟨b, off + j * 6 + 1, none⟩ = some (.int .i64 s.a) ∧ w'.cell? ⟨b, off + j * 6 + 2, none⟩ = some (.int .i64 s.b) ∧ w'.cell? ⟨b, off + j * 6 + 3, none⟩ = some (.bool s.neg) ∧ w'.cell? ⟨b, off + j * 6 + 4, none⟩ = some (.slice a3 n3 c3) ∧ w'.cell? ⟨b, off + j * 6 + 5, none⟩ = some (.slice a4 n4 c4) ∧ w'.cell? ⟨b', off' + j * 6, none⟩ = some (.int .u8 t.op) ∧ w'.cell? ⟨b', off' + j * 6 + 1, none⟩ = some (.int .i64 t.a) ∧ w'.cell? ⟨b', off' + j * 6 + 2, none⟩ = some (.int .i64 t.b) ∧ w'.cell? ⟨b', off' + j * 6 + 3, none⟩ = some (.bool t.neg) ∧ w'.cell? ⟨b', off' + j * 6 + 4, none⟩ = some (.slice a5 n5 c5) ∧ w'.cell? ⟨b', off' + j * 6 + 5, none⟩ = some (.slice a6 n6 c6)) 99 12 (by rfl) (by kernel_rfl) ?_
        have hT0 : wr.drew.cell? ⟨tb, 2, none⟩ = some (.slice (some ⟨b, off, none⟩) n1 c1) ∧ wr.drew.cell? ⟨ub, 2, none⟩ = some (.slice (some ⟨b', off', none⟩) n1 c3') ∧ wr.drew.cell? ⟨b, off + j * 6, none⟩ = some (.int .u8 s.op) ∧ wr.drew.cell? ⟨b, off + j * 6 + 1, none⟩ = some (.int .i64 s.a) ∧ wr.drew.cell? ⟨b, off + j * 6 + 2, none⟩ = some (.int .i64 s.b) ∧ wr.drew.cell? ⟨b, off + j * 6 + 3, none⟩ = some (.bool s.neg) ∧ wr.drew.cell? ⟨b, off + j * 6 + 4, none⟩ = some (.slice a3 n3 c3) ∧ wr.drew.cell? ⟨b, off + j * 6 + 5, none⟩ = some (.slice a4 n4 c4) ∧ wr.drew.cell? ⟨b', off' + j * 6, none⟩ = some (.int .u8 t.op) ∧ wr.drew.cell? ⟨b', off' + j * 6 + 1, none⟩ = some (.int .i64 t.a) ∧ wr.drew.cell? ⟨b', off' + j * 6 + 2, none⟩ = some (.int .i64 t.b) ∧ wr.drew.cell? ⟨b', off' + j * 6 + 3, none⟩ = some (.bool t.neg) ∧ wr.drew.cell? ⟨b', off' + j * 6 + 4, none⟩ = some (.slice a5 n5 c5) ∧ wr.drew.cell? ⟨b', off' + j * 6 + 5, none⟩ = some (.slice a6 n6 c6) := ⟨y2, x2, q0, q1, q2, q3, q4, q5, r0, r1, r2, r3, r4, r5⟩
        refine wpAnyT_take' (i := 0) (some 44) (v := ?_) rfl rfl (by kernel_rfl) (by kernel_rfl) (by kernel_rfl) (by decide) (fun _ _ _ h => h) (Or.inl ⟨by rfl, ?_⟩) (fun _ => trivial) hT0 ?_
        rotate_left
        · (intro w hSw; (try dsimp only at hSw); go_simp); try with_reducible rfl
        try simp only [Act.put, List.setIfInBounds_toArray, List.set_cons_zero, List.set_cons_succ]
        refine wpAnyT_take' (i := 1) (some 45) (v := ?_) rfl rfl (by kernel_rfl) (by kernel_rfl) (by kernel_rfl) (by decide) (fun _ _ _ h => h) (Or.inl ⟨by rfl, ?_⟩) (fun _ => trivial) hT0 ?_
        rotate_left
        · (intro w hSw; (try dsimp only at hSw); go_simp); try with_reducible rfl
        try simp only [Act.put, List.setIfInBounds_toArray, List.set_cons_zero, List.set_cons_succ]
        refine wpAnyT_take' (i := 2) (some 46) (v := ?_) rfl rfl (by kernel_rfl) (by kernel_rfl) (by kernel_rfl) (by decide) (fun _ _ _ h => h) (Or.inl ⟨by rfl, ?_⟩) (fun _ => trivial) hT0 ?_
        rotate_left
        · (intro w hSw; (try dsimp only at hSw); go_simp); try with_reducible rfl
        try simp only [Act.put, List.setIfInBounds_toArray, List.set_cons_zero, List.set_cons_succ]
        refine wpAnyT_take' (i := 3) (some 47) (v := ?_) rfl rfl (by kernel_rfl) (by kernel_rfl) (by kernel_rfl) (by decide) (fun _ _ _ h => h) (Or.inl ⟨by rfl, ?_⟩) (fun _ => trivial) hT0 ?_
        rotate_left
        · (intro w hSw; (try dsimp only at hSw); go_simp); try with_reducible rfl
        try simp only [Act.put, List.setIfInBounds_toArray, List.set_cons_zero, List.set_cons_succ]
        refine wpAnyT_take' (i := 4) (some 48) (v := ?_) rfl rfl (by kernel_rfl) (by kernel_rfl) (by kernel_rfl) (by decide) (fun _ _ _ h => h) (Or.inl ⟨by rfl, ?_⟩) (fun _ => trivial) hT0 ?_
        rotate_left
        · (intro w hSw; (try dsimp only at hSw); go_simp); try with_reducible rfl
        try simp only [Act.put, List.setIfInBounds_toArray, List.set_cons_zero, List.set_cons_succ]
        refine wpAnyT_take' (i := 5) (some 49) (v := ?_) rfl rfl (by kernel_rfl) (by kernel_rfl) (by kernel_rfl) (by decide) (fun _ _ _ h => h) (Or.inl ⟨by rfl, ?_⟩) (fun _ => trivial) hT0 ?_
        rotate_left
        · (intro w hSw; (try dsimp only at hSw); go_simp); try with_reducible rfl
        try simp only [Act.put, List.setIfInBounds_toArray, List.set_cons_zero, List.set_cons_succ]
        refine wpAnyT_take' (i := 6) (some 50) (v := ?_) rfl rfl (by kernel_rfl) (by kernel_rfl) (by kernel_rfl) (by decide) (fun _ _ _ h => h) (Or.inl ⟨by rfl, ?_⟩) (fun _ => trivial) hT0 ?_
        rotate_left
        · (intro w hSw; (try dsimp only at hSw); go_simp); try with_reducible rfl
        try simp only [Act.put, List.setIfInBounds_toArray, List.set_cons_zero, List.set_cons_succ]
        refine wpAnyT_take' (i := 7) (some 51) (v := ?_) rfl rfl (by kernel_rfl) (by kernel_rfl) (by kernel_rfl) (by decide) (fun _ _ _ h => h) (Or.inl ⟨by rfl, ?_⟩) (fun _ => trivial) hT0 ?_
        rotate_left
        · (intro w hSw; (try dsimp only at hSw); go_simp); try with_reducible rfl
        try simp only [Act.put, List.setIfInBounds_toArray, List.set_cons_zero, List.set_cons_succ]
        refine wpAnyT_take' (i := 8) (some 52) (v := ?_) rfl rfl (by kernel_rfl) (by kernel_rfl) (by kernel_rfl) (by decide) (fun _ _ _ h => h) (Or.inl ⟨by rfl, ?_⟩) (fun _ => trivial) hT0 ?_
        rotate_left
        · (intro w hSw; (try dsimp only at hSw); go_simp); try with_reducible rfl
        try simp only [Act.put, List.setIfInBounds_toArray, List.set_cons_zero, List.set_cons_succ]
        refine wpAnyT_take' (i := 9) (some 53) (v := ?_) rfl rfl (by kernel_rfl) (by kernel_rfl) (by kernel_rfl) (by decide) (fun _ _ _ h => h) (Or.inl ⟨by rfl, ?_⟩) (fun _ => trivial) hT0 ?_
        rotate_left
        · (intro w hSw; (try dsimp only at hSw); go_simp); try with_reducible rfl
        try simp only [Act.put, List.setIfInBounds_toArray, List.set_cons_zero, List.set_cons_succ]
        refine wpAnyT_one (i := 10) (by kernel_rfl) rfl (fun K hK => ?_)
        go_simp
        refine (HR.out _ (Ext.refl wr).drew).mono ?_
        rintro e w2 ⟨_, rfl, E2, rfl⟩
        try simp only []
        have hT1 : w2.cell? ⟨tb, 2, none⟩ = some (.slice (some ⟨b, off, none⟩) n1 c1) ∧ w2.cell? ⟨ub, 2, none⟩ = some (.slice (some ⟨b', off', none⟩) n1 c3') ∧ w2.cell? ⟨b, off + j * 6, none⟩ = some (.int .u8 s.op) ∧ w2.cell? ⟨b, off + j * 6 + 1, none⟩ = some (.int .i64 s.a) ∧ w2.cell? ⟨b, off + j * 6 + 2, none⟩ = some (.int .i64 s.b) ∧ w2.cell? ⟨b, off + j * 6 + 3, none⟩ = some (.bool s.neg) ∧ w2.cell? ⟨b, off + j * 6 + 4, none⟩ = some (.slice a3 n3 c3) ∧ w2.cell? ⟨b, off + j * 6 + 5, none⟩ = some (.slice a4 n4 c4) ∧ w2.cell? ⟨b', off' + j * 6, none⟩ = some (.int .u8 t.op) ∧ w2.cell? ⟨b', off' + j * 6 + 1, none⟩ = some (.int .i64 t.a) ∧ w2.cell? ⟨b', off' + j * 6 + 2, none⟩ = some (.int .i64 t.b) ∧ w2.cell? ⟨b', off' + j * 6 + 3, none⟩ = some (.bool t.neg) ∧ w2.cell? ⟨b', off' + j * 6 + 4, none⟩ = some (.slice a5 n5 c5) ∧ w2.cell? ⟨b', off' + j * 6 + 5, none⟩ = some (.slice a6 n6 c6) := ⟨E2.cell y2, E2.cell x2, E2.cell q0, E2.cell q1, E2.cell q2, E2.cell q3, E2.cell q4, E2.cell q5, E2.cell r0, E2.cell r1, E2.cell r2, E2.cell r3, E2.cell r4, E2.cell r5⟩
        refine hK _ _ (fun _ => trivial) hT1 ?_
        clear hK K
        try simp only [Act.put, List.setIfInBounds_toArray, List.set_cons_zero, List.set_cons_succ]
        refine wpAnyT_take' (i := 11) (some 55) (v := ?_) rfl rfl (by kernel_rfl) (by kernel_rfl) (by kernel_rfl) (by decide) (fun _ _ _ h => h) (Or.inl ⟨by rfl, ?_⟩) (fun _ => trivial) hT1 ?_
        rotate_left
        · (intro w hSw; (try dsimp only at hSw); go_simp); try with_reducible rfl
        try simp only [Act.put, List.setIfInBounds_toArray, List.set_cons_zero, List.set_cons_succ]
        refine wpAnyT_done (by kernel_rfl) ?_ _
        try simp only [Act.put, List.setIfInBounds_toArray, List.set_cons_zero, List.set_cons_succ]
        have EF := hext.drew.trans E2
        clear hT0 hT1 y2 x2 q0 q1 q2 q3 q4 q5 r0 r1 r2 r3 r4 r5
        go_wp2
        go_roundw
        case rel => exact ⟨j + 1, by omega, by go_num, hn1, EF⟩
        case measure => simp [intOf]; omega
    · have hlt' : ¬ ((j : Nat) : Int) < n1 := by omega
      have hR : sameR L M = true := (sameR_iff _ _).2 (List.ext_getElem? fun i => by
        by_cases hi : i < j
        · exact hall.out i hi
        · have := h1.len
          have := h3.len
          rw [List.getElem?_eq_none (by omega), List.getElem?_eq_none (by omega)])
      have HQ : Hid (q = sameT T U) := Lib.hid (by rw [Hq.out, hR]; rfl)
      have Eg : Ext w wr := E0.trans hext
      have H2 := Lib.hid (h2.ext Eg)
      have H4 := Lib.hid (h4.ext Eg)
      have w3 := hext.cell z3
      have v3 := hext.cell u3
      clear hR hall Hq h1 h2 h3 h4 E0 z2 z3 u2 u3 hext
      go_wp2_with fail
      obtain ⟨W1, rfl⟩ : ∃ W1 : World, W1 = wr := ⟨_, rfl⟩
      go_loopw [6] (fun k wr => ∃ i : Nat, i ≤ n2 ∧ k = .int .i64 i ∧ Hid (∀ m, m < i → T[m]? = U[m]?) ∧ Ext W1 wr) (fun k _ => n2 - (intOf k).toNat)
      case atStart => exact ⟨0, Nat.zero_le _, rfl, Lib.hid (fun i h => by omega), Ext.refl _⟩
      case round =>
        obtain ⟨i, hi, rfl, hall, hext⟩ := hrel
        have y3 := hext.cell w3
        have x3 := hext.cell v3
        by_cases hlt2 : i < n2
        · have hlt2' : ((i : Nat) : Int) < n2 := by omega
          obtain ⟨b, off, s, rfl, hs, q0, q1⟩ := (H2.out.ext hext).at hlt2
          obtain ⟨b', off', t, rfl, ht, p0, p1⟩ := (H4.out.ext hext).at hlt2
          obtain ⟨x, k⟩ := s
          obtain ⟨y, l⟩ := t
          simp only at q0 q1 p0 p1
          have Hs := Lib.hid hs
          have Ht := Lib.hid ht
          clear hs ht
          obtain ⟨r, hr⟩ : ∃ r : Bool, r = !decide ((x, k) = (y, l)) := ⟨_, rfl⟩
          have hif : Hid (∀ W : World, (if x.toList = y.toList then if k = l then Result.ok (Next.value (.bool false)) W else Result.ok (Next.value (.bool true)) W else Result.ok (Next.value (.bool true)) W) = Result.ok (Next.value (.bool r)) W) := Lib.hid (by
            intro W
            rw [hr]
            by_cases hx : x.toList = y.toList
            · have hxy := toList_inj hx
              subst hxy
              by_cases hk : k = l
              · subst hk; simp
              · rw [if_pos rfl, if_neg hk]
                simp [hk]
            · rw [if_neg hx]
              have : x ≠ y := fun e => hx (by rw [e])
              simp [this])
          have Hr := Lib.hid hr
          clear hr
          go_wp2_with fail
          cases r
          · have e := Hr.out
            simp only [Bool.false_eq, Bool.not_eq_false', decide_eq_true_eq] at e
            have hn1 : Hid (∀ m, m < i + 1 → T[m]? = U[m]?) := Lib.hid (by
              intro m hm
              by_cases e' : m = i
              · rw [e', Hs.out, Ht.out, e]
              · exact hall.out m (by omega))
            refine wp_region_T (fun _ => True) (fun w' : World => w'.cell? ⟨tb, 3, none⟩ = some (.slice (some ⟨b, off, none⟩) n2 c2) ∧ w'.cell? ⟨ub, 3, none⟩ = some (.slice (some ⟨b', off', none⟩) n2 c4') ∧ w'.cell? ⟨b, off + i * 2, none⟩ = some (.string x) ∧ w'.cell? ⟨b, off + i * 2 + 1, none⟩ = some (.int .i64 k) ∧ w'.cell? ⟨b', off' + i * 2, none⟩ = some (.string y) ∧ w'.cell? ⟨b', off' + i * 2 + 1, none⟩ = some (.int .i64 l)) 99 11 (by rfl) (by kernel_rfl) ?_
            have hT0 : wr.drew.cell? ⟨tb, 3, none⟩ = some (.slice (some ⟨b, off, none⟩) n2 c2) ∧ wr.drew.cell? ⟨ub, 3, none⟩ = some (.slice (some ⟨b', off', none⟩) n2 c4') ∧ wr.drew.cell? ⟨b, off + i * 2, none⟩ = some (.string x) ∧ wr.drew.cell? ⟨b, off + i * 2 + 1, none⟩ = some (.int .i64 k) ∧ wr.drew.cell? ⟨b', off' + i * 2, none⟩ = some (.string y) ∧ wr.drew.cell? ⟨b', off' + i * 2 + 1, none⟩ = some (.int .i64 l) := ⟨y3, x3, q0, q1, p0, p1⟩
            refine wpAnyT_take' (i := 0) (some 63) (v := ?_) rfl rfl (by kernel_rfl) (by kernel_rfl) (by kernel_rfl) (by decide) (fun _ _ _ h => h) (Or.inl ⟨by rfl, ?_⟩) (fun _ => trivial) hT0 ?_
            rotate_left
            · (intro w hSw; (try dsimp only at hSw); go_simp); try with_reducible rfl
            try simp only [Act.put, List.setIfInBounds_toArray, List.set_cons_zero, List.set_cons_succ]
            refine wpAnyT_take' (i := 1) (some 64) (v := ?_) rfl rfl (by kernel_rfl) (by kernel_rfl) (by kernel_rfl) (by decide) (fun _ _ _ h => h) (Or.inl ⟨by rfl, ?_⟩) (fun _ => trivial) hT0 ?_
            rotate_left
            · (intro w hSw; (try dsimp only at hSw); go_simp); try with_reducible rfl
            try simp only [Act.put, List.setIfInBounds_toArray, List.set_cons_zero, List.set_cons_succ]
            refine wpAnyT_take' (i := 2) (some 65) (v := ?_) rfl rfl (by kernel_rfl) (by kernel_rfl) (by kernel_rfl) (by decide) (fun _ _ _ h => h) (Or.inl ⟨by rfl, ?_⟩) (fun _ => trivial) hT0 ?_
            rotate_left
            · (intro w hSw; (try dsimp only at hSw); go_simp); try with_reducible rfl
            try simp only [Act.put, List.setIfInBounds_toArray, List.set_cons_zero, List.set_cons_succ]
            refine wpAnyT_take' (i := 3) (some 66) (v := ?_) rfl rfl (by kernel_rfl) (by kernel_rfl) (by kernel_rfl) (by decide) (fun _ _ _ h => h) (Or.inl ⟨by rfl, ?_⟩) (fun _ => trivial) hT0 ?_
            rotate_left
            · (intro w hSw; (try dsimp only at hSw); go_simp); try with_reducible rfl
            try simp only [Act.put, List.setIfInBounds_toArray, List.set_cons_zero, List.set_cons_succ]
            refine wpAnyT_take' (i := 4) (some 67) (v := ?_) rfl rfl (by kernel_rfl) (by kernel_rfl) (by kernel_rfl) (by decide) (fun _ _ _ h => h) (Or.inl ⟨by rfl, ?_⟩) (fun _ => trivial) hT0 ?_
            rotate_left
            · (intro w hSw; (try dsimp only at hSw); go_simp); try with_reducible rfl
            try simp only [Act.put, List.setIfInBounds_toArray, List.set_cons_zero, List.set_cons_succ]
            refine wpAnyT_take' (i := 5) (some 68) (v := ?_) rfl rfl (by kernel_rfl) (by kernel_rfl) (by kernel_rfl) (by decide) (fun _ _ _ h => h) (Or.inl ⟨by rfl, ?_⟩) (fun _ => trivial) hT0 ?_
            rotate_left
            · (intro w hSw; (try dsimp only at hSw); go_simp); try with_reducible rfl
            try simp only [Act.put, List.setIfInBounds_toArray, List.set_cons_zero, List.set_cons_succ]
            refine wpAnyT_take' (i := 6) (some 69) (v := ?_) rfl rfl (by kernel_rfl) (by kernel_rfl) (by kernel_rfl) (by decide) (fun _ _ _ h => h) (Or.inl ⟨by rfl, ?_⟩) (fun _ => trivial) hT0 ?_
            rotate_left
            · (intro w hSw; (try dsimp only at hSw); go_simp); try with_reducible rfl
            try simp only [Act.put, List.setIfInBounds_toArray, List.set_cons_zero, List.set_cons_succ]
            refine wpAnyT_take' (i := 7) (some 70) (v := ?_) rfl rfl (by kernel_rfl) (by kernel_rfl) (by kernel_rfl) (by decide) (fun _ _ _ h => h) (Or.inl ⟨by rfl, ?_⟩) (fun _ => trivial) hT0 ?_
            rotate_left
            · (intro w hSw; (try dsimp only at hSw); go_simp); try with_reducible rfl
            try simp only [Act.put, List.setIfInBounds_toArray, List.set_cons_zero, List.set_cons_succ]
            refine wpAnyT_take' (i := 8) (some 71) (v := ?_) rfl rfl (by kernel_rfl) (by kernel_rfl) (by kernel_rfl) (by decide) (fun _ _ _ h => h) (Or.inl ⟨by rfl, ?_⟩) (fun _ => trivial) hT0 ?_
            rotate_left
            · (intro w hSw; (try dsimp only at hSw); go_simp); try with_reducible rfl
            try simp only [Act.put, List.setIfInBounds_toArray, List.set_cons_zero, List.set_cons_succ]
            refine wpAnyT_take' (i := 9) (some 72) (v := ?_) rfl rfl (by kernel_rfl) (by kernel_rfl) (by kernel_rfl) (by decide) (fun _ _ _ h => h) (Or.inl ⟨by rfl, ?_⟩) (fun _ => trivial) hT0 ?_
            rotate_left
            · (intro w hSw; (try dsimp only at hSw); go_simp); try with_reducible rfl
            try simp only [Act.put, List.setIfInBounds_toArray, List.set_cons_zero, List.set_cons_succ]
            refine wpAnyT_one (i := 10) (by kernel_rfl) rfl (fun K hK => ?_)
            go_simp
            rw [hif.out]
            go_simp
            refine hK _ _ (fun _ => trivial) hT0 ?_
            clear hK K
            try simp only [Act.put, List.setIfInBounds_toArray, List.set_cons_zero, List.set_cons_succ]
            refine wpAnyT_done (by kernel_rfl) ?_ _
            try simp only [Act.put, List.setIfInBounds_toArray, List.set_cons_zero, List.set_cons_succ]
            go_wp2
            go_roundw
            case rel => exact ⟨i + 1, by omega, by go_num, hn1, hext.drew⟩
            case measure => simp [intOf]; omega
          · have e := Hr.out
            have hq0 : q = false := by
              rw [HQ.out]
              unfold sameT
              refine decide_eq_false fun e2 => ?_
              have h5 := Hs.out
              rw [e2, Ht.out] at h5
              cases h5
              simp at e
            subst hq0
            clear e
            refine wp_region_T (fun _ => True) (fun w' : World => w'.cell? ⟨tb, 3, none⟩ = some (.slice (some ⟨b, off, none⟩) n2 c2) ∧ w'.cell? ⟨ub, 3, none⟩ = some (.slice (some ⟨b', off', none⟩) n2 c4') ∧ w'.cell? ⟨b, off + i * 2, none⟩ = some (.string x) ∧ w'.cell? ⟨b, off + i * 2 + 1, none⟩ = some (.int .i64 k) ∧ w'.cell? ⟨b', off' + i * 2, none⟩ = some (.string y) ∧ w'.cell? ⟨b', off' + i * 2 + 1, none⟩ = some (.int .i64 l)) 99 11 (by rfl) (by kernel_rfl) ?_
            have hT0 : wr.drew.cell? ⟨tb, 3, none⟩ = some (.slice (some ⟨b, off, none⟩) n2 c2) ∧ wr.drew.cell? ⟨ub, 3, none⟩ = some (.slice (some ⟨b', off', none⟩) n2 c4') ∧ wr.drew.cell? ⟨b, off + i * 2, none⟩ = some (.string x) ∧ wr.drew.cell? ⟨b, off + i * 2 + 1, none⟩ = some (.int .i64 k) ∧ wr.drew.cell? ⟨b', off' + i * 2, none⟩ = some (.string y) ∧ wr.drew.cell? ⟨b', off' + i * 2 + 1, none⟩ = some (.int .i64 l) := ⟨y3, x3, q0, q1, p0, p1⟩
            refine wpAnyT_take' (i := 0) (some 63) (v := ?_) rfl rfl (by kernel_rfl) (by kernel_rfl) (by kernel_rfl) (by decide) (fun _ _ _ h => h) (Or.inl ⟨by rfl, ?_⟩) (fun _ => trivial) hT0 ?_
            rotate_left
            · (intro w hSw; (try dsimp only at hSw); go_simp); try with_reducible rfl
            try simp only [Act.put, List.setIfInBounds_toArray, List.set_cons_zero, List.set_cons_succ]
            refine wpAnyT_take' (i := 1) (some 64) (v := ?_) rfl rfl (by kernel_rfl) (by kernel_rfl) (by kernel_rfl) (by decide) (fun _ _ _ h => h) (Or.inl ⟨by rfl, ?_⟩) (fun _ => trivial) hT0 ?_
            rotate_left
            · (intro w hSw; (try dsimp only at hSw); go_simp); try with_reducible rfl
            try simp only [Act.put, List.setIfInBounds_toArray, List.set_cons_zero, List.set_cons_succ]
            refine wpAnyT_take' (i := 2) (some 65) (v := ?_) rfl rfl (by kernel_rfl) (by kernel_rfl) (by kernel_rfl) (by decide) (fun _ _ _ h => h) (Or.inl ⟨by rfl, ?_⟩) (fun _ => trivial) hT0 ?_
            rotate_left
            · (intro w hSw; (try dsimp only at hSw); go_simp); try with_reducible rfl
            try simp only [Act.put, List.setIfInBounds_toArray, List.set_cons_zero, List.set_cons_succ]
            refine wpAnyT_take' (i := 3) (some 66) (v := ?_) rfl rfl (by kernel_rfl) (by kernel_rfl) (by kernel_rfl) (by decide) (fun _ _ _ h => h) (Or.inl ⟨by rfl, ?_⟩) (fun _ => trivial) hT0 ?_
            rotate_left
            · (intro w hSw; (try dsimp only at hSw); go_simp); try with_reducible rfl
            try simp only [Act.put, List.setIfInBounds_toArray, List.set_cons_zero, List.set_cons_succ]
            refine wpAnyT_take' (i := 4) (some 67) (v := ?_) rfl rfl (by kernel_rfl) (by kernel_rfl) (by kernel_rfl) (by decide) (fun _ _ _ h => h) (Or.inl ⟨by rfl, ?_⟩) (fun _ => trivial) hT0 ?_
            rotate_left
            · (intro w hSw; (try dsimp only at hSw); go_simp); try with_reducible rfl
            try simp only [Act.put, List.setIfInBounds_toArray, List.set_cons_zero, List.set_cons_succ]
            refine wpAnyT_take' (i := 5) (some 68) (v := ?_) rfl rfl (by kernel_rfl) (by kernel_rfl) (by kernel_rfl) (by decide) (fun _ _ _ h => h) (Or.inl ⟨by rfl, ?_⟩) (fun _ => trivial) hT0 ?_
            rotate_left
            · (intro w hSw; (try dsimp only at hSw); go_simp); try with_reducible rfl
            try simp only [Act.put, List.setIfInBounds_toArray, List.set_cons_zero, List.set_cons_succ]
            refine wpAnyT_take' (i := 6) (some 69) (v := ?_) rfl rfl (by kernel_rfl) (by kernel_rfl) (by kernel_rfl) (by decide) (fun _ _ _ h => h) (Or.inl ⟨by rfl, ?_⟩) (fun _ => trivial) hT0 ?_
            rotate_left
            · (intro w hSw; (try dsimp only at hSw); go_simp); try with_reducible rfl
            try simp only [Act.put, List.setIfInBounds_toArray, List.set_cons_zero, List.set_cons_succ]
            refine wpAnyT_take' (i := 7) (some 70) (v := ?_) rfl rfl (by kernel_rfl) (by kernel_rfl) (by kernel_rfl) (by decide) (fun _ _ _ h => h) (Or.inl ⟨by rfl, ?_⟩) (fun _ => trivial) hT0 ?_
            rotate_left
            · (intro w hSw; (try dsimp only at hSw); go_simp); try with_reducible rfl
            try simp only [Act.put, List.setIfInBounds_toArray, List.set_cons_zero, List.set_cons_succ]
            refine wpAnyT_take' (i := 8) (some 71) (v := ?_) rfl rfl (by kernel_rfl) (by kernel_rfl) (by kernel_rfl) (by decide) (fun _ _ _ h => h) (Or.inl ⟨by rfl, ?_⟩) (fun _ => trivial) hT0 ?_
            rotate_left
            · (intro w hSw; (try dsimp only at hSw); go_simp); try with_reducible rfl
            try simp only [Act.put, List.setIfInBounds_toArray, List.set_cons_zero, List.set_cons_succ]
            refine wpAnyT_take' (i := 9) (some 72) (v := ?_) rfl rfl (by kernel_rfl) (by kernel_rfl) (by kernel_rfl) (by decide) (fun _ _ _ h => h) (Or.inl ⟨by rfl, ?_⟩) (fun _ => trivial) hT0 ?_
            rotate_left
            · (intro w hSw; (try dsimp only at hSw); go_simp); try with_reducible rfl
            try simp only [Act.put, List.setIfInBounds_toArray, List.set_cons_zero, List.set_cons_succ]
            refine wpAnyT_one (i := 10) (by kernel_rfl) rfl (fun K hK => ?_)
            go_simp
            rw [hif.out]
            go_simp
            refine hK _ _ (fun _ => trivial) hT0 ?_
            clear hK K
            try simp only [Act.put, List.setIfInBounds_toArray, List.set_cons_zero, List.set_cons_succ]
            refine wpAnyT_done (by kernel_rfl) ?_ _
            try simp only [Act.put, List.setIfInBounds_toArray, List.set_cons_zero, List.set_cons_succ]
            go_wp2
            go_ret
            exact Post.mk ((Eg.trans hext).drew) rfl
        · have hlt2' : ¬ ((i : Nat) : Int) < n2 := by omega
          have hq1 : q = true := by
            rw [HQ.out]
            unfold sameT
            refine decide_eq_true (List.ext_getElem? fun m => ?_)
            by_cases hm : m < i
            · exact hall.out m hm
            · have := H2.out.len
              have := H4.out.len
              rw [List.getElem?_eq_none (by omega), List.getElem?_eq_none (by omega)]
          subst hq1
          go_wp2
          go_ret
          exact Post.mk (Eg.trans hext) rfl
set_option maxRecDepth 100000 in
set_option maxHeartbeats 4000000 in
theorem rsame17_any (v u : Value) (p o p' o' : Int) (L L' : List Step) (T T' : List (ByteArray × Int)) (w : World) (h1 : IsTape w v p o L T) (h2 : IsTape w u p' o' L' T') :
    Calls Tryz.prog 19 #[v, u] w (Post w fun r _ => r = .bool (sameP p o L T p' o' L' T')) := by
  obtain ⟨a1, n1, c1, a2, n2, c2, rfl, g1, g2⟩ := h1
  obtain ⟨a3, n3, c3, a4, n4, c4, rfl, k1, k2⟩ := h2
  have f1 := g1.few
  have f2 := g2.few
  have f3 := k1.few
  have f4 := k2.few
  obtain ⟨q, hq⟩ : ∃ q, q = sameP p o L T p' o' L' T' := ⟨_, rfl⟩
  rw [← hq]
  by_cases e1 : p = p'
  rotate_left
  · have b1 : (p != p') = true := by simp [e1]
    have e : q = false := by rw [hq]; simp [sameP, e1]
    subst e
    clear hq g1 g2 k1 k2
    go_enter Tryz.func19, Tryz.ntmps19
    go_wp2
    go_ret
    exact Post.mk (by repeat (first | with_reducible exact Ext.refl _ | with_reducible assumption | (with_reducible refine Ext.alloc ?_ _) | (with_reducible refine Ext.drew ?_) | (with_reducible refine Ext.drewN ?_ _) | (with_reducible refine Ext.set ?_ (by first | (simp; done) | (simp; omega)) _) | (with_reducible refine Ext.trans ?_ (by with_reducible assumption)))) rfl
  by_cases e2 : o = o'
  rotate_left
  · have b1 : (p != p') = false := by simp [e1]
    have b2 : (o != o') = true := by simp [e2]
    have e : q = false := by rw [hq]; simp [sameP, e2]
    subst e
    clear hq g1 g2 k1 k2 e1 e2
    go_enter Tryz.func19, Tryz.ntmps19
    go_wp2
    go_ret
    exact Post.mk (by repeat (first | with_reducible exact Ext.refl _ | with_reducible assumption | (with_reducible refine Ext.alloc ?_ _) | (with_reducible refine Ext.drew ?_) | (with_reducible refine Ext.drewN ?_ _) | (with_reducible refine Ext.set ?_ (by first | (simp; done) | (simp; omega)) _) | (with_reducible refine Ext.trans ?_ (by with_reducible assumption)))) rfl
  subst e1 e2
  by_cases e3 : n1 = n3
  rotate_left
  · have b3 : ((n1 : Int) != n3) = true := by simp; omega
    have e : q = false := by
      rw [hq]
      have : sameR L L' = false := by
        cases hh : sameR L L' with
        | false => rfl
        | true => exact absurd (by rw [← g1.len, ← k1.len, (sameR_iff _ _).1 hh]) e3
      simp [sameP, this]
    subst e
    clear hq g1 g2 k1 k2
    go_enter Tryz.func19, Tryz.ntmps19
    go_wp2
    go_ret
    exact Post.mk (by repeat (first | with_reducible exact Ext.refl _ | with_reducible assumption | (with_reducible refine Ext.alloc ?_ _) | (with_reducible refine Ext.drew ?_) | (with_reducible refine Ext.drewN ?_ _) | (with_reducible refine Ext.set ?_ (by first | (simp; done) | (simp; omega)) _) | (with_reducible refine Ext.trans ?_ (by with_reducible assumption)))) rfl
  subst e3
  by_cases e4 : n2 = n4
  rotate_left
  · have b4 : ((n2 : Int) != n4) = true := by simp; omega
    have e : q = false := by
      rw [hq]
      have : sameT T T' = false := by
        unfold sameT
        refine decide_eq_false fun e => e4 ?_
        rw [← g2.len, ← k2.len, e]
      simp [sameP, this]
    subst e
    clear hq g1 g2 k1 k2
    go_enter Tryz.func19, Tryz.ntmps19
    go_wp2
    go_ret
    exact Post.mk (by repeat (first | with_reducible exact Ext.refl _ | with_reducible assumption | (with_reducible refine Ext.alloc ?_ _) | (with_reducible refine Ext.drew ?_) | (with_reducible refine Ext.drewN ?_ _) | (with_reducible refine Ext.set ?_ (by first | (simp; done) | (simp; omega)) _) | (with_reducible refine Ext.trans ?_ (by with_reducible assumption)))) rfl
  subst e4
  have e : q = (sameR L L' && sameT T T') := by rw [hq]; simp [sameP]
  rw [e]
  exact rsame17_main p o a1 a2 a3 a4 n1 c1 n2 c2 c3 c4 L L' T T' w g1 g2 k1 k2
end Go.Proofs.YtbncdghbnnefdaaGreat

namespace Go.Proofs.YtbncdghbnnefdaaGreat
open Go.RowKit

theorem op_bnd {s : Step} {i pars : Int} (hr : rightP s i pars = true) : 1 ≤ s.op ∧ s.op ≤ 11 := by
  have : fieldsN s.op ≠ 0 := by
    intro e
    unfold rightP at hr
    rw [if_neg (by omega), if_neg (by omega), if_neg (by omega), if_neg (by omega)] at hr
    cases hr
  unfold fieldsN at this
  split at this
  · omega
  · split at this
    · omega
    · split at this
      · omega
      · split at this
        · omega
        · exact absurd rfl this
/-- How many are not live yet. -/
def cntF (S : List Bool) : Nat := (S.filter fun b => !b).length
theorem cnt_set : ∀ {S : List Bool} {a : Nat}, S[a]? = some false → cntF (S.set a true) + 1 = cntF S
  | [], a, h => by simp at h
  | b :: S, 0, h => by simp at h; subst h; simp [cntF]
  | b :: S, a + 1, h => by
    have := cnt_set (S := S) (a := a) (by simpa using h)
    unfold cntF at *
    cases b <;> simp at this ⊢ <;> omega
theorem set_id {S : List Bool} {a : Nat} (h : S[a]? = some true) : S.set a true = S := by
  refine List.ext_getElem? fun i => ?_
  by_cases e : a = i
  · subst e
    rw [List.getElem?_set_self (List.getElem?_eq_some_iff.1 h).1, h]
  · rw [List.getElem?_set_ne e]
theorem some_bool {S : List Bool} {a : Nat} (h : a < S.length) : S[a]? = some (S[a]?.getD false) := by
  rw [List.getElem?_eq_getElem h]; rfl
/-- The cell is false. -/
def isFb : Value → Bool
  | .bool false => true
  | _ => false
/-- How many of a block's cells are false. -/
def cntW (w : World) (g : Nat) : Nat := match w.heap[g]? with
  | some (.cells cs _ _) => (cs.toList.filter isFb).length
  | _ => 0
theorem cntW_of {w : World} {g : Nat} {S : List Bool} (h : Truths w g S) : cntW w g = cntF S := by
  have e : w.heap[g]? = _ := h
  unfold cntW
  rw [e]
  simp only [bls]
  unfold cntF
  rw [List.filter_map, List.length_map]
  congr 1
  refine List.filter_congr fun b _ => ?_
  cases b <;> rfl
/-- All that is live hangs together with Out. -/
def ReachS (L : List Step) (o : Nat) (S : List Bool) : Prop := S.length = L.length ∧ S[o]? = some true ∧ ∀ j, j < L.length → S[j]? = some true → j = o ∨ ∃ (i : Nat) (s : Step), L[i]? = some s ∧ S[i]? = some true ∧ uses s j
/-- The live ones of the first k have all their steps. -/
def ClosedS (L : List Step) (S : List Bool) (k : Nat) : Prop := ∀ (i : Nat) (s : Step), i < k → L[i]? = some s → S[i]? = some true → ∀ j, uses s j → S[j]? = some true
theorem reach_start {L : List Step} {o : Nat} (ho : o < L.length) : ReachS L o ((List.replicate L.length false).set o true) := by
  refine ⟨by simp, by rw [set_true (by simpa using ho)]; exact .inr rfl, fun j hj h => ?_⟩
  rw [set_true (by simpa using ho)] at h
  rcases h with h | h
  · rw [List.getElem?_replicate] at h
    split at h <;> simp at h
  · exact .inl h
theorem reach_mark {L : List Step} {o k : Nat} {S : List Bool} {s : Step} (h : ReachS L o S) (hs : L[k]? = some s) (hl : S[k]? = some true) (hu : ∀ j : Int, (fieldsN s.op = 3 ∧ (s.a = j ∨ s.b = j)) ∨ (fieldsN s.op = 4 ∧ s.a = j) → 0 ≤ j ∧ j < L.length) : ReachS L o (markS S s) := by
  have hat := markS_at h.1 hu
  refine ⟨by rw [markS_len]; exact h.1, (hat o).2 (.inl h.2.1), fun j hj hm => ?_⟩
  rcases (hat j).1 hm with h1 | h1
  · rcases h.2.2 j hj h1 with e | ⟨i, t, h2, h3, h4⟩
    · exact .inl e
    · exact .inr ⟨i, t, h2, (hat i).2 (.inl h3), h4⟩
  · exact .inr ⟨k, s, hs, (hat k).2 (.inl hl), h1⟩
theorem live_of {L : List Step} {o : Nat} {S : List Bool} (h : ReachS L o S) (c : ClosedS L S L.length) : LiveAt L o 0 S := by
  refine ⟨h.1, fun j hj => ⟨fun hm => ?_, ?_⟩⟩
  · rcases h.2.2 j hj hm with e | ⟨i, s, h1, h2, h3⟩
    · exact .inl e
    · exact .inr ⟨i, s, Nat.zero_le _, h1, h2, h3⟩
  · rintro (e | ⟨i, s, _, h1, h2, h3⟩)
    · rw [e]; exact h.2.1
    · exact c i s (List.getElem?_eq_some_iff.1 h1).1 h1 h2 j h3
/-- A pass, from S0 on: what it has come to ahead of step k. -/
def PassS (L : List Step) (o : Nat) (S0 : List Bool) (k : Nat) (m : Bool) (S : List Bool) : Prop := ReachS L o S ∧ (m = false → S = S0 ∧ ClosedS L S k) ∧ (m = true → cntF S < cntF S0)
theorem pass_start {L : List Step} {o : Nat} {S : List Bool} (h : ReachS L o S) : PassS L o S 0 false S := ⟨h, fun _ => ⟨rfl, fun i s hi => by omega⟩, fun e => by cases e⟩
theorem pass_skip {L : List Step} {o k : Nat} {S0 S : List Bool} {m : Bool} {s : Step} (h : PassS L o S0 k m S) (hs : L[k]? = some s) (hn : S[k]? = some true → ∀ j, uses s j → S[j]? = some true) : PassS L o S0 (k + 1) m S := by
  refine ⟨h.1, fun e => ⟨(h.2.1 e).1, fun i t hi ht hl j hu => ?_⟩, h.2.2⟩
  by_cases e' : i = k
  · subst e'
    rw [hs] at ht
    cases ht
    exact hn hl j hu
  · exact (h.2.1 e).2 i t (by omega) ht hl j hu
theorem pass_more {L : List Step} {o k : Nat} {S0 S S' : List Bool} {m : Bool} (h : PassS L o S0 k m S) (hr : ReachS L o S') (hc : cntF S' < cntF S) : PassS L o S0 (k + 1) true S' := by
  refine ⟨hr, (fun e => by cases e), fun _ => ?_⟩
  cases m with
  | true => have := h.2.2 rfl; omega
  | false => rw [(h.2.1 rfl).1] at hc; exact hc

set_option maxRecDepth 100000 in
set_option maxHeartbeats 8000000 in
theorem rlive_any (pars out : Int) (a1 a2 : Option Addr) (n1 c1 n2 c2 : Nat) (L : List Step) (T : List (ByteArray × Int)) (w : World) (hs : Steps w a1 n1 c1 L) (ht : Tells w a2 n2 c2 T) (hsm : SmL L) :
    Calls Tryz.prog 23 #[.agg #[.int .i64 pars, .int .i64 out, .slice a1 n1 c1, .slice a2 n2 c2]] w (Post w (LiveRes w.heap.size pars out L T)) := by
  have HC := Lib.hid (fun W (e : Ext w W) => rcheck_any pars out a1 a2 n1 c1 n2 c2 L T W (hs.ext e) (ht.ext e) hsm)
  obtain ⟨q, hq⟩ : ∃ q, q = checkP pars out L T := ⟨_, rfl⟩
  rw [← hq] at HC
  have Hs := Lib.hid hs
  obtain rfl := hs.len
  clear hs ht hsm
  by_cases hq0 : q = 0
  rotate_left
  · have q0 : ¬ ((q : Int) = 0) := by omega
    go_enter Tryz.func23, Tryz.ntmps23
    go_wp2_with fail
    refine (HC.out _ (Ext.of_alloc _ _)).mono ?_
    rintro e w1 ⟨_, rfl, E1, rfl⟩
    clear HC
    go_wp2
    go_ret
    exact Post.mk (by repeat (first | with_reducible exact Ext.refl _ | with_reducible assumption | (with_reducible refine Ext.alloc ?_ _) | (with_reducible refine Ext.drew ?_) | (with_reducible refine Ext.drewN ?_ _) | (with_reducible refine Ext.set ?_ (by first | (simp; done) | (simp; omega)) _) | (with_reducible refine Ext.trans ?_ (by with_reducible assumption)))) ⟨fun _ => rfl, fun h => by rw [← hq] at h; exact absurd h hq0⟩
  subst hq0
  obtain ⟨hh, hr, _⟩ := check_parts hq.symm
  unfold headOk at hh
  obtain ⟨g1, g2, g3, g4, g5, g6⟩ := hh
  obtain ⟨o, rfl⟩ := Int.eq_ofNat_of_zero_le g5
  have HR := Lib.hid hr
  have Hq := Lib.hid hq
  have HTW := Lib.hid (fun op (h : op < 256) W => rtwo_any op h W)
  have hmk := run_make_bool L.length (by omega)
  clear hr hq g1 g2
  go_enter Tryz.func23, Tryz.ntmps23
  go_wp2_with fail
  refine (HC.out _ (Ext.of_alloc _ _)).mono ?_
  rintro e w1 ⟨_, rfl, E1, rfl⟩
  clear HC
  obtain ⟨tb, htb⟩ : ∃ tb, tb = w.heap.size := ⟨_, rfl⟩
  have z1 : w1.cell? ⟨tb, 1, none⟩ = some (.int .i64 o) := E1.cell (by rw [htb]; simp [go_sem])
  have z2 : w1.cell? ⟨tb, 2, none⟩ = some (.slice a1 L.length c1) := E1.cell (by rw [htb]; simp [go_sem])
  have Ew : Ext w w1 := (Ext.of_alloc _ _).trans E1
  have hb := World.block_lt_of_cell? w1 _ z1
  simp at hb
  have hsz := Ew.size
  rw [← htb]
  clear htb E1
  obtain ⟨W1, hW1⟩ : ∃ W1, W1 = w1.alloc (.cells (bls (List.replicate L.length false)).toArray 4) := ⟨_, rfl⟩
  obtain ⟨g, hg⟩ : ∃ g, g = w1.heap.size := ⟨_, rfl⟩
  have hmk1 := hmk w1
  rw [← hW1, ← hg] at hmk1
  have hT : Truths W1 g (List.replicate L.length false) := by rw [hW1, hg]; exact heap_alloc_new w1 _
  have E2 : Ext w1 W1 := by rw [hW1]; exact Ext.of_alloc _ _
  have y1 := E2.cell z1
  have y2 := E2.cell z2
  have f1 := hT.frozen o
  have x1 := hT.cell (i := o) (by simp; omega)
  have htb : tb < g := by omega
  have hgB : w.heap.size ≤ g := by omega
  have EW := Ew.trans E2
  clear hmk hW1 hg hb hsz Ew E2
  have hT2 := hT.set o true
  have EW2 : Ext w (W1.setCell ⟨g, o, none⟩ (.bool true)) := Below.setCell (p := ⟨g, o, none⟩) EW hgB _
  have k2 : (W1.setCell ⟨g, o, none⟩ (.bool true)).cell? ⟨tb, 2, none⟩ = some (.slice a1 L.length c1) := by
    rw [World.cell?_setCell_other _ _ _ _ (by intro e; have := congrArg Addr.block e; simp at this; omega)]
    exact y2
  have HP := Lib.hid (reach_start (L := L) (o := o) (by omega))
  obtain ⟨S0, hS0⟩ : ∃ S0, S0 = (List.replicate L.length false).set o true := ⟨_, rfl⟩
  rw [← hS0] at HP hT2
  have HT2 := Lib.hid hT2
  have HW2 := Lib.hid EW2
  clear hT hT2 EW EW2 hS0
  go_wp2_with fail
  obtain ⟨W2, hW2⟩ : ∃ W2, W2 = W1.setCell ⟨g, o, none⟩ (.bool true) := ⟨_, rfl⟩
  rw [← hW2] at k2 HT2 HW2 ⊢
  clear hW2 z1 z2 y1 y2 f1 x1 hmk1
  go_loopw [4] (fun k wr => ∃ (m : Bool) (S : List Bool), k = .bool m ∧ Truths wr g S ∧ Ext w wr ∧ wr.cell? ⟨tb, 2, none⟩ = some (.slice a1 L.length c1) ∧ Hid (ReachS L o S ∧ (m = false → ClosedS L S L.length))) (fun k wr => 2 * cntW wr g + (match k with | .bool true => 1 | _ => 0))
  case atStart => exact ⟨true, S0, rfl, HT2.out, HW2.out, k2, Lib.hid ⟨HP.out, fun e => by cases e⟩⟩
  case round =>
    clear HT2 HW2 k2 HP
    obtain ⟨m, S, rfl, hT, hE, hk, hRC⟩ := hrel
    cases m
    · go_wp2
      go_ret
      refine Post.mk hE ⟨fun h => absurd Hq.out.symm h, fun _ => ⟨g, S, rfl, hgB, hT, ?_⟩⟩
      rw [Int.toNat_natCast]
      exact live_of hRC.out.1 (hRC.out.2 (by first | rfl | trivial))
    · have hcnt := cntW_of hT
      have HC0 := Lib.hid hcnt
      have HT0 := Lib.hid hT
      have HE0 := Lib.hid hE
      clear hT hE hcnt
      go_wp2_with fail
      go_loopw [4, 5] (fun k i wq => ∃ (m : Bool) (j : Nat) (S' : List Bool), j ≤ L.length ∧ k = .bool m ∧ i = .int .i64 j ∧ Truths wq g S' ∧ Ext w wq ∧ wq.cell? ⟨tb, 2, none⟩ = some (.slice a1 L.length c1) ∧ Hid (PassS L o S j m S')) (fun _ i _ => L.length - (intOf i).toNat)
      case atStart => exact ⟨false, 0, S, Nat.zero_le _, rfl, rfl, HT0.out, HE0.out, hk, Lib.hid (pass_start hRC.out.1)⟩
      case round =>
        clear HT0 HE0 hk
        obtain ⟨m, j, S', hj, rfl, rfl, hT, hE, hk, hP⟩ := hrel
        have hlenS := hP.out.1.1
        by_cases hlt : j < L.length
        · have hlt' : ((j : Nat) : Int) < L.length := by omega
          obtain ⟨b, off, s, rfl, hs, a3, m3, c3, a4, m4, c4, q0, q1, q2, q3, q4, q5, q6, q7, q8⟩ := (Hs.out.ext hE).at hlt
          have x1 := hT.cell (i := j) (by omega)
          have hsome := some_bool (S := S') (a := j) (by omega)
          obtain ⟨t, ht⟩ : ∃ t, t = S'[j]?.getD false := ⟨_, rfl⟩
          rw [← ht] at x1 hsome
          have hrt := HR.out j s hs
          have hob := op_bnd hrt
          have hrb := right_bounds hrt
          have Hsi := Lib.hid hs
          have Hst := Lib.hid hsome
          have HT := Lib.hid hT
          have HE := Lib.hid hE
          have hwl := World.block_lt_of_cell? _ _ x1
          simp at hwl
          have hkl := World.block_lt_of_cell? _ _ hk
          simp at hkl
          clear hsome ht hs q6 q7 hE hrt
          cases t
          · have HK := Lib.hid (pass_skip hP.out Hsi.out (fun h => by rw [Hst.out] at h; cases h))
            clear hP hT hrb
            go_wp2
            go_roundw
            case rel => exact ⟨m, j + 1, S', by omega, rfl, by go_num, HT.out.ext (Ext.of_alloc _ _), HE.out.alloc _, (Ext.of_alloc _ _).cell hk, HK⟩
            case measure => simp [intOf]; omega
          · by_cases h3 : s.op < 3
            · have HK := Lib.hid (pass_skip hP.out Hsi.out (fun _ i hu => by
                have := fld_lo h3
                rcases hu with ⟨e, _⟩ | ⟨e, _⟩
                · exact absurd e this.1
                · exact absurd e this.2))
              have h3' : ((s.op : Nat) : Int) < 3 := by omega
              clear hP hT hrb
              go_wp2
              go_roundw
              case rel => exact ⟨m, j + 1, S', by omega, rfl, by go_num, HT.out.ext (Ext.of_alloc _ _), HE.out.alloc _, (Ext.of_alloc _ _).cell hk, HK⟩
              case measure => simp [intOf]; omega
            · have h3' : ¬ ((s.op : Nat) : Int) < 3 := by omega
              obtain ⟨op, sa, sb, neg, xs, ys⟩ := s
              simp only at *
              have hop : op < 256 := q8.1
              clear q8
              by_cases h6 : op ≤ 6
              · have hf3 := fld_mid (by omega) h6
                obtain ⟨b1, b2, b3, b4⟩ := hrb.1 hf3
                obtain ⟨sa, rfl⟩ := Int.eq_ofNat_of_zero_le b1
                obtain ⟨sb, rfl⟩ := Int.eq_ofNat_of_zero_le b3
                have em : markS S' ⟨op, sa, sb, neg, xs, ys⟩ = (S'.set sa true).set sb true := by
                  unfold markS
                  rw [if_pos hf3]
                  simp only [Int.toNat_natCast]
                  by_cases e : sa = sb
                  · subst e; rfl
                  · exact List.set_comm _ _ (by omega)
                have hrm := reach_mark hP.out.1 Hsi.out Hst.out (fun i hi => by
                  simp only at hi
                  rcases hi with ⟨_, e | e⟩ | ⟨e, _⟩ <;> omega)
                rw [em] at hrm
                have HRM := Lib.hid hrm
                have v1 := hT.cell (i := sa) (by omega)
                have hsa := some_bool (S := S') (a := sa) (by omega)
                obtain ⟨ta, hta⟩ : ∃ t, t = S'[sa]?.getD false := ⟨_, rfl⟩
                rw [← hta] at v1 hsa
                have Hsa := Lib.hid hsa
                have HF3 := Lib.hid hf3
                have hD : Hid (decide (fieldsN op = 3) = true) := Lib.hid (decide_eq_true hf3)
                clear em hrm hta hsa hrb hf3
                cases ta
                · have hT1 := hT.set sa true
                  have fz1 := hT.frozen sa
                  have hE1 : Ext w (wr.setCell ⟨g, sa, none⟩ (.bool true)) := Below.setCell (p := ⟨g, sa, none⟩) HE.out hgB _
                  have hk1 : (wr.setCell ⟨g, sa, none⟩ (.bool true)).cell? ⟨tb, 2, none⟩ = some (.slice (some ⟨b, off, none⟩) L.length c1) := by
                    rw [World.cell?_setCell_other _ _ _ _ (by intro e; have := congrArg Addr.block e; simp at this; omega)]
                    exact hk
                  have HT1 := Lib.hid hT1
                  have HE1 := Lib.hid hE1
                  have HK1 := Lib.hid hk1
                  clear hT hT1 hE1 hk1
                  go_wp2_with fail
                  obtain ⟨Wx, hWx⟩ : ∃ Wx, Wx = (wr.setCell ⟨g, sa, none⟩ (.bool true)).alloc (.cells #[.int .u8 op, .int .i64 sa, .int .i64 sb, .bool neg, .slice a3 m3 c3, .slice a4 m4 c4] 78) := ⟨_, rfl⟩
                  obtain ⟨nb, hnb⟩ : ∃ nb, nb = wr.heap.size := ⟨_, rfl⟩
                  have TX : Truths Wx g (S'.set sa true) := by rw [hWx]; exact HT1.out.ext (Ext.of_alloc _ _)
                  have EX : Ext w Wx := by rw [hWx]; exact HE1.out.alloc _
                  have kX : Wx.cell? ⟨tb, 2, none⟩ = some (.slice (some ⟨b, off, none⟩) L.length c1) := by rw [hWx]; exact (Ext.of_alloc _ _).cell HK1.out
                  have nX : Wx.cell? ⟨nb, 2, none⟩ = some (.int .i64 sb) := by rw [hWx, hnb]; simp [go_sem]
                  rw [← hWx, ← hnb]
                  clear hWx hnb hk HT1 HE1 HK1
                  refine (HTW.out op hop _).mono ?_
                  rintro e w2 ⟨_, rfl, E2, rfl⟩
                  replace TX := TX.ext E2
                  replace EX := EX.trans E2
                  replace kX := E2.cell kX
                  replace nX := E2.cell nX
                  clear E2
                  rw [hD.out]
                  have hl1 : (S'.set sa true).length = L.length := by simp; omega
                  have v2 := TX.cell (i := sb) (by omega)
                  have hsb := some_bool (S := (S'.set sa true)) (a := sb) (by omega)
                  obtain ⟨tc, htc⟩ : ∃ t, t = (S'.set sa true)[sb]?.getD false := ⟨_, rfl⟩
                  rw [← htc] at v2 hsb
                  have Hsb := Lib.hid hsb
                  clear htc hsb hl1
                  cases tc
                  · have hT3 := TX.set sb true
                    have fz2 := TX.frozen sb
                    have hE3 : Ext w (w2.setCell ⟨g, sb, none⟩ (.bool true)) := Below.setCell (p := ⟨g, sb, none⟩) EX hgB _
                    have hk3 : (w2.setCell ⟨g, sb, none⟩ (.bool true)).cell? ⟨tb, 2, none⟩ = some (.slice (some ⟨b, off, none⟩) L.length c1) := by
                      rw [World.cell?_setCell_other _ _ _ _ (by intro e; have := congrArg Addr.block e; simp at this; omega)]
                      exact kX
                    have hc2 := cnt_set Hsb.out
                    have hc1 := cnt_set Hsa.out
                    have HK : Hid (PassS L o S (j + 1) true ((S'.set sa true).set sb true)) := Lib.hid (pass_more hP.out HRM.out (by omega))
                    clear hc1
                    have HT3 := Lib.hid hT3
                    have HE3 := Lib.hid hE3
                    have HK3 := Lib.hid hk3
                    clear TX EX kX hT3 hE3 hk3 hc2 hP
                    go_wp2
                    go_roundw
                    case rel => exact ⟨true, j + 1, _, by omega, rfl, by go_num, HT3.out, HE3.out, HK3.out, HK⟩
                    case measure => simp [intOf]; omega
                  · have hc1 := cnt_set Hsa.out
                    have HK : Hid (PassS L o S (j + 1) true (S'.set sa true)) := Lib.hid (pass_more hP.out (by have := HRM.out; rw [set_id Hsb.out] at this; exact this) (by omega))
                    clear hc1
                    clear hP
                    go_wp2
                    go_roundw
                    case rel => exact ⟨true, j + 1, _, by omega, rfl, by go_num, TX, EX, kX, HK⟩
                    case measure => simp [intOf]; omega
                · have hT1 := hT
                  have hE1 := HE.out
                  have hk1 := hk
                  have HT1 := Lib.hid hT1
                  have HE1 := Lib.hid hE1
                  have HK1 := Lib.hid hk1
                  clear hT hT1 hE1 hk1
                  go_wp2_with fail
                  obtain ⟨Wx, hWx⟩ : ∃ Wx, Wx = wr.alloc (.cells #[.int .u8 op, .int .i64 sa, .int .i64 sb, .bool neg, .slice a3 m3 c3, .slice a4 m4 c4] 78) := ⟨_, rfl⟩
                  obtain ⟨nb, hnb⟩ : ∃ nb, nb = wr.heap.size := ⟨_, rfl⟩
                  have TX : Truths Wx g S' := by rw [hWx]; exact HT1.out.ext (Ext.of_alloc _ _)
                  have EX : Ext w Wx := by rw [hWx]; exact HE1.out.alloc _
                  have kX : Wx.cell? ⟨tb, 2, none⟩ = some (.slice (some ⟨b, off, none⟩) L.length c1) := by rw [hWx]; exact (Ext.of_alloc _ _).cell HK1.out
                  have nX : Wx.cell? ⟨nb, 2, none⟩ = some (.int .i64 sb) := by rw [hWx, hnb]; simp [go_sem]
                  rw [← hWx, ← hnb]
                  clear hWx hnb hk HT1 HE1 HK1
                  refine (HTW.out op hop _).mono ?_
                  rintro e w2 ⟨_, rfl, E2, rfl⟩
                  replace TX := TX.ext E2
                  replace EX := EX.trans E2
                  replace kX := E2.cell kX
                  replace nX := E2.cell nX
                  clear E2
                  rw [hD.out]
                  have hl1 : S'.length = L.length := by omega
                  have v2 := TX.cell (i := sb) (by omega)
                  have hsb := some_bool (S := S') (a := sb) (by omega)
                  obtain ⟨tc, htc⟩ : ∃ t, t = S'[sb]?.getD false := ⟨_, rfl⟩
                  rw [← htc] at v2 hsb
                  have Hsb := Lib.hid hsb
                  clear htc hsb hl1
                  cases tc
                  · have hT3 := TX.set sb true
                    have fz2 := TX.frozen sb
                    have hE3 : Ext w (w2.setCell ⟨g, sb, none⟩ (.bool true)) := Below.setCell (p := ⟨g, sb, none⟩) EX hgB _
                    have hk3 : (w2.setCell ⟨g, sb, none⟩ (.bool true)).cell? ⟨tb, 2, none⟩ = some (.slice (some ⟨b, off, none⟩) L.length c1) := by
                      rw [World.cell?_setCell_other _ _ _ _ (by intro e; have := congrArg Addr.block e; simp at this; omega)]
                      exact kX
                    have hc2 := cnt_set Hsb.out
                    have e1 : (S'.set sa true).set sb true = S'.set sb true := by rw [set_id Hsa.out]
                    have HK : Hid (PassS L o S (j + 1) true (S'.set sb true)) := Lib.hid (pass_more hP.out (by rw [← e1]; exact HRM.out) (by omega))
                    clear e1
                    have HT3 := Lib.hid hT3
                    have HE3 := Lib.hid hE3
                    have HK3 := Lib.hid hk3
                    clear TX EX kX hT3 hE3 hk3 hc2 hP
                    go_wp2
                    go_roundw
                    case rel => exact ⟨true, j + 1, _, by omega, rfl, by go_num, HT3.out, HE3.out, HK3.out, HK⟩
                    case measure => simp [intOf]; omega
                  · have HK := Lib.hid (pass_skip hP.out Hsi.out (fun _ i hu => by
                      rcases hu with ⟨_, e | e⟩ | ⟨e, _⟩
                      · have e' : sa = i := by have : (sa : Int) = i := e; omega
                        rw [← e']; exact Hsa.out
                      · have e' : sb = i := by have : (sb : Int) = i := e; omega
                        rw [← e']; exact Hsb.out
                      · have := HF3.out; simp only at e; omega))
                    clear hP
                    go_wp2
                    go_roundw
                    case rel => exact ⟨m, j + 1, S', by omega, rfl, by go_num, TX, EX, kX, HK⟩
                    case measure => simp [intOf]; omega
              · have hf4 := fld_hi (by omega) hob.2
                obtain ⟨b1, b2⟩ := hrb.2 hf4
                obtain ⟨sa, rfl⟩ := Int.eq_ofNat_of_zero_le b1
                have em : markS S' ⟨op, sa, sb, neg, xs, ys⟩ = S'.set sa true := by
                  unfold markS
                  rw [if_neg (by simp only; omega), if_pos hf4]
                  simp only [Int.toNat_natCast]
                have hrm := reach_mark hP.out.1 Hsi.out Hst.out (fun i hi => by
                  simp only at hi
                  rcases hi with ⟨e, _⟩ | ⟨_, e⟩ <;> omega)
                rw [em] at hrm
                have HRM := Lib.hid hrm
                have v1 := hT.cell (i := sa) (by omega)
                have hsa := some_bool (S := S') (a := sa) (by omega)
                obtain ⟨ta, hta⟩ : ∃ t, t = S'[sa]?.getD false := ⟨_, rfl⟩
                rw [← hta] at v1 hsa
                have Hsa := Lib.hid hsa
                have HF4 := Lib.hid hf4
                have hD : Hid (decide (fieldsN op = 3) = false) := Lib.hid (decide_eq_false (by omega))
                clear em hrm hta hsa hrb hf4
                cases ta
                · have hT1 := hT.set sa true
                  have fz1 := hT.frozen sa
                  have hE1 : Ext w (wr.setCell ⟨g, sa, none⟩ (.bool true)) := Below.setCell (p := ⟨g, sa, none⟩) HE.out hgB _
                  have hk1 : (wr.setCell ⟨g, sa, none⟩ (.bool true)).cell? ⟨tb, 2, none⟩ = some (.slice (some ⟨b, off, none⟩) L.length c1) := by
                    rw [World.cell?_setCell_other _ _ _ _ (by intro e; have := congrArg Addr.block e; simp at this; omega)]
                    exact hk
                  have HT1 := Lib.hid hT1
                  have HE1 := Lib.hid hE1
                  have HK1 := Lib.hid hk1
                  clear hT hT1 hE1 hk1
                  go_wp2_with fail
                  obtain ⟨Wx, hWx⟩ : ∃ Wx, Wx = (wr.setCell ⟨g, sa, none⟩ (.bool true)).alloc (.cells #[.int .u8 op, .int .i64 sa, .int .i64 sb, .bool neg, .slice a3 m3 c3, .slice a4 m4 c4] 78) := ⟨_, rfl⟩
                  obtain ⟨nb, hnb⟩ : ∃ nb, nb = wr.heap.size := ⟨_, rfl⟩
                  have TX : Truths Wx g (S'.set sa true) := by rw [hWx]; exact HT1.out.ext (Ext.of_alloc _ _)
                  have EX : Ext w Wx := by rw [hWx]; exact HE1.out.alloc _
                  have kX : Wx.cell? ⟨tb, 2, none⟩ = some (.slice (some ⟨b, off, none⟩) L.length c1) := by rw [hWx]; exact (Ext.of_alloc _ _).cell HK1.out
                  have nX : Wx.cell? ⟨nb, 2, none⟩ = some (.int .i64 sb) := by rw [hWx, hnb]; simp [go_sem]
                  rw [← hWx, ← hnb]
                  clear hWx hnb hk HT1 HE1 HK1
                  refine (HTW.out op hop _).mono ?_
                  rintro e w2 ⟨_, rfl, E2, rfl⟩
                  replace TX := TX.ext E2
                  replace EX := EX.trans E2
                  replace kX := E2.cell kX
                  replace nX := E2.cell nX
                  clear E2
                  rw [hD.out]
                  have hc1 := cnt_set Hsa.out
                  have HK : Hid (PassS L o S (j + 1) true (S'.set sa true)) := Lib.hid (pass_more hP.out HRM.out (by omega))
                  clear hc1
                  clear hP
                  go_wp2
                  go_roundw
                  case rel => exact ⟨true, j + 1, _, by omega, rfl, by go_num, TX, EX, kX, HK⟩
                  case measure => simp [intOf]; omega
                · have hT1 := hT
                  have hE1 := HE.out
                  have hk1 := hk
                  have HT1 := Lib.hid hT1
                  have HE1 := Lib.hid hE1
                  have HK1 := Lib.hid hk1
                  clear hT hT1 hE1 hk1
                  go_wp2_with fail
                  obtain ⟨Wx, hWx⟩ : ∃ Wx, Wx = wr.alloc (.cells #[.int .u8 op, .int .i64 sa, .int .i64 sb, .bool neg, .slice a3 m3 c3, .slice a4 m4 c4] 78) := ⟨_, rfl⟩
                  obtain ⟨nb, hnb⟩ : ∃ nb, nb = wr.heap.size := ⟨_, rfl⟩
                  have TX : Truths Wx g S' := by rw [hWx]; exact HT1.out.ext (Ext.of_alloc _ _)
                  have EX : Ext w Wx := by rw [hWx]; exact HE1.out.alloc _
                  have kX : Wx.cell? ⟨tb, 2, none⟩ = some (.slice (some ⟨b, off, none⟩) L.length c1) := by rw [hWx]; exact (Ext.of_alloc _ _).cell HK1.out
                  have nX : Wx.cell? ⟨nb, 2, none⟩ = some (.int .i64 sb) := by rw [hWx, hnb]; simp [go_sem]
                  rw [← hWx, ← hnb]
                  clear hWx hnb hk HT1 HE1 HK1
                  refine (HTW.out op hop _).mono ?_
                  rintro e w2 ⟨_, rfl, E2, rfl⟩
                  replace TX := TX.ext E2
                  replace EX := EX.trans E2
                  replace kX := E2.cell kX
                  replace nX := E2.cell nX
                  clear E2
                  rw [hD.out]
                  have HK := Lib.hid (pass_skip hP.out Hsi.out (fun _ i hu => by
                    rcases hu with ⟨e, _⟩ | ⟨_, e⟩
                    · have := HF4.out; simp only at e; omega
                    · have e' : sa = i := by have : (sa : Int) = i := e; omega
                      rw [← e']; exact Hsa.out))
                  clear hP
                  go_wp2
                  go_roundw
                  case rel => exact ⟨m, j + 1, S', by omega, rfl, by go_num, TX, EX, kX, HK⟩
                  case measure => simp [intOf]; omega
        · have hlt' : ¬ ((j : Nat) : Int) < L.length := by omega
          obtain rfl : j = L.length := by omega
          have hcnt := cntW_of hT
          have HK : Hid (ReachS L o S' ∧ (m = false → ClosedS L S' L.length)) := Lib.hid ⟨hP.out.1, fun e => (hP.out.2.1 e).2⟩
          have HM : Hid ((m = false → S' = S) ∧ (m = true → cntF S' < cntF S)) := Lib.hid ⟨fun e => (hP.out.2.1 e).1, hP.out.2.2⟩
          clear hP
          cases m
          · go_wp2
            go_roundw
            case rel => exact ⟨false, S', rfl, hT, hE, hk, HK⟩
            case measure =>
              have := HM.out.1 rfl
              subst this
              rw [hcnt]
              have := HC0.out
              simp only [] at *
              omega
          · go_wp2
            go_roundw
            case rel => exact ⟨true, S', rfl, hT, hE, hk, HK⟩
            case measure =>
              have := HM.out.2 rfl
              rw [hcnt]
              have := HC0.out
              simp only [] at *
              omega
end Go.Proofs.YtbncdghbnnefdaaGreat
