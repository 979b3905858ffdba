/- Parts of the proof: contracts of the functions that the law reaches, and the arithmetic that they rest on; no condition beyond those that each theorem states. -/
import Derived.Test.YtbncdghbnnefdaaGreatM12

namespace Go.Proofs.YtbncdghbnnefdaaGreat
open Go.RowKit

/-- A step without a number. -/
def opStep (op : Nat) (a b : Int) : Step := ⟨op, a, b, false, [], []⟩
theorem opStep_wf {op : Nat} {a b : Int} (h1 : op < 256) (h2 : op ≠ 1) (ha : (Lit.int .i64 a).wf = true) (hb : (Lit.int .i64 b).wf = true) : Wf (opStep op a b) := ⟨h1, ha, hb, step_text h2⟩
theorem fields_ne1 {op k : Nat} (h : fieldsN op = k) (hk : k ≠ 1) : op ≠ 1 := fun e => hk (by rw [← h, e]; rfl)
/-- step's answer. -/
def stepR (bud pars : Nat) (L : List Step) (s : Step) (k : Nat) : Nat × Nat × List Step := if fieldsN s.op = k ∧ rightP s L.length pars = true then putR bud L s else (0, 2, L)

set_option maxRecDepth 100000 in
set_option maxHeartbeats 4000000 in
theorem step_else (B pb mb bud pars : Nat) (row : Value) (L : List Step) (op : Nat) (a b : Int) (k : Nat) (w : World) (hM : Mk w B pb mb row bud pars pars L) (hop : op < 256) (hk : fieldsN op ≠ k) :
    Calls Tryz.prog 34 #[.pointer (some ⟨pb, 0, none⟩), .agg #[.int .u8 op, .int .i64 a, .int .i64 b, .bool false, .slice none 0 0, .slice none 0 0], .int .i64 k] w (Post w fun v _ => v = .tuple #[.int .i64 0, .int .i64 2]) := by
  have H := Lib.hid (fun W (e : Ext w W) => there_yes (hM.kept e))
  have hne : (((fieldsN op : Nat) : Int) != ((k : Nat) : Int)) = true := by simp; omega
  obtain ⟨f, hf⟩ : ∃ f, f = fieldsN op := ⟨_, rfl⟩
  rw [← hf] at hne
  have Hf := Lib.hid hf
  have c2 := hM.c2
  have c1 := hM.c1
  obtain ⟨ra, rc, rfl⟩ := hM.row_form
  have hpb := World.block_lt_of_cell? w _ c2
  simp at hpb
  clear hM hk hf
  go_enter Tryz.func34, Tryz.ntmps34
  go_wp2_with fail
  refine (H.out _ (by repeat (first | with_reducible exact Ext.refl _ | with_reducible assumption | (with_reducible refine Ext.alloc ?_ _) | (with_reducible refine Ext.drew ?_) | (with_reducible refine Ext.drewN ?_ _) | (with_reducible refine Ext.set ?_ (by first | (simp; done) | (simp; omega)) _) | (with_reducible refine Ext.trans ?_ (by with_reducible assumption))))).mono ?_
  rintro e w' ⟨rfl, rfl⟩
  go_wp2
  obtain ⟨W0, hW0⟩ : ∃ W0, W0 = w.alloc (.cells #[.int .u8 op, .int .i64 a, .int .i64 b, .bool false, .slice none 0 0, .slice none 0 0] 78) := ⟨_, rfl⟩
  obtain ⟨nb, hnb⟩ : ∃ nb, nb = w.heap.size := ⟨_, rfl⟩
  have E0 : Ext w W0 := by rw [hW0]; exact (by repeat (first | with_reducible exact Ext.refl _ | with_reducible assumption | (with_reducible refine Ext.alloc ?_ _) | (with_reducible refine Ext.drew ?_) | (with_reducible refine Ext.drewN ?_ _) | (with_reducible refine Ext.set ?_ (by first | (simp; done) | (simp; omega)) _) | (with_reducible refine Ext.trans ?_ (by with_reducible assumption))))
  have z2 := E0.cell c2
  have z1 := E0.cell c1
  have z3 : W0.cell? ⟨nb, 0, none⟩ = some (.int .u8 op) := by rw [hW0, hnb]; simp [go_sem]
  have z4 : W0.cell? ⟨nb, 1, none⟩ = some (.int .i64 a) := by rw [hW0, hnb]; simp [go_sem]
  have z5 : W0.cell? ⟨nb, 2, none⟩ = some (.int .i64 b) := by rw [hW0, hnb]; simp [go_sem]
  have z6 : W0.cell? ⟨nb, 3, none⟩ = some (.bool false) := by rw [hW0, hnb]; simp [go_sem]
  have z7 : W0.cell? ⟨nb, 4, none⟩ = some (.slice none 0 0) := by rw [hW0, hnb]; simp [go_sem]
  have z8 : W0.cell? ⟨nb, 5, none⟩ = some (.slice none 0 0) := by rw [hW0, hnb]; simp [go_sem]
  rw [← hW0, ← hnb]
  clear hW0 hnb c2 c1
  refine wp_region_T (fun _ => True) (fun w' => w'.cell? ⟨pb, 2, none⟩ = some (.slice ra L.length rc) ∧ w'.cell? ⟨pb, 1, none⟩ = some (.int .i64 pars) ∧ w'.cell? ⟨nb, 0, none⟩ = some (.int .u8 op) ∧ w'.cell? ⟨nb, 1, none⟩ = some (.int .i64 a) ∧ w'.cell? ⟨nb, 2, none⟩ = some (.int .i64 b) ∧ w'.cell? ⟨nb, 3, none⟩ = some (.bool false) ∧ w'.cell? ⟨nb, 4, none⟩ = some (.slice none 0 0) ∧ w'.cell? ⟨nb, 5, none⟩ = some (.slice none 0 0)) 99 20 (by rfl) (by kernel_rfl) ?_
  have hT0 : W0.drew.cell? ⟨pb, 2, none⟩ = some (.slice ra L.length rc) ∧ W0.drew.cell? ⟨pb, 1, none⟩ = some (.int .i64 pars) ∧ W0.drew.cell? ⟨nb, 0, none⟩ = some (.int .u8 op) ∧ W0.drew.cell? ⟨nb, 1, none⟩ = some (.int .i64 a) ∧ W0.drew.cell? ⟨nb, 2, none⟩ = some (.int .i64 b) ∧ W0.drew.cell? ⟨nb, 3, none⟩ = some (.bool false) ∧ W0.drew.cell? ⟨nb, 4, none⟩ = some (.slice none 0 0) ∧ W0.drew.cell? ⟨nb, 5, none⟩ = some (.slice none 0 0) := ⟨z2, z1, z3, z4, z5, z6, z7, z8⟩
  refine wpAnyT_take' (i := 0) (some 13) (v := ?_) rfl rfl (by kernel_rfl) (by kernel_rfl) (by kernel_rfl) (by decide) (fun _ _ _ h => h) (Or.inl ⟨by rfl, ?_⟩) (fun _ => trivial) hT0 ?_
  rotate_left
  · (intro w hSw; (try dsimp only at hSw); go_simp); try with_reducible rfl
  try simp only [Act.put, List.setIfInBounds_toArray, List.set_cons_zero, List.set_cons_succ]
  refine wpAnyT_take' (i := 1) (some 14) (v := ?_) rfl rfl (by kernel_rfl) (by kernel_rfl) (by kernel_rfl) (by decide) (fun _ _ _ h => h) (Or.inl ⟨by rfl, ?_⟩) (fun _ => trivial) hT0 ?_
  rotate_left
  · (intro w hSw; (try dsimp only at hSw); go_simp); try with_reducible rfl
  try simp only [Act.put, List.setIfInBounds_toArray, List.set_cons_zero, List.set_cons_succ]
  refine wpAnyT_take' (i := 3) (some 16) (v := ?_) rfl rfl (by kernel_rfl) (by kernel_rfl) (by kernel_rfl) (by decide) (fun _ _ _ h => h) (Or.inl ⟨by rfl, ?_⟩) (fun _ => trivial) hT0 ?_
  rotate_left
  · (intro w hSw; (try dsimp only at hSw); go_simp); try with_reducible rfl
  try simp only [Act.put, List.setIfInBounds_toArray, List.set_cons_zero, List.set_cons_succ]
  refine wpAnyT_one (i := 2) (by kernel_rfl) rfl (fun K hK => ?_)
  go_simp
  refine (fields_any op hop _).mono ?_
  rintro e w1 ⟨_, rfl, E1, rfl⟩
  rw [← Hf.out]
  try simp only []
  have hT1 : w1.cell? ⟨pb, 2, none⟩ = some (.slice ra L.length rc) ∧ w1.cell? ⟨pb, 1, none⟩ = some (.int .i64 pars) ∧ w1.cell? ⟨nb, 0, none⟩ = some (.int .u8 op) ∧ w1.cell? ⟨nb, 1, none⟩ = some (.int .i64 a) ∧ w1.cell? ⟨nb, 2, none⟩ = some (.int .i64 b) ∧ w1.cell? ⟨nb, 3, none⟩ = some (.bool false) ∧ w1.cell? ⟨nb, 4, none⟩ = some (.slice none 0 0) ∧ w1.cell? ⟨nb, 5, none⟩ = some (.slice none 0 0) := ⟨E1.cell z2, E1.cell z1, E1.cell z3, E1.cell z4, E1.cell z5, E1.cell z6, E1.cell z7, E1.cell z8⟩
  refine hK _ _ (fun _ => trivial) hT1 ?_
  clear hK K
  try simp only [Act.put, List.setIfInBounds_toArray, List.set_cons_zero, List.set_cons_succ]
  refine wpAnyT_take' (i := 4) (some 17) (v := ?_) rfl rfl (by kernel_rfl) (by kernel_rfl) (by kernel_rfl) (by decide) (fun _ _ _ h => h) (Or.inl ⟨by rfl, ?_⟩) (fun _ => trivial) hT1 ?_
  rotate_left
  · (intro w hSw; (try dsimp only at hSw); go_simp); try with_reducible rfl
  try simp only [Act.put, List.setIfInBounds_toArray, List.set_cons_zero, List.set_cons_succ]
  refine wpAnyT_take' (i := 5) (some 18) (v := ?_) rfl rfl (by kernel_rfl) (by kernel_rfl) (by kernel_rfl) (by decide) (fun _ _ _ h => h) (Or.inl ⟨by rfl, ?_⟩) (fun _ => trivial) hT1 ?_
  rotate_left
  · (intro w hSw; (try dsimp only at hSw); go_simp); try with_reducible rfl
  try simp only [Act.put, List.setIfInBounds_toArray, List.set_cons_zero, List.set_cons_succ]
  refine wpAnyT_take' (i := 6) (some 19) (v := undef) rfl rfl (by kernel_rfl) (by kernel_rfl) (by kernel_rfl) (by decide) (fun _ _ _ h => h) (Or.inr ⟨by rfl, rfl⟩) (fun _ => trivial) hT1 ?_
  try simp only [Act.put, List.setIfInBounds_toArray, List.set_cons_zero, List.set_cons_succ]
  refine wpAnyT_take' (i := 7) (some 20) (v := undef) rfl rfl (by kernel_rfl) (by kernel_rfl) (by kernel_rfl) (by decide) (fun _ _ _ h => h) (Or.inr ⟨by rfl, rfl⟩) (fun _ => trivial) hT1 ?_
  try simp only [Act.put, List.setIfInBounds_toArray, List.set_cons_zero, List.set_cons_succ]
  refine wpAnyT_take' (i := 8) (some 21) (v := undef) rfl rfl (by kernel_rfl) (by kernel_rfl) (by kernel_rfl) (by decide) (fun _ _ _ h => h) (Or.inr ⟨by rfl, rfl⟩) (fun _ => trivial) hT1 ?_
  try simp only [Act.put, List.setIfInBounds_toArray, List.set_cons_zero, List.set_cons_succ]
  refine wpAnyT_take' (i := 9) (some 22) (v := undef) rfl rfl (by kernel_rfl) (by kernel_rfl) (by kernel_rfl) (by decide) (fun _ _ _ h => h) (Or.inr ⟨by rfl, rfl⟩) (fun _ => trivial) hT1 ?_
  try simp only [Act.put, List.setIfInBounds_toArray, List.set_cons_zero, List.set_cons_succ]
  refine wpAnyT_take' (i := 10) (some 23) (v := undef) rfl rfl (by kernel_rfl) (by kernel_rfl) (by kernel_rfl) (by decide) (fun _ _ _ h => h) (Or.inr ⟨by rfl, rfl⟩) (fun _ => trivial) hT1 ?_
  try simp only [Act.put, List.setIfInBounds_toArray, List.set_cons_zero, List.set_cons_succ]
  refine wpAnyT_take' (i := 11) (some 24) (v := undef) rfl rfl (by kernel_rfl) (by kernel_rfl) (by kernel_rfl) (by decide) (fun _ _ _ h => h) (Or.inr ⟨by rfl, rfl⟩) (fun _ => trivial) hT1 ?_
  try simp only [Act.put, List.setIfInBounds_toArray, List.set_cons_zero, List.set_cons_succ]
  refine wpAnyT_take' (i := 12) (some 25) (v := undef) rfl rfl (by kernel_rfl) (by kernel_rfl) (by kernel_rfl) (by decide) (fun _ _ _ h => h) (Or.inr ⟨by rfl, rfl⟩) (fun _ => trivial) hT1 ?_
  try simp only [Act.put, List.setIfInBounds_toArray, List.set_cons_zero, List.set_cons_succ]
  refine wpAnyT_take' (i := 13) (some 26) (v := undef) rfl rfl (by kernel_rfl) (by kernel_rfl) (by kernel_rfl) (by decide) (fun _ _ _ h => h) (Or.inr ⟨by rfl, rfl⟩) (fun _ => trivial) hT1 ?_
  try simp only [Act.put, List.setIfInBounds_toArray, List.set_cons_zero, List.set_cons_succ]
  refine wpAnyT_take' (i := 14) (some 27) (v := undef) rfl rfl (by kernel_rfl) (by kernel_rfl) (by kernel_rfl) (by decide) (fun _ _ _ h => h) (Or.inr ⟨by rfl, rfl⟩) (fun _ => trivial) hT1 ?_
  try simp only [Act.put, List.setIfInBounds_toArray, List.set_cons_zero, List.set_cons_succ]
  refine wpAnyT_take' (i := 15) (some 28) (v := undef) rfl rfl (by kernel_rfl) (by kernel_rfl) (by kernel_rfl) (by decide) (fun _ _ _ h => h) (Or.inr ⟨by rfl, rfl⟩) (fun _ => trivial) hT1 ?_
  try simp only [Act.put, List.setIfInBounds_toArray, List.set_cons_zero, List.set_cons_succ]
  refine wpAnyT_take' (i := 16) (some 29) (v := undef) rfl rfl (by kernel_rfl) (by kernel_rfl) (by kernel_rfl) (by decide) (fun _ _ _ h => h) (Or.inr ⟨by rfl, rfl⟩) (fun _ => trivial) hT1 ?_
  try simp only [Act.put, List.setIfInBounds_toArray, List.set_cons_zero, List.set_cons_succ]
  refine wpAnyT_take' (i := 17) (some 30) (v := undef) rfl rfl (by kernel_rfl) (by kernel_rfl) (by kernel_rfl) (by decide) (fun _ _ _ h => h) (Or.inr ⟨by rfl, rfl⟩) (fun _ => trivial) hT1 ?_
  try simp only [Act.put, List.setIfInBounds_toArray, List.set_cons_zero, List.set_cons_succ]
  refine wpAnyT_take' (i := 18) (some 31) (v := ?_) rfl rfl (by kernel_rfl) (by kernel_rfl) (by kernel_rfl) (by decide) (fun _ _ _ h => h) (Or.inl ⟨by rfl, ?_⟩) (fun _ => trivial) hT1 ?_
  rotate_left
  · (intro w hSw; (try dsimp only at hSw); go_simp); try with_reducible rfl
  try simp only [Act.put, List.setIfInBounds_toArray, List.set_cons_zero, List.set_cons_succ]
  refine wpAnyT_take' (i := 19) (some 12) (v := ?_) rfl rfl (by kernel_rfl) (by kernel_rfl) (by kernel_rfl) (by decide) (fun _ _ _ h => h) (Or.inl ⟨by rfl, ?_⟩) (fun _ => trivial) hT1 ?_
  rotate_left
  · (intro w hSw; (try dsimp only at hSw); go_simp); try with_reducible rfl
  try simp only [Act.put, List.setIfInBounds_toArray, List.set_cons_zero, List.set_cons_succ]
  refine wpAnyT_done (by kernel_rfl) ?_ _
  try simp only [Act.put, List.setIfInBounds_toArray, List.set_cons_zero, List.set_cons_succ]
  go_wp2
  go_ret2
  exact Post.mk (by repeat (first | with_reducible exact Ext.refl _ | with_reducible assumption | (with_reducible refine Ext.alloc ?_ _) | (with_reducible refine Ext.drew ?_) | (with_reducible refine Ext.drewN ?_ _) | (with_reducible refine Ext.set ?_ (by first | (simp; done) | (simp; omega)) _) | (with_reducible refine Ext.trans ?_ (by with_reducible assumption)))) rfl

set_option maxRecDepth 100000 in
set_option maxHeartbeats 8000000 in
theorem step_yes (B pb mb bud pars : Nat) (row : Value) (L : List Step) (op : Nat) (a b : Int) (k : Nat) (w : World) (hM : Mk w B pb mb row bud pars pars L) (hop : op < 256) (ha : (Lit.int .i64 a).wf = true) (hb : (Lit.int .i64 b).wf = true) (hk : fieldsN op = k) (hk1 : k ≠ 1) :
    Calls Tryz.prog 34 #[.pointer (some ⟨pb, 0, none⟩), .agg #[.int .u8 op, .int .i64 a, .int .i64 b, .bool false, .slice none 0 0, .slice none 0 0], .int .i64 k] w
      (MkRes B pb mb bud row w (stepR bud pars L (opStep op a b) k).1 (stepR bud pars L (opStep op a b) k).2.1 pars (stepR bud pars L (opStep op a b) k).2.2) := by
  have H := Lib.hid (fun W (e : Ext w W) => there_yes (hM.kept e))
  have hwf := opStep_wf hop (fields_ne1 hk hk1) ha hb
  have HR := Lib.hid (fun W => right_any (.agg #[.int .u8 op, .int .i64 a, .int .i64 b, .bool false, .slice none 0 0, .slice none 0 0]) (opStep op a b) L.length pars W ⟨none, 0, 0, none, 0, 0, rfl, nilN _, nilN _, hop, by omega, by omega⟩)
  have HP := Lib.hid (fun W (hM : Mk W B pb mb row bud pars pars L) hr => put_any B pb mb bud pars pars row L (opStep op a b) (.agg #[.int .u8 op, .int .i64 a, .int .i64 b, .bool false, .slice none 0 0, .slice none 0 0]) W hM ⟨none, 0, 0, none, 0, 0, rfl, nilN _, nilN _, hop, by omega, by omega⟩ hwf hr)
  have c2 := hM.c2
  have c1 := hM.c1
  obtain ⟨ra, rc, rfl⟩ := hM.row_form
  have hpb := World.block_lt_of_cell? w _ c2
  simp at hpb
  obtain ⟨r, hr⟩ : ∃ r, r = rightP (opStep op a b) L.length pars := ⟨_, rfl⟩
  rw [← hr] at HR HP
  have hne : (((fieldsN op : Nat) : Int) != ((k : Nat) : Int)) = false := by rw [hk]; simp
  obtain ⟨f, hf⟩ : ∃ f, f = fieldsN op := ⟨_, rfl⟩
  rw [← hf] at hne
  have Hf := Lib.hid hf
  have Hr := Lib.hid hr
  have Hk := Lib.hid hk
  have HM := Lib.hid hM
  clear hk hf hr hwf hM
  have hs1 : stepR bud pars L (opStep op a b) k = if r = true then putR bud L (opStep op a b) else (0, 2, L) := by
    unfold stepR
    rw [Hr.out]
    by_cases h : rightP (opStep op a b) L.length pars = true
    · rw [if_pos ⟨Hk.out, h⟩, if_pos h]
    · rw [if_neg (fun e => h e.2), if_neg h]
  rw [hs1]
  clear hs1
  obtain ⟨p, hp⟩ : ∃ p, p = putR bud L (opStep op a b) := ⟨_, rfl⟩
  rw [← hp] at HP ⊢
  obtain ⟨i, er, L'⟩ := p
  simp only at HP
  clear hp
  cases r
  · simp only [Bool.false_eq_true, if_false]
    clear HP
    go_enter Tryz.func34, Tryz.ntmps34
    go_wp2_with fail
    refine (H.out _ (by repeat (first | with_reducible exact Ext.refl _ | with_reducible assumption | (with_reducible refine Ext.alloc ?_ _) | (with_reducible refine Ext.drew ?_) | (with_reducible refine Ext.drewN ?_ _) | (with_reducible refine Ext.set ?_ (by first | (simp; done) | (simp; omega)) _) | (with_reducible refine Ext.trans ?_ (by with_reducible assumption))))).mono ?_
    rintro e w' ⟨rfl, rfl⟩
    go_wp2
    obtain ⟨W0, hW0⟩ : ∃ W0, W0 = w.alloc (.cells #[.int .u8 op, .int .i64 a, .int .i64 b, .bool false, .slice none 0 0, .slice none 0 0] 78) := ⟨_, rfl⟩
    obtain ⟨nb, hnb⟩ : ∃ nb, nb = w.heap.size := ⟨_, rfl⟩
    have E0 : Ext w W0 := by rw [hW0]; exact (by repeat (first | with_reducible exact Ext.refl _ | with_reducible assumption | (with_reducible refine Ext.alloc ?_ _) | (with_reducible refine Ext.drew ?_) | (with_reducible refine Ext.drewN ?_ _) | (with_reducible refine Ext.set ?_ (by first | (simp; done) | (simp; omega)) _) | (with_reducible refine Ext.trans ?_ (by with_reducible assumption))))
    have z2 := E0.cell c2
    have z1 := E0.cell c1
    have z3 : W0.cell? ⟨nb, 0, none⟩ = some (.int .u8 op) := by rw [hW0, hnb]; simp [go_sem]
    have z4 : W0.cell? ⟨nb, 1, none⟩ = some (.int .i64 a) := by rw [hW0, hnb]; simp [go_sem]
    have z5 : W0.cell? ⟨nb, 2, none⟩ = some (.int .i64 b) := by rw [hW0, hnb]; simp [go_sem]
    have z6 : W0.cell? ⟨nb, 3, none⟩ = some (.bool false) := by rw [hW0, hnb]; simp [go_sem]
    have z7 : W0.cell? ⟨nb, 4, none⟩ = some (.slice none 0 0) := by rw [hW0, hnb]; simp [go_sem]
    have z8 : W0.cell? ⟨nb, 5, none⟩ = some (.slice none 0 0) := by rw [hW0, hnb]; simp [go_sem]
    rw [← hW0, ← hnb]
    clear hW0 hnb c2 c1
    refine wp_region_T (fun _ => True) (fun w' => w'.cell? ⟨pb, 2, none⟩ = some (.slice ra L.length rc) ∧ w'.cell? ⟨pb, 1, none⟩ = some (.int .i64 pars) ∧ w'.cell? ⟨nb, 0, none⟩ = some (.int .u8 op) ∧ w'.cell? ⟨nb, 1, none⟩ = some (.int .i64 a) ∧ w'.cell? ⟨nb, 2, none⟩ = some (.int .i64 b) ∧ w'.cell? ⟨nb, 3, none⟩ = some (.bool false) ∧ w'.cell? ⟨nb, 4, none⟩ = some (.slice none 0 0) ∧ w'.cell? ⟨nb, 5, none⟩ = some (.slice none 0 0)) 99 20 (by rfl) (by kernel_rfl) ?_
    have hT0 : W0.drew.cell? ⟨pb, 2, none⟩ = some (.slice ra L.length rc) ∧ W0.drew.cell? ⟨pb, 1, none⟩ = some (.int .i64 pars) ∧ W0.drew.cell? ⟨nb, 0, none⟩ = some (.int .u8 op) ∧ W0.drew.cell? ⟨nb, 1, none⟩ = some (.int .i64 a) ∧ W0.drew.cell? ⟨nb, 2, none⟩ = some (.int .i64 b) ∧ W0.drew.cell? ⟨nb, 3, none⟩ = some (.bool false) ∧ W0.drew.cell? ⟨nb, 4, none⟩ = some (.slice none 0 0) ∧ W0.drew.cell? ⟨nb, 5, none⟩ = some (.slice none 0 0) := ⟨z2, z1, z3, z4, z5, z6, z7, z8⟩
    refine wpAnyT_take' (i := 0) (some 13) (v := ?_) rfl rfl (by kernel_rfl) (by kernel_rfl) (by kernel_rfl) (by decide) (fun _ _ _ h => h) (Or.inl ⟨by rfl, ?_⟩) (fun _ => trivial) hT0 ?_
    rotate_left
    · (intro w hSw; (try dsimp only at hSw); go_simp); try with_reducible rfl
    try simp only [Act.put, List.setIfInBounds_toArray, List.set_cons_zero, List.set_cons_succ]
    refine wpAnyT_take' (i := 1) (some 14) (v := ?_) rfl rfl (by kernel_rfl) (by kernel_rfl) (by kernel_rfl) (by decide) (fun _ _ _ h => h) (Or.inl ⟨by rfl, ?_⟩) (fun _ => trivial) hT0 ?_
    rotate_left
    · (intro w hSw; (try dsimp only at hSw); go_simp); try with_reducible rfl
    try simp only [Act.put, List.setIfInBounds_toArray, List.set_cons_zero, List.set_cons_succ]
    refine wpAnyT_take' (i := 3) (some 16) (v := ?_) rfl rfl (by kernel_rfl) (by kernel_rfl) (by kernel_rfl) (by decide) (fun _ _ _ h => h) (Or.inl ⟨by rfl, ?_⟩) (fun _ => trivial) hT0 ?_
    rotate_left
    · (intro w hSw; (try dsimp only at hSw); go_simp); try with_reducible rfl
    try simp only [Act.put, List.setIfInBounds_toArray, List.set_cons_zero, List.set_cons_succ]
    refine wpAnyT_one (i := 2) (by kernel_rfl) rfl (fun K hK => ?_)
    go_simp
    refine (fields_any op hop _).mono ?_
    rintro e w1 ⟨_, rfl, E1, rfl⟩
    rw [← Hf.out]
    try simp only []
    have hT1 : w1.cell? ⟨pb, 2, none⟩ = some (.slice ra L.length rc) ∧ w1.cell? ⟨pb, 1, none⟩ = some (.int .i64 pars) ∧ w1.cell? ⟨nb, 0, none⟩ = some (.int .u8 op) ∧ w1.cell? ⟨nb, 1, none⟩ = some (.int .i64 a) ∧ w1.cell? ⟨nb, 2, none⟩ = some (.int .i64 b) ∧ w1.cell? ⟨nb, 3, none⟩ = some (.bool false) ∧ w1.cell? ⟨nb, 4, none⟩ = some (.slice none 0 0) ∧ w1.cell? ⟨nb, 5, none⟩ = some (.slice none 0 0) := ⟨E1.cell z2, E1.cell z1, E1.cell z3, E1.cell z4, E1.cell z5, E1.cell z6, E1.cell z7, E1.cell z8⟩
    refine hK _ _ (fun _ => trivial) hT1 ?_
    clear hK K
    try simp only [Act.put, List.setIfInBounds_toArray, List.set_cons_zero, List.set_cons_succ]
    refine wpAnyT_take' (i := 4) (some 17) (v := ?_) rfl rfl (by kernel_rfl) (by kernel_rfl) (by kernel_rfl) (by decide) (fun _ _ _ h => h) (Or.inl ⟨by rfl, ?_⟩) (fun _ => trivial) hT1 ?_
    rotate_left
    · (intro w hSw; (try dsimp only at hSw); go_simp); try with_reducible rfl
    try simp only [Act.put, List.setIfInBounds_toArray, List.set_cons_zero, List.set_cons_succ]
    refine wpAnyT_take' (i := 5) (some 18) (v := ?_) rfl rfl (by kernel_rfl) (by kernel_rfl) (by kernel_rfl) (by decide) (fun _ _ _ h => h) (Or.inl ⟨by rfl, ?_⟩) (fun _ => trivial) hT1 ?_
    rotate_left
    · (intro w hSw; (try dsimp only at hSw); go_simp); try with_reducible rfl
    try simp only [Act.put, List.setIfInBounds_toArray, List.set_cons_zero, List.set_cons_succ]
    refine wpAnyT_take' (i := 6) (some 19) (v := ?_) rfl rfl (by kernel_rfl) (by kernel_rfl) (by kernel_rfl) (by decide) (fun _ _ _ h => h) (Or.inl ⟨by rfl, ?_⟩) (fun _ => trivial) hT1 ?_
    rotate_left
    · (intro w hSw; (try dsimp only at hSw); go_simp); try with_reducible rfl
    try simp only [Act.put, List.setIfInBounds_toArray, List.set_cons_zero, List.set_cons_succ]
    refine wpAnyT_take' (i := 7) (some 20) (v := ?_) rfl rfl (by kernel_rfl) (by kernel_rfl) (by kernel_rfl) (by decide) (fun _ _ _ h => h) (Or.inl ⟨by rfl, ?_⟩) (fun _ => trivial) hT1 ?_
    rotate_left
    · (intro w hSw; (try dsimp only at hSw); go_simp); try with_reducible rfl
    try simp only [Act.put, List.setIfInBounds_toArray, List.set_cons_zero, List.set_cons_succ]
    refine wpAnyT_take' (i := 8) (some 21) (v := ?_) rfl rfl (by kernel_rfl) (by kernel_rfl) (by kernel_rfl) (by decide) (fun _ _ _ h => h) (Or.inl ⟨by rfl, ?_⟩) (fun _ => trivial) hT1 ?_
    rotate_left
    · (intro w hSw; (try dsimp only at hSw); go_simp); try with_reducible rfl
    try simp only [Act.put, List.setIfInBounds_toArray, List.set_cons_zero, List.set_cons_succ]
    refine wpAnyT_take' (i := 9) (some 22) (v := ?_) rfl rfl (by kernel_rfl) (by kernel_rfl) (by kernel_rfl) (by decide) (fun _ _ _ h => h) (Or.inl ⟨by rfl, ?_⟩) (fun _ => trivial) hT1 ?_
    rotate_left
    · (intro w hSw; (try dsimp only at hSw); go_simp); try with_reducible rfl
    try simp only [Act.put, List.setIfInBounds_toArray, List.set_cons_zero, List.set_cons_succ]
    refine wpAnyT_take' (i := 10) (some 23) (v := ?_) rfl rfl (by kernel_rfl) (by kernel_rfl) (by kernel_rfl) (by decide) (fun _ _ _ h => h) (Or.inl ⟨by rfl, ?_⟩) (fun _ => trivial) hT1 ?_
    rotate_left
    · (intro w hSw; (try dsimp only at hSw); go_simp); try with_reducible rfl
    try simp only [Act.put, List.setIfInBounds_toArray, List.set_cons_zero, List.set_cons_succ]
    refine wpAnyT_take' (i := 11) (some 24) (v := ?_) rfl rfl (by kernel_rfl) (by kernel_rfl) (by kernel_rfl) (by decide) (fun _ _ _ h => h) (Or.inl ⟨by rfl, ?_⟩) (fun _ => trivial) hT1 ?_
    rotate_left
    · (intro w hSw; (try dsimp only at hSw); go_simp); try with_reducible rfl
    try simp only [Act.put, List.setIfInBounds_toArray, List.set_cons_zero, List.set_cons_succ]
    refine wpAnyT_take' (i := 12) (some 25) (v := ?_) rfl rfl (by kernel_rfl) (by kernel_rfl) (by kernel_rfl) (by decide) (fun _ _ _ h => h) (Or.inl ⟨by rfl, ?_⟩) (fun _ => trivial) hT1 ?_
    rotate_left
    · (intro w hSw; (try dsimp only at hSw); go_simp); try with_reducible rfl
    try simp only [Act.put, List.setIfInBounds_toArray, List.set_cons_zero, List.set_cons_succ]
    refine wpAnyT_take' (i := 13) (some 26) (v := ?_) rfl rfl (by kernel_rfl) (by kernel_rfl) (by kernel_rfl) (by decide) (fun _ _ _ h => h) (Or.inl ⟨by rfl, ?_⟩) (fun _ => trivial) hT1 ?_
    rotate_left
    · (intro w hSw; (try dsimp only at hSw); go_simp); try with_reducible rfl
    try simp only [Act.put, List.setIfInBounds_toArray, List.set_cons_zero, List.set_cons_succ]
    refine wpAnyT_take' (i := 14) (some 27) (v := ?_) rfl rfl (by kernel_rfl) (by kernel_rfl) (by kernel_rfl) (by decide) (fun _ _ _ h => h) (Or.inl ⟨by rfl, ?_⟩) (fun _ => trivial) hT1 ?_
    rotate_left
    · (intro w hSw; (try dsimp only at hSw); go_simp); try with_reducible rfl
    try simp only [Act.put, List.setIfInBounds_toArray, List.set_cons_zero, List.set_cons_succ]
    refine wpAnyT_take' (i := 15) (some 28) (v := ?_) rfl rfl (by kernel_rfl) (by kernel_rfl) (by kernel_rfl) (by decide) (fun _ _ _ h => h) (Or.inl ⟨by rfl, ?_⟩) (fun _ => trivial) hT1 ?_
    rotate_left
    · (intro w hSw; (try dsimp only at hSw); go_simp); try with_reducible rfl
    try simp only [Act.put, List.setIfInBounds_toArray, List.set_cons_zero, List.set_cons_succ]
    refine wpAnyT_one (i := 16) (by kernel_rfl) rfl (fun K hK => ?_)
    go_simp
    refine (HR.out _).mono ?_
    rintro e w2 ⟨_, rfl, E2, rfl⟩
    try simp only []
    have hT2 : w2.cell? ⟨pb, 2, none⟩ = some (.slice ra L.length rc) ∧ w2.cell? ⟨pb, 1, none⟩ = some (.int .i64 pars) ∧ w2.cell? ⟨nb, 0, none⟩ = some (.int .u8 op) ∧ w2.cell? ⟨nb, 1, none⟩ = some (.int .i64 a) ∧ w2.cell? ⟨nb, 2, none⟩ = some (.int .i64 b) ∧ w2.cell? ⟨nb, 3, none⟩ = some (.bool false) ∧ w2.cell? ⟨nb, 4, none⟩ = some (.slice none 0 0) ∧ w2.cell? ⟨nb, 5, none⟩ = some (.slice none 0 0) := ⟨E2.cell hT1.1, E2.cell hT1.2.1, E2.cell hT1.2.2.1, E2.cell hT1.2.2.2.1, E2.cell hT1.2.2.2.2.1, E2.cell hT1.2.2.2.2.2.1, E2.cell hT1.2.2.2.2.2.2.1, E2.cell hT1.2.2.2.2.2.2.2⟩
    refine hK _ _ (fun _ => trivial) hT2 ?_
    clear hK K
    try simp only [Act.put, List.setIfInBounds_toArray, List.set_cons_zero, List.set_cons_succ]
    refine wpAnyT_take' (i := 17) (some 30) (v := ?_) rfl rfl (by kernel_rfl) (by kernel_rfl) (by kernel_rfl) (by decide) (fun _ _ _ h => h) (Or.inl ⟨by rfl, ?_⟩) (fun _ => trivial) hT2 ?_
    rotate_left
    · (intro w hSw; (try dsimp only at hSw); go_simp); try with_reducible rfl
    try simp only [Act.put, List.setIfInBounds_toArray, List.set_cons_zero, List.set_cons_succ]
    refine wpAnyT_take' (i := 18) (some 31) (v := ?_) rfl rfl (by kernel_rfl) (by kernel_rfl) (by kernel_rfl) (by decide) (fun _ _ _ h => h) (Or.inl ⟨by rfl, ?_⟩) (fun _ => trivial) hT2 ?_
    rotate_left
    · (intro w hSw; (try dsimp only at hSw); go_simp); try with_reducible rfl
    try simp only [Act.put, List.setIfInBounds_toArray, List.set_cons_zero, List.set_cons_succ]
    refine wpAnyT_take' (i := 19) (some 12) (v := ?_) rfl rfl (by kernel_rfl) (by kernel_rfl) (by kernel_rfl) (by decide) (fun _ _ _ h => h) (Or.inl ⟨by rfl, ?_⟩) (fun _ => trivial) hT2 ?_
    rotate_left
    · (intro w hSw; (try dsimp only at hSw); go_simp); try with_reducible rfl
    try simp only [Act.put, List.setIfInBounds_toArray, List.set_cons_zero, List.set_cons_succ]
    refine wpAnyT_done (by kernel_rfl) ?_ _
    try simp only [Act.put, List.setIfInBounds_toArray, List.set_cons_zero, List.set_cons_succ]
    go_wp2
    go_ret2
    exact ⟨_, rfl, HM.out.kept (by repeat (first | with_reducible exact Ext.refl _ | with_reducible assumption | (with_reducible refine Ext.alloc ?_ _) | (with_reducible refine Ext.drew ?_) | (with_reducible refine Ext.drewN ?_ _) | (with_reducible refine Ext.set ?_ (by first | (simp; done) | (simp; omega)) _) | (with_reducible refine Ext.trans ?_ (by with_reducible assumption)))), Mv.of_ext (by repeat (first | with_reducible exact Ext.refl _ | with_reducible assumption | (with_reducible refine Ext.alloc ?_ _) | (with_reducible refine Ext.drew ?_) | (with_reducible refine Ext.drewN ?_ _) | (with_reducible refine Ext.set ?_ (by first | (simp; done) | (simp; omega)) _) | (with_reducible refine Ext.trans ?_ (by with_reducible assumption))))⟩
  · simp only [if_true]
    go_enter Tryz.func34, Tryz.ntmps34
    go_wp2_with fail
    refine (H.out _ (by repeat (first | with_reducible exact Ext.refl _ | with_reducible assumption | (with_reducible refine Ext.alloc ?_ _) | (with_reducible refine Ext.drew ?_) | (with_reducible refine Ext.drewN ?_ _) | (with_reducible refine Ext.set ?_ (by first | (simp; done) | (simp; omega)) _) | (with_reducible refine Ext.trans ?_ (by with_reducible assumption))))).mono ?_
    rintro e w' ⟨rfl, rfl⟩
    go_wp2
    obtain ⟨W0, hW0⟩ : ∃ W0, W0 = w.alloc (.cells #[.int .u8 op, .int .i64 a, .int .i64 b, .bool false, .slice none 0 0, .slice none 0 0] 78) := ⟨_, rfl⟩
    obtain ⟨nb, hnb⟩ : ∃ nb, nb = w.heap.size := ⟨_, rfl⟩
    have E0 : Ext w W0 := by rw [hW0]; exact (by repeat (first | with_reducible exact Ext.refl _ | with_reducible assumption | (with_reducible refine Ext.alloc ?_ _) | (with_reducible refine Ext.drew ?_) | (with_reducible refine Ext.drewN ?_ _) | (with_reducible refine Ext.set ?_ (by first | (simp; done) | (simp; omega)) _) | (with_reducible refine Ext.trans ?_ (by with_reducible assumption))))
    have z2 := E0.cell c2
    have z1 := E0.cell c1
    have z3 : W0.cell? ⟨nb, 0, none⟩ = some (.int .u8 op) := by rw [hW0, hnb]; simp [go_sem]
    have z4 : W0.cell? ⟨nb, 1, none⟩ = some (.int .i64 a) := by rw [hW0, hnb]; simp [go_sem]
    have z5 : W0.cell? ⟨nb, 2, none⟩ = some (.int .i64 b) := by rw [hW0, hnb]; simp [go_sem]
    have z6 : W0.cell? ⟨nb, 3, none⟩ = some (.bool false) := by rw [hW0, hnb]; simp [go_sem]
    have z7 : W0.cell? ⟨nb, 4, none⟩ = some (.slice none 0 0) := by rw [hW0, hnb]; simp [go_sem]
    have z8 : W0.cell? ⟨nb, 5, none⟩ = some (.slice none 0 0) := by rw [hW0, hnb]; simp [go_sem]
    rw [← hW0, ← hnb]
    clear hW0 hnb c2 c1
    refine wp_region_T (fun _ => True) (fun w' => w'.cell? ⟨pb, 2, none⟩ = some (.slice ra L.length rc) ∧ w'.cell? ⟨pb, 1, none⟩ = some (.int .i64 pars) ∧ w'.cell? ⟨nb, 0, none⟩ = some (.int .u8 op) ∧ w'.cell? ⟨nb, 1, none⟩ = some (.int .i64 a) ∧ w'.cell? ⟨nb, 2, none⟩ = some (.int .i64 b) ∧ w'.cell? ⟨nb, 3, none⟩ = some (.bool false) ∧ w'.cell? ⟨nb, 4, none⟩ = some (.slice none 0 0) ∧ w'.cell? ⟨nb, 5, none⟩ = some (.slice none 0 0)) 99 20 (by rfl) (by kernel_rfl) ?_
    have hT0 : W0.drew.cell? ⟨pb, 2, none⟩ = some (.slice ra L.length rc) ∧ W0.drew.cell? ⟨pb, 1, none⟩ = some (.int .i64 pars) ∧ W0.drew.cell? ⟨nb, 0, none⟩ = some (.int .u8 op) ∧ W0.drew.cell? ⟨nb, 1, none⟩ = some (.int .i64 a) ∧ W0.drew.cell? ⟨nb, 2, none⟩ = some (.int .i64 b) ∧ W0.drew.cell? ⟨nb, 3, none⟩ = some (.bool false) ∧ W0.drew.cell? ⟨nb, 4, none⟩ = some (.slice none 0 0) ∧ W0.drew.cell? ⟨nb, 5, none⟩ = some (.slice none 0 0) := ⟨z2, z1, z3, z4, z5, z6, z7, z8⟩
    refine wpAnyT_take' (i := 0) (some 13) (v := ?_) rfl rfl (by kernel_rfl) (by kernel_rfl) (by kernel_rfl) (by decide) (fun _ _ _ h => h) (Or.inl ⟨by rfl, ?_⟩) (fun _ => trivial) hT0 ?_
    rotate_left
    · (intro w hSw; (try dsimp only at hSw); go_simp); try with_reducible rfl
    try simp only [Act.put, List.setIfInBounds_toArray, List.set_cons_zero, List.set_cons_succ]
    refine wpAnyT_take' (i := 1) (some 14) (v := ?_) rfl rfl (by kernel_rfl) (by kernel_rfl) (by kernel_rfl) (by decide) (fun _ _ _ h => h) (Or.inl ⟨by rfl, ?_⟩) (fun _ => trivial) hT0 ?_
    rotate_left
    · (intro w hSw; (try dsimp only at hSw); go_simp); try with_reducible rfl
    try simp only [Act.put, List.setIfInBounds_toArray, List.set_cons_zero, List.set_cons_succ]
    refine wpAnyT_take' (i := 3) (some 16) (v := ?_) rfl rfl (by kernel_rfl) (by kernel_rfl) (by kernel_rfl) (by decide) (fun _ _ _ h => h) (Or.inl ⟨by rfl, ?_⟩) (fun _ => trivial) hT0 ?_
    rotate_left
    · (intro w hSw; (try dsimp only at hSw); go_simp); try with_reducible rfl
    try simp only [Act.put, List.setIfInBounds_toArray, List.set_cons_zero, List.set_cons_succ]
    refine wpAnyT_one (i := 2) (by kernel_rfl) rfl (fun K hK => ?_)
    go_simp
    refine (fields_any op hop _).mono ?_
    rintro e w1 ⟨_, rfl, E1, rfl⟩
    rw [← Hf.out]
    try simp only []
    have hT1 : w1.cell? ⟨pb, 2, none⟩ = some (.slice ra L.length rc) ∧ w1.cell? ⟨pb, 1, none⟩ = some (.int .i64 pars) ∧ w1.cell? ⟨nb, 0, none⟩ = some (.int .u8 op) ∧ w1.cell? ⟨nb, 1, none⟩ = some (.int .i64 a) ∧ w1.cell? ⟨nb, 2, none⟩ = some (.int .i64 b) ∧ w1.cell? ⟨nb, 3, none⟩ = some (.bool false) ∧ w1.cell? ⟨nb, 4, none⟩ = some (.slice none 0 0) ∧ w1.cell? ⟨nb, 5, none⟩ = some (.slice none 0 0) := ⟨E1.cell z2, E1.cell z1, E1.cell z3, E1.cell z4, E1.cell z5, E1.cell z6, E1.cell z7, E1.cell z8⟩
    refine hK _ _ (fun _ => trivial) hT1 ?_
    clear hK K
    try simp only [Act.put, List.setIfInBounds_toArray, List.set_cons_zero, List.set_cons_succ]
    refine wpAnyT_take' (i := 4) (some 17) (v := ?_) rfl rfl (by kernel_rfl) (by kernel_rfl) (by kernel_rfl) (by decide) (fun _ _ _ h => h) (Or.inl ⟨by rfl, ?_⟩) (fun _ => trivial) hT1 ?_
    rotate_left
    · (intro w hSw; (try dsimp only at hSw); go_simp); try with_reducible rfl
    try simp only [Act.put, List.setIfInBounds_toArray, List.set_cons_zero, List.set_cons_succ]
    refine wpAnyT_take' (i := 5) (some 18) (v := ?_) rfl rfl (by kernel_rfl) (by kernel_rfl) (by kernel_rfl) (by decide) (fun _ _ _ h => h) (Or.inl ⟨by rfl, ?_⟩) (fun _ => trivial) hT1 ?_
    rotate_left
    · (intro w hSw; (try dsimp only at hSw); go_simp); try with_reducible rfl
    try simp only [Act.put, List.setIfInBounds_toArray, List.set_cons_zero, List.set_cons_succ]
    refine wpAnyT_take' (i := 6) (some 19) (v := ?_) rfl rfl (by kernel_rfl) (by kernel_rfl) (by kernel_rfl) (by decide) (fun _ _ _ h => h) (Or.inl ⟨by rfl, ?_⟩) (fun _ => trivial) hT1 ?_
    rotate_left
    · (intro w hSw; (try dsimp only at hSw); go_simp); try with_reducible rfl
    try simp only [Act.put, List.setIfInBounds_toArray, List.set_cons_zero, List.set_cons_succ]
    refine wpAnyT_take' (i := 7) (some 20) (v := ?_) rfl rfl (by kernel_rfl) (by kernel_rfl) (by kernel_rfl) (by decide) (fun _ _ _ h => h) (Or.inl ⟨by rfl, ?_⟩) (fun _ => trivial) hT1 ?_
    rotate_left
    · (intro w hSw; (try dsimp only at hSw); go_simp); try with_reducible rfl
    try simp only [Act.put, List.setIfInBounds_toArray, List.set_cons_zero, List.set_cons_succ]
    refine wpAnyT_take' (i := 8) (some 21) (v := ?_) rfl rfl (by kernel_rfl) (by kernel_rfl) (by kernel_rfl) (by decide) (fun _ _ _ h => h) (Or.inl ⟨by rfl, ?_⟩) (fun _ => trivial) hT1 ?_
    rotate_left
    · (intro w hSw; (try dsimp only at hSw); go_simp); try with_reducible rfl
    try simp only [Act.put, List.setIfInBounds_toArray, List.set_cons_zero, List.set_cons_succ]
    refine wpAnyT_take' (i := 9) (some 22) (v := ?_) rfl rfl (by kernel_rfl) (by kernel_rfl) (by kernel_rfl) (by decide) (fun _ _ _ h => h) (Or.inl ⟨by rfl, ?_⟩) (fun _ => trivial) hT1 ?_
    rotate_left
    · (intro w hSw; (try dsimp only at hSw); go_simp); try with_reducible rfl
    try simp only [Act.put, List.setIfInBounds_toArray, List.set_cons_zero, List.set_cons_succ]
    refine wpAnyT_take' (i := 10) (some 23) (v := ?_) rfl rfl (by kernel_rfl) (by kernel_rfl) (by kernel_rfl) (by decide) (fun _ _ _ h => h) (Or.inl ⟨by rfl, ?_⟩) (fun _ => trivial) hT1 ?_
    rotate_left
    · (intro w hSw; (try dsimp only at hSw); go_simp); try with_reducible rfl
    try simp only [Act.put, List.setIfInBounds_toArray, List.set_cons_zero, List.set_cons_succ]
    refine wpAnyT_take' (i := 11) (some 24) (v := ?_) rfl rfl (by kernel_rfl) (by kernel_rfl) (by kernel_rfl) (by decide) (fun _ _ _ h => h) (Or.inl ⟨by rfl, ?_⟩) (fun _ => trivial) hT1 ?_
    rotate_left
    · (intro w hSw; (try dsimp only at hSw); go_simp); try with_reducible rfl
    try simp only [Act.put, List.setIfInBounds_toArray, List.set_cons_zero, List.set_cons_succ]
    refine wpAnyT_take' (i := 12) (some 25) (v := ?_) rfl rfl (by kernel_rfl) (by kernel_rfl) (by kernel_rfl) (by decide) (fun _ _ _ h => h) (Or.inl ⟨by rfl, ?_⟩) (fun _ => trivial) hT1 ?_
    rotate_left
    · (intro w hSw; (try dsimp only at hSw); go_simp); try with_reducible rfl
    try simp only [Act.put, List.setIfInBounds_toArray, List.set_cons_zero, List.set_cons_succ]
    refine wpAnyT_take' (i := 13) (some 26) (v := ?_) rfl rfl (by kernel_rfl) (by kernel_rfl) (by kernel_rfl) (by decide) (fun _ _ _ h => h) (Or.inl ⟨by rfl, ?_⟩) (fun _ => trivial) hT1 ?_
    rotate_left
    · (intro w hSw; (try dsimp only at hSw); go_simp); try with_reducible rfl
    try simp only [Act.put, List.setIfInBounds_toArray, List.set_cons_zero, List.set_cons_succ]
    refine wpAnyT_take' (i := 14) (some 27) (v := ?_) rfl rfl (by kernel_rfl) (by kernel_rfl) (by kernel_rfl) (by decide) (fun _ _ _ h => h) (Or.inl ⟨by rfl, ?_⟩) (fun _ => trivial) hT1 ?_
    rotate_left
    · (intro w hSw; (try dsimp only at hSw); go_simp); try with_reducible rfl
    try simp only [Act.put, List.setIfInBounds_toArray, List.set_cons_zero, List.set_cons_succ]
    refine wpAnyT_take' (i := 15) (some 28) (v := ?_) rfl rfl (by kernel_rfl) (by kernel_rfl) (by kernel_rfl) (by decide) (fun _ _ _ h => h) (Or.inl ⟨by rfl, ?_⟩) (fun _ => trivial) hT1 ?_
    rotate_left
    · (intro w hSw; (try dsimp only at hSw); go_simp); try with_reducible rfl
    try simp only [Act.put, List.setIfInBounds_toArray, List.set_cons_zero, List.set_cons_succ]
    refine wpAnyT_one (i := 16) (by kernel_rfl) rfl (fun K hK => ?_)
    go_simp
    refine (HR.out _).mono ?_
    rintro e w2 ⟨_, rfl, E2, rfl⟩
    try simp only []
    have hT2 : w2.cell? ⟨pb, 2, none⟩ = some (.slice ra L.length rc) ∧ w2.cell? ⟨pb, 1, none⟩ = some (.int .i64 pars) ∧ w2.cell? ⟨nb, 0, none⟩ = some (.int .u8 op) ∧ w2.cell? ⟨nb, 1, none⟩ = some (.int .i64 a) ∧ w2.cell? ⟨nb, 2, none⟩ = some (.int .i64 b) ∧ w2.cell? ⟨nb, 3, none⟩ = some (.bool false) ∧ w2.cell? ⟨nb, 4, none⟩ = some (.slice none 0 0) ∧ w2.cell? ⟨nb, 5, none⟩ = some (.slice none 0 0) := ⟨E2.cell hT1.1, E2.cell hT1.2.1, E2.cell hT1.2.2.1, E2.cell hT1.2.2.2.1, E2.cell hT1.2.2.2.2.1, E2.cell hT1.2.2.2.2.2.1, E2.cell hT1.2.2.2.2.2.2.1, E2.cell hT1.2.2.2.2.2.2.2⟩
    refine hK _ _ (fun _ => trivial) hT2 ?_
    clear hK K
    try simp only [Act.put, List.setIfInBounds_toArray, List.set_cons_zero, List.set_cons_succ]
    refine wpAnyT_take' (i := 17) (some 30) (v := ?_) rfl rfl (by kernel_rfl) (by kernel_rfl) (by kernel_rfl) (by decide) (fun _ _ _ h => h) (Or.inl ⟨by rfl, ?_⟩) (fun _ => trivial) hT2 ?_
    rotate_left
    · (intro w hSw; (try dsimp only at hSw); go_simp); try with_reducible rfl
    try simp only [Act.put, List.setIfInBounds_toArray, List.set_cons_zero, List.set_cons_succ]
    refine wpAnyT_take' (i := 18) (some 31) (v := ?_) rfl rfl (by kernel_rfl) (by kernel_rfl) (by kernel_rfl) (by decide) (fun _ _ _ h => h) (Or.inl ⟨by rfl, ?_⟩) (fun _ => trivial) hT2 ?_
    rotate_left
    · (intro w hSw; (try dsimp only at hSw); go_simp); try with_reducible rfl
    try simp only [Act.put, List.setIfInBounds_toArray, List.set_cons_zero, List.set_cons_succ]
    refine wpAnyT_take' (i := 19) (some 12) (v := ?_) rfl rfl (by kernel_rfl) (by kernel_rfl) (by kernel_rfl) (by decide) (fun _ _ _ h => h) (Or.inl ⟨by rfl, ?_⟩) (fun _ => trivial) hT2 ?_
    rotate_left
    · (intro w hSw; (try dsimp only at hSw); go_simp); try with_reducible rfl
    try simp only [Act.put, List.setIfInBounds_toArray, List.set_cons_zero, List.set_cons_succ]
    refine wpAnyT_done (by kernel_rfl) ?_ _
    try simp only [Act.put, List.setIfInBounds_toArray, List.set_cons_zero, List.set_cons_succ]
    go_wp2_with fail
    refine (HP.out _ (HM.out.kept (by repeat (first | with_reducible exact Ext.refl _ | with_reducible assumption | (with_reducible refine Ext.alloc ?_ _) | (with_reducible refine Ext.drew ?_) | (with_reducible refine Ext.drewN ?_ _) | (with_reducible refine Ext.set ?_ (by first | (simp; done) | (simp; omega)) _) | (with_reducible refine Ext.trans ?_ (by with_reducible assumption))))) trivial).mono ?_
    rintro e w3 ⟨row', rfl, hM', hv'⟩
    go_wp2
    go_ret2
    exact ⟨row', rfl, hM', (Mv.of_ext (by repeat (first | with_reducible exact Ext.refl _ | with_reducible assumption | (with_reducible refine Ext.alloc ?_ _) | (with_reducible refine Ext.drew ?_) | (with_reducible refine Ext.drewN ?_ _) | (with_reducible refine Ext.set ?_ (by first | (simp; done) | (simp; omega)) _) | (with_reducible refine Ext.trans ?_ (by with_reducible assumption))))).trans hv'⟩

theorem step_any (B pb mb bud pars : Nat) (row : Value) (L : List Step) (op : Nat) (a b : Int) (k : Nat) (w : World) (hM : Mk w B pb mb row bud pars pars L) (hop : op < 256) (ha : (Lit.int .i64 a).wf = true) (hb : (Lit.int .i64 b).wf = true) (hk1 : k ≠ 1) :
    Calls Tryz.prog 34 #[.pointer (some ⟨pb, 0, none⟩), .agg #[.int .u8 op, .int .i64 a, .int .i64 b, .bool false, .slice none 0 0, .slice none 0 0], .int .i64 k] w
      (MkRes B pb mb bud row w (stepR bud pars L (opStep op a b) k).1 (stepR bud pars L (opStep op a b) k).2.1 pars (stepR bud pars L (opStep op a b) k).2.2) := by
  by_cases hk : fieldsN op = k
  · exact step_yes B pb mb bud pars row L op a b k w hM hop ha hb hk hk1
  · have e : stepR bud pars L (opStep op a b) k = (0, 2, L) := by
      unfold stepR
      exact if_neg (fun h => hk h.1)
    rw [e]
    refine (step_else B pb mb bud pars row L op a b k w hM hop hk).mono ?_
    rintro e w' ⟨_, rfl, hE, rfl⟩
    exact ⟨row, rfl, hM.kept hE, Mv.of_ext hE⟩
theorem one_any (B pb mb bud pars : Nat) (row : Value) (L : List Step) (op : Nat) (a : Int) (w : World) (hM : Mk w B pb mb row bud pars pars L) (hop : op < 256) (ha : (Lit.int .i64 a).wf = true) :
    Calls Tryz.prog 13 #[.pointer (some ⟨pb, 0, none⟩), .int .u8 op, .int .i64 a] w
      (MkRes B pb mb bud row w (stepR bud pars L (opStep op a 0) 4).1 (stepR bud pars L (opStep op a 0) 4).2.1 pars (stepR bud pars L (opStep op a 0) 4).2.2) := by
  have H := Lib.hid (step_any B pb mb bud pars row L op a 0 4 w hM hop ha wf_zero (by omega))
  obtain ⟨p, hp⟩ : ∃ p, p = stepR bud pars L (opStep op a 0) 4 := ⟨_, rfl⟩
  rw [← hp] at H ⊢
  obtain ⟨i, er, L'⟩ := p
  simp only at H ⊢
  clear hp hM
  go_enter Tryz.func13, Tryz.ntmps13
  go_wp2_with fail
  refine H.out.mono ?_
  rintro e w' ⟨row', rfl, h1, h2⟩
  go_wp2
  go_ret2
  exact ⟨row', rfl, h1, h2⟩
theorem two_any (B pb mb bud pars : Nat) (row : Value) (L : List Step) (op : Nat) (a b : Int) (w : World) (hM : Mk w B pb mb row bud pars pars L) (hop : op < 256) (ha : (Lit.int .i64 a).wf = true) (hb : (Lit.int .i64 b).wf = true) :
    Calls Tryz.prog 15 #[.pointer (some ⟨pb, 0, none⟩), .int .u8 op, .int .i64 a, .int .i64 b] w
      (MkRes B pb mb bud row w (stepR bud pars L (opStep op a b) 3).1 (stepR bud pars L (opStep op a b) 3).2.1 pars (stepR bud pars L (opStep op a b) 3).2.2) := by
  have H := Lib.hid (step_any B pb mb bud pars row L op a b 3 w hM hop ha hb (by omega))
  obtain ⟨p, hp⟩ : ∃ p, p = stepR bud pars L (opStep op a b) 3 := ⟨_, rfl⟩
  rw [← hp] at H ⊢
  obtain ⟨i, er, L'⟩ := p
  simp only at H ⊢
  clear hp hM
  go_enter Tryz.func15, Tryz.ntmps15
  go_wp2_with fail
  refine H.out.mono ?_
  rintro e w' ⟨row', rfl, h1, h2⟩
  go_wp2
  go_ret2
  exact ⟨row', rfl, h1, h2⟩
end Go.Proofs.YtbncdghbnnefdaaGreat

namespace Go.Proofs.YtbncdghbnnefdaaGreat
open Go.RowKit

/-- Six cells from here on are a step. -/
def StepCell (w : World) (b o : Nat) (s : Step) : Prop := ∃ a1 n1 c1 a2 n2 c2, w.cell? ⟨b, o, none⟩ = some (.int .u8 s.op) ∧ w.cell? ⟨b, o + 1, none⟩ = some (.int .i64 s.a) ∧ w.cell? ⟨b, o + 2, none⟩ = some (.int .i64 s.b) ∧
  w.cell? ⟨b, o + 3, none⟩ = some (.bool s.neg) ∧ w.cell? ⟨b, o + 4, none⟩ = some (.slice a1 n1 c1) ∧ w.cell? ⟨b, o + 5, none⟩ = some (.slice a2 n2 c2) ∧ Nums w a1 n1 c1 s.xs ∧ Nums w a2 n2 c2 s.ys ∧ s.op < 256 ∧ n1 ≤ 2048 ∧ n2 ≤ 2048
/-- The slice (a, n, c) reads as the steps L. -/
structure Steps (w : World) (a : Option Addr) (n c : Nat) (L : List Step) : Prop where
  len : L.length = n
  few : n ≤ 65536
  at_ : n = 0 ∨ ∃ b off, a = some ⟨b, off, none⟩ ∧ ∀ (i : Nat) (s : Step), L[i]? = some s → StepCell w b (off + i * 6) s
/-- The slice (a, n, c) reads as tells. -/
structure Tells (w : World) (a : Option Addr) (n c : Nat) (T : List (ByteArray × Int)) : Prop where
  len : T.length = n
  few : n ≤ 65536
  at_ : n = 0 ∨ ∃ b off, a = some ⟨b, off, none⟩ ∧ ∀ (i : Nat) (t : ByteArray × Int), T[i]? = some t → w.cell? ⟨b, off + i * 2, none⟩ = some (.string t.1) ∧ w.cell? ⟨b, off + i * 2 + 1, none⟩ = some (.int .i64 t.2)
theorem StepCell.ext {w w' : World} {b o : Nat} {s : Step} (h : StepCell w b o s) (e : Ext w w') : StepCell w' b o s := by
  obtain ⟨a1, n1, c1, a2, n2, c2, h1, h2, h3, h4, h5, h6, h7, h8, h9⟩ := h
  exact ⟨a1, n1, c1, a2, n2, c2, e.cell h1, e.cell h2, e.cell h3, e.cell h4, e.cell h5, e.cell h6, h7.ext e, h8.ext e, h9⟩
theorem Steps.ext {w w' : World} {a : Option Addr} {n c : Nat} {L : List Step} (h : Steps w a n c L) (e : Ext w w') : Steps w' a n c L :=
  ⟨h.len, h.few, h.at_.imp id fun ⟨b, off, ha, hc⟩ => ⟨b, off, ha, fun i s hi => (hc i s hi).ext e⟩⟩
theorem Tells.ext {w w' : World} {a : Option Addr} {n c : Nat} {T : List (ByteArray × Int)} (h : Tells w a n c T) (e : Ext w w') : Tells w' a n c T :=
  ⟨h.len, h.few, h.at_.imp id fun ⟨b, off, ha, hc⟩ => ⟨b, off, ha, fun i t hi => ⟨e.cell (hc i t hi).1, e.cell (hc i t hi).2⟩⟩⟩
theorem Steps.at {w : World} {a : Option Addr} {n c : Nat} {L : List Step} (h : Steps w a n c L) {i : Nat} (hi : i < n) : ∃ b off s, a = some ⟨b, off, none⟩ ∧ L[i]? = some s ∧ StepCell w b (off + i * 6) s := by
  have hl := h.len
  rcases h.at_ with h0 | ⟨b, off, ha, hc⟩
  · omega
  · exact ⟨b, off, L[i], ha, List.getElem?_eq_getElem (by omega), hc i _ (List.getElem?_eq_getElem (by omega))⟩
theorem Tells.at {w : World} {a : Option Addr} {n c : Nat} {T : List (ByteArray × Int)} (h : Tells w a n c T) {i : Nat} (hi : i < n) : ∃ b off t, a = some ⟨b, off, none⟩ ∧ T[i]? = some t ∧ w.cell? ⟨b, off + i * 2, none⟩ = some (.string t.1) ∧ w.cell? ⟨b, off + i * 2 + 1, none⟩ = some (.int .i64 t.2) := by
  have hl := h.len
  rcases h.at_ with h0 | ⟨b, off, ha, hc⟩
  · omega
  · exact ⟨b, off, T[i], ha, List.getElem?_eq_getElem (by omega), hc i _ (List.getElem?_eq_getElem (by omega))⟩

/-- All steps may be. -/
def allR (L : List Step) (pars : Int) : Bool := L.zipIdx.all fun x => rightP x.1 (x.2 : Nat) pars
theorem allR_iff (L : List Step) (pars : Int) : allR L pars = true ↔ ∀ (i : Nat) (s : Step), L[i]? = some s → rightP s i pars = true := by
  unfold allR
  rw [List.all_eq_true]
  constructor
  · intro h i s hi
    exact h (s, i) (List.mem_zipIdx_iff_getElem?.2 hi)
  · rintro h ⟨s, i⟩ hm
    exact h i s (List.mem_zipIdx_iff_getElem?.1 hm)
/-- All tells may be. -/
def allT (T : List (ByteArray × Int)) (n : Nat) : Bool := T.all fun t => decide (0 ≤ t.2) && decide (t.2 < n)
theorem allT_iff (T : List (ByteArray × Int)) (n : Nat) : allT T n = true ↔ ∀ (i : Nat) (t : ByteArray × Int), T[i]? = some t → 0 ≤ t.2 ∧ t.2 < n := by
  unfold allT
  rw [List.all_eq_true]
  constructor
  · intro h i t hi
    have := h t (List.mem_of_getElem? hi)
    simpa using this
  · intro h t hm
    obtain ⟨i, hi⟩ := List.getElem?_of_mem hm
    have := h i t hi
    simp [this]
/-- The tape's head may be. -/
def headOk (pars out : Int) (n : Nat) : Prop := 0 ≤ pars ∧ pars ≤ 200 ∧ 1 ≤ n ∧ n ≤ 20000 ∧ 0 ≤ out ∧ out < n
instance (pars out : Int) (n : Nat) : Decidable (headOk pars out n) := by unfold headOk; infer_instance
/-- Check's answer. -/
def checkP (pars out : Int) (L : List Step) (T : List (ByteArray × Int)) : Nat := if headOk pars out L.length ∧ allR L pars = true ∧ allT T L.length = true then 0 else 170
end Go.Proofs.YtbncdghbnnefdaaGreat

namespace Go.Proofs.YtbncdghbnnefdaaGreat
open Go.RowKit

set_option maxRecDepth 100000 in
set_option maxHeartbeats 4000000 in
theorem check_head (pars out : Int) (a1 a2 : Option Addr) (n1 c1 n2 c2 : Nat) (w : World) (hn : n1 ≤ 65536) (h : ¬ headOk pars out n1) :
    Calls Tryz.prog 24 #[.agg #[.int .i64 pars, .int .i64 out, .slice a1 n1 c1, .slice a2 n2 c2]] w (Post w fun v _ => v = .int .i64 170) := by
  unfold headOk at h
  by_cases h1 : pars < 0
  · clear h
    go_enter Tryz.func24, Tryz.ntmps24
    go_wp2
    go_ret
    exact Post.mk (by repeat (first | with_reducible exact Ext.refl _ | with_reducible assumption | (with_reducible refine Ext.alloc ?_ _) | (with_reducible refine Ext.drew ?_) | (with_reducible refine Ext.drewN ?_ _) | (with_reducible refine Ext.set ?_ (by first | (simp; done) | (simp; omega)) _) | (with_reducible refine Ext.trans ?_ (by with_reducible assumption)))) rfl
  · by_cases h2 : 200 < pars
    · clear h
      go_enter Tryz.func24, Tryz.ntmps24
      go_wp2
      go_ret
      exact Post.mk (by repeat (first | with_reducible exact Ext.refl _ | with_reducible assumption | (with_reducible refine Ext.alloc ?_ _) | (with_reducible refine Ext.drew ?_) | (with_reducible refine Ext.drewN ?_ _) | (with_reducible refine Ext.set ?_ (by first | (simp; done) | (simp; omega)) _) | (with_reducible refine Ext.trans ?_ (by with_reducible assumption)))) rfl
    · by_cases h3 : (n1 : Int) < 1
      · clear h
        go_enter Tryz.func24, Tryz.ntmps24
        go_wp2
        go_ret
        exact Post.mk (by repeat (first | with_reducible exact Ext.refl _ | with_reducible assumption | (with_reducible refine Ext.alloc ?_ _) | (with_reducible refine Ext.drew ?_) | (with_reducible refine Ext.drewN ?_ _) | (with_reducible refine Ext.set ?_ (by first | (simp; done) | (simp; omega)) _) | (with_reducible refine Ext.trans ?_ (by with_reducible assumption)))) rfl
      · by_cases h4 : (20000 : Int) < n1
        · clear h
          go_enter Tryz.func24, Tryz.ntmps24
          go_wp2
          go_ret
          exact Post.mk (by repeat (first | with_reducible exact Ext.refl _ | with_reducible assumption | (with_reducible refine Ext.alloc ?_ _) | (with_reducible refine Ext.drew ?_) | (with_reducible refine Ext.drewN ?_ _) | (with_reducible refine Ext.set ?_ (by first | (simp; done) | (simp; omega)) _) | (with_reducible refine Ext.trans ?_ (by with_reducible assumption)))) rfl
        · by_cases h5 : out < 0
          · clear h
            go_enter Tryz.func24, Tryz.ntmps24
            go_wp2
            go_ret
            exact Post.mk (by repeat (first | with_reducible exact Ext.refl _ | with_reducible assumption | (with_reducible refine Ext.alloc ?_ _) | (with_reducible refine Ext.drew ?_) | (with_reducible refine Ext.drewN ?_ _) | (with_reducible refine Ext.set ?_ (by first | (simp; done) | (simp; omega)) _) | (with_reducible refine Ext.trans ?_ (by with_reducible assumption)))) rfl
          · have h6 : (n1 : Int) ≤ out := by omega
            clear h
            go_enter Tryz.func24, Tryz.ntmps24
            go_wp2
            go_ret
            exact Post.mk (by repeat (first | with_reducible exact Ext.refl _ | with_reducible assumption | (with_reducible refine Ext.alloc ?_ _) | (with_reducible refine Ext.drew ?_) | (with_reducible refine Ext.drewN ?_ _) | (with_reducible refine Ext.set ?_ (by first | (simp; done) | (simp; omega)) _) | (with_reducible refine Ext.trans ?_ (by with_reducible assumption)))) rfl

set_option maxRecDepth 100000 in
set_option maxHeartbeats 4000000 in
theorem check_main (pars out : Int) (a1 a2 : Option Addr) (n1 c1 n2 c2 : Nat) (L : List Step) (T : List (ByteArray × Int)) (w : World) (hs : Steps w a1 n1 c1 L) (ht : Tells w a2 n2 c2 T) (h : headOk pars out n1) :
    Calls Tryz.prog 24 #[.agg #[.int .i64 pars, .int .i64 out, .slice a1 n1 c1, .slice a2 n2 c2]] w (Post w fun v _ => v = .int .i64 ((if allR L pars = true ∧ allT T n1 = true then 0 else 170 : Nat) : Int)) := by
  obtain ⟨g1, g2, g3, g4, g5, g6⟩ := h
  have f2 := ht.few
  have g1' : ¬ pars < 0 := by omega
  have g2' : ¬ 200 < pars := by omega
  have g3' : ¬ (n1 : Int) < 1 := by omega
  have g4' : ¬ (20000 : Int) < n1 := by omega
  have g5' : ¬ out < 0 := by omega
  have g6' : ¬ (n1 : Int) ≤ out := by omega
  clear g1 g2 g5
  obtain ⟨R, hR0⟩ : ∃ R : Nat, R = if allR L pars = true ∧ allT T n1 = true then 0 else 170 := ⟨_, rfl⟩
  rw [← hR0]
  have HR0 := Lib.hid hR0
  clear hR0
  go_enter Tryz.func24, Tryz.ntmps24
  go_wp2
  obtain ⟨W0, hW0⟩ : ∃ W0, W0 = w.alloc (.cells #[.int .i64 pars, .int .i64 out, .slice a1 n1 c1, .slice a2 n2 c2] 53) := ⟨_, rfl⟩
  obtain ⟨tb, htb⟩ : ∃ tb, tb = w.heap.size := ⟨_, rfl⟩
  have E0 : Ext w W0 := by rw [hW0]; exact (by repeat (first | with_reducible exact Ext.refl _ | with_reducible assumption | (with_reducible refine Ext.alloc ?_ _) | (with_reducible refine Ext.drew ?_) | (with_reducible refine Ext.drewN ?_ _) | (with_reducible refine Ext.set ?_ (by first | (simp; done) | (simp; omega)) _) | (with_reducible refine Ext.trans ?_ (by with_reducible assumption))))
  have z0 : W0.cell? ⟨tb, 0, none⟩ = some (.int .i64 pars) := by rw [hW0, htb]; simp [go_sem]
  have z2 : W0.cell? ⟨tb, 2, none⟩ = some (.slice a1 n1 c1) := by rw [hW0, htb]; simp [go_sem]
  have z3 : W0.cell? ⟨tb, 3, none⟩ = some (.slice a2 n2 c2) := by rw [hW0, htb]; simp [go_sem]
  rw [← hW0, ← htb]
  clear hW0 htb
  go_loopw [43] (fun k wr => ∃ j : Nat, j ≤ n1 ∧ k = .int .i64 j ∧ Hid (∀ (i : Nat) (s : Step), i < j → L[i]? = some s → rightP s i pars = true) ∧ Ext W0 wr) (fun k _ => n1 - (intOf k).toNat)
  case atStart => exact ⟨0, Nat.zero_le _, rfl, Lib.hid (fun i s h => by omega), Ext.refl _⟩
  case round =>
    obtain ⟨j, hj, rfl, hall, hext⟩ := hrel
    have y0 := hext.cell z0
    by_cases hlt : j < n1
    · obtain ⟨b, off, s, rfl, hj', a3, n3, c3, a4, n4, c4, q0, q1, q2, q3, q4, q5, q6, q7, q8⟩ := ((hs.ext E0).ext hext).at hlt
      have hb := World.block_lt_of_cell? wr _ y0
      simp at hb
      have hst : IsStep (wr.alloc (.cells #[.int .u8 s.op, .int .i64 s.a, .int .i64 s.b, .bool s.neg, .slice a3 n3 c3, .slice a4 n4 c4] 78)) (.agg #[.int .u8 s.op, .int .i64 s.a, .int .i64 s.b, .bool s.neg, .slice a3 n3 c3, .slice a4 n4 c4]) s := ⟨a3, n3, c3, a4, n4, c4, rfl, q6.ext (by repeat (first | with_reducible exact Ext.refl _ | with_reducible assumption | (with_reducible refine Ext.alloc ?_ _) | (with_reducible refine Ext.drew ?_) | (with_reducible refine Ext.drewN ?_ _) | (with_reducible refine Ext.set ?_ (by first | (simp; done) | (simp; omega)) _) | (with_reducible refine Ext.trans ?_ (by with_reducible assumption)))), q7.ext (by repeat (first | with_reducible exact Ext.refl _ | with_reducible assumption | (with_reducible refine Ext.alloc ?_ _) | (with_reducible refine Ext.drew ?_) | (with_reducible refine Ext.drewN ?_ _) | (with_reducible refine Ext.set ?_ (by first | (simp; done) | (simp; omega)) _) | (with_reducible refine Ext.trans ?_ (by with_reducible assumption)))), q8⟩
      have HR := Lib.hid (right_any _ s j pars _ hst)
      obtain ⟨r, hr⟩ : ∃ r, r = rightP s j pars := ⟨_, rfl⟩
      rw [← hr] at HR
      have Hr := Lib.hid hr
      have Hj := Lib.hid hj'
      clear hst q6 q7 q8 hr hj'
      go_wp2_with fail
      refine HR.out.mono ?_
      rintro e w2 ⟨_, rfl, E2, rfl⟩
      clear HR
      cases r
      · have hf : ¬ (allR L pars = true ∧ allT T n1 = true) := by
          rintro ⟨h, _⟩
          have := (allR_iff L pars).1 h j s Hj.out
          rw [← Hr.out] at this
          cases this
        have Hf := Lib.hid (HR0.out.trans (if_neg hf))
        clear hf
        go_wp2
        go_ret
        exact Post.mk (by repeat (first | with_reducible exact Ext.refl _ | with_reducible assumption | (with_reducible refine Ext.alloc ?_ _) | (with_reducible refine Ext.drew ?_) | (with_reducible refine Ext.drewN ?_ _) | (with_reducible refine Ext.set ?_ (by first | (simp; done) | (simp; omega)) _) | (with_reducible refine Ext.trans ?_ (by with_reducible assumption)))) (by rw [Hf.out]; rfl)
      · have hn1 : Hid (∀ (i : Nat) (s : Step), i < j + 1 → L[i]? = some s → rightP s i pars = true) := Lib.hid (by
          intro i t hi ht
          by_cases e : i = j
          · subst e
            have := Hj.out
            rw [ht] at this
            cases this
            exact Hr.out.symm
          · exact hall.out i t (by omega) ht)
        go_wp2
        exact ⟨⟨j + 1, by omega, by go_num, hn1, (by repeat (first | with_reducible exact Ext.refl _ | with_reducible assumption | (with_reducible refine Ext.alloc ?_ _) | (with_reducible refine Ext.drew ?_) | (with_reducible refine Ext.drewN ?_ _) | (with_reducible refine Ext.set ?_ (by first | (simp; done) | (simp; omega)) _) | (with_reducible refine Ext.trans ?_ (by with_reducible assumption))))⟩, by simp [intOf]; omega⟩
    · have hR : allR L pars = true := (allR_iff L pars).2 fun i s hi => hall.out i s (by have := (List.getElem?_eq_some_iff.1 hi).1; have := hs.len; omega) hi
      have HR := Lib.hid hR
      clear hR hall
      have y2 := hext.cell z2
      have y3 := hext.cell z3
      have hb := World.block_lt_of_cell? wr _ y0
      simp at hb
      have ht' := (ht.ext E0).ext hext
      have Eg : Ext w wr := E0.trans hext
      clear hs ht z0 z2 z3 E0 hext y0
      go_wp2
      obtain ⟨W1, rfl⟩ : ∃ W1 : World, W1 = wr := ⟨_, rfl⟩
      go_loopw [58] (fun k wr => ∃ i : Nat, i ≤ n2 ∧ k = .int .i64 i ∧ Hid (∀ (m : Nat) (t : ByteArray × Int), m < i → T[m]? = some t → 0 ≤ t.2 ∧ t.2 < n1) ∧ Ext W1 wr) (fun k _ => n2 - (intOf k).toNat)
      case atStart => exact ⟨0, Nat.zero_le _, rfl, Lib.hid (fun i s h => by omega), Ext.refl _⟩
      case round =>
        obtain ⟨i, hi, rfl, hall, hext⟩ := hrel
        have x2 := hext.cell y2
        have hb' := World.block_lt_of_cell? _ _ x2
        simp at hb'
        by_cases hlt : i < n2
        · obtain ⟨b, off, t, rfl, hj', q0, q1⟩ := (ht'.ext hext).at hlt
          obtain ⟨nm, at'⟩ := t
          simp only at q0 q1
          have Hj := Lib.hid hj'
          clear hj'
          by_cases o1 : at' < 0
          · have hf : ¬ allT T n1 = true := fun h => by
              have := (allT_iff T n1).1 h i _ Hj.out
              simp only at this
              omega
            have Hf := Lib.hid (HR0.out.trans (if_neg (fun e => hf e.2)))
            clear hf
            go_wp2
            go_ret
            exact Post.mk (by repeat (first | with_reducible exact Ext.refl _ | with_reducible assumption | (with_reducible refine Ext.alloc ?_ _) | (with_reducible refine Ext.drew ?_) | (with_reducible refine Ext.drewN ?_ _) | (with_reducible refine Ext.set ?_ (by first | (simp; done) | (simp; omega)) _) | (with_reducible refine Ext.trans ?_ (by with_reducible assumption)))) (by rw [Hf.out]; rfl)
          · by_cases o2 : (n1 : Int) ≤ at'
            · have hf : ¬ allT T n1 = true := fun h => by
                have := (allT_iff T n1).1 h i _ Hj.out
                simp only at this
                omega
              have Hf := Lib.hid (HR0.out.trans (if_neg (fun e => hf e.2)))
              clear hf
              go_wp2
              go_ret
              exact Post.mk (by repeat (first | with_reducible exact Ext.refl _ | with_reducible assumption | (with_reducible refine Ext.alloc ?_ _) | (with_reducible refine Ext.drew ?_) | (with_reducible refine Ext.drewN ?_ _) | (with_reducible refine Ext.set ?_ (by first | (simp; done) | (simp; omega)) _) | (with_reducible refine Ext.trans ?_ (by with_reducible assumption)))) (by rw [Hf.out]; rfl)
            · have hn1 : Hid (∀ (m : Nat) (t : ByteArray × Int), m < i + 1 → T[m]? = some t → 0 ≤ t.2 ∧ t.2 < n1) := Lib.hid (by
                intro m t hm ht
                by_cases e : m = i
                · subst e
                  have := Hj.out
                  rw [ht] at this
                  cases this
                  exact ⟨by simp only; omega, by simp only; omega⟩
                · exact hall.out m t (by omega) ht)
              go_wp2
              exact ⟨⟨i + 1, by omega, by go_num, hn1, (by repeat (first | with_reducible exact Ext.refl _ | with_reducible assumption | (with_reducible refine Ext.alloc ?_ _) | (with_reducible refine Ext.drew ?_) | (with_reducible refine Ext.drewN ?_ _) | (with_reducible refine Ext.set ?_ (by first | (simp; done) | (simp; omega)) _) | (with_reducible refine Ext.trans ?_ (by with_reducible assumption))))⟩, by simp [intOf]; omega⟩
        · have hT : allT T n1 = true := (allT_iff T n1).2 fun m t hm => hall.out m t (by have := (List.getElem?_eq_some_iff.1 hm).1; have := ht'.len; omega) hm
          have HT := Lib.hid (HR0.out.trans (if_pos ⟨HR.out, hT⟩))
          clear hT
          go_wp2
          go_ret
          exact Post.mk (by repeat (first | with_reducible exact Ext.refl _ | with_reducible assumption | (with_reducible refine Ext.alloc ?_ _) | (with_reducible refine Ext.drew ?_) | (with_reducible refine Ext.drewN ?_ _) | (with_reducible refine Ext.set ?_ (by first | (simp; done) | (simp; omega)) _) | (with_reducible refine Ext.trans ?_ (by with_reducible assumption)))) (by rw [HT.out]; rfl)
theorem check_any (pars out : Int) (a1 a2 : Option Addr) (n1 c1 n2 c2 : Nat) (L : List Step) (T : List (ByteArray × Int)) (w : World) (hs : Steps w a1 n1 c1 L) (ht : Tells w a2 n2 c2 T) :
    Calls Tryz.prog 24 #[.agg #[.int .i64 pars, .int .i64 out, .slice a1 n1 c1, .slice a2 n2 c2]] w (Post w fun v _ => v = .int .i64 (checkP pars out L T)) := by
  unfold checkP
  rw [hs.len]
  by_cases h : headOk pars out n1
  · have e : (if headOk pars out n1 ∧ allR L pars = true ∧ allT T n1 = true then (0 : Nat) else 170) = if allR L pars = true ∧ allT T n1 = true then 0 else 170 := by simp [h]
    rw [e]
    exact check_main pars out a1 a2 n1 c1 n2 c2 L T w hs ht h
  · rw [if_neg (fun e => h e.1)]
    exact check_head pars out a1 a2 n1 c1 n2 c2 w hs.few h
end Go.Proofs.YtbncdghbnnefdaaGreat
