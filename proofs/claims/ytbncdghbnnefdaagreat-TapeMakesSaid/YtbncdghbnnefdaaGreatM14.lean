/- Parts of the proof: contracts of the functions that the law reaches, and the arithmetic that they rest on; no condition beyond those that each theorem states. -/
import Derived.Test.YtbncdghbnnefdaaGreatM7
import Derived.Test.YtbncdghbnnefdaaGreatM13

namespace Go.Proofs.YtbncdghbnnefdaaGreat
open Go.RowKit

/-- The value is a step whose rows of limbs lie in blocks from B on, each its own. -/
def OwnStep (w : World) (B : Nat) (v : Value) (s : Step) : Prop := ∃ v1 v2, v = .agg #[.int .u8 s.op, .int .i64 s.a, .int .i64 s.b, .bool s.neg, v1, v2] ∧ Own w B v1 s.xs ∧ Own w B v2 s.ys
theorem set2_cell {w : World} {nb rb k : Nat} {u v x : Value} (h : w.cell? ⟨rb, k, none⟩ = some x) (hn : nb ≠ rb) : ((w.setCell ⟨nb, 4, none⟩ u).setCell ⟨nb, 5, none⟩ v).cell? ⟨rb, k, none⟩ = some x := by
  rw [World.cell?_setCell_other _ _ _ _ (by first | (simp; done) | (simp; omega)), World.cell?_setCell_other _ _ _ _ (by first | (simp; done) | (simp; omega))]
  exact h
theorem Own.set {w : World} {B : Nat} {v : Value} {L : List Nat} (h : Own w B v L) {p : Addr} (hp : p.block < B) (u : Value) : Own (w.setCell p u) B v L := by
  refine ⟨h.1, ?_⟩
  rcases h.2 with h0 | ⟨g, cap, cur, h0, h1, h2, h3⟩
  · exact .inl h0
  · refine .inr ⟨g, cap, cur, h0, h1, ?_, h3⟩
    simp only [World.setCell, Array.getElem?_modify]
    rw [if_neg (by omega)]
    exact h2
theorem own_sl {w : World} {B : Nat} {v : Value} {L : List Nat} (h : Own w B v L) : ∃ a n c, v = .slice a n c := by
  rcases h.2 with ⟨h, _⟩ | ⟨g, cap, cur, h, _⟩
  · exact ⟨_, _, _, h⟩
  · exact ⟨_, _, _, h⟩
set_option maxRecDepth 100000 in
set_option maxHeartbeats 4000000 in
theorem own_any (v : Value) (s : Step) (w : World) (h : IsStep w v s) :
    Calls Tryz.prog 38 #[v] w (Post w fun r w' => OwnStep w' w.heap.size r s) := by
  obtain ⟨a1, n1, c1, a2, n2, c2, rfl, h1, h2, hop, hn1, hn2⟩ := h
  go_enter Tryz.func38, Tryz.ntmps38
  go_wp2
  obtain ⟨W0, hW0⟩ : ∃ W0, W0 = (w.alloc (.cells #[.int .u8 s.op, .int .i64 s.a, .int .i64 s.b, .bool s.neg, .slice a1 n1 c1, .slice a2 n2 c2] 78)).alloc (.cells #[.int .u8 0, .int .i64 0, .int .i64 0, .bool false, .slice none 0 0, .slice none 0 0] 78) := ⟨_, rfl⟩
  obtain ⟨nb, hnb⟩ : ∃ nb, nb = w.heap.size := ⟨_, rfl⟩
  have E0 : Ext w W0 := by rw [hW0]; exact (by repeat (first | with_reducible exact Ext.refl _ | with_reducible assumption | (with_reducible refine Ext.alloc ?_ _) | (with_reducible refine Ext.drew ?_) | (with_reducible refine Ext.drewN ?_ _) | (with_reducible refine Ext.set ?_ (by first | (simp; done) | (simp; omega)) _) | (with_reducible refine Ext.trans ?_ (by with_reducible assumption))))
  have z0 : W0.cell? ⟨nb, 0, none⟩ = some (.int .u8 s.op) := by rw [hW0, hnb]; simp [go_sem]
  have z1 : W0.cell? ⟨nb, 1, none⟩ = some (.int .i64 s.a) := by rw [hW0, hnb]; simp [go_sem]
  have z2 : W0.cell? ⟨nb, 2, none⟩ = some (.int .i64 s.b) := by rw [hW0, hnb]; simp [go_sem]
  have z3 : W0.cell? ⟨nb, 3, none⟩ = some (.bool s.neg) := by rw [hW0, hnb]; simp [go_sem]
  have z4 : W0.cell? ⟨nb, 4, none⟩ = some (.slice a1 n1 c1) := by rw [hW0, hnb]; simp [go_sem]
  have z5 : W0.cell? ⟨nb, 5, none⟩ = some (.slice a2 n2 c2) := by rw [hW0, hnb]; simp [go_sem]
  have hf4 : W0.frozen? ⟨nb, 4, none⟩ = false := by rw [hW0, hnb]; simp [go_sem]
  have hf5 : W0.frozen? ⟨nb, 5, none⟩ = false := by rw [hW0, hnb]; simp [go_sem]
  obtain ⟨rb, hrb⟩ : ∃ rb, rb = w.heap.size + 1 := ⟨_, rfl⟩
  have y0 : W0.cell? ⟨rb, 0, none⟩ = some (.int .u8 0) := by rw [hW0, hrb]; simp [go_sem]
  have y1 : W0.cell? ⟨rb, 1, none⟩ = some (.int .i64 0) := by rw [hW0, hrb]; simp [go_sem]
  have y2 : W0.cell? ⟨rb, 2, none⟩ = some (.int .i64 0) := by rw [hW0, hrb]; simp [go_sem]
  have y3 : W0.cell? ⟨rb, 3, none⟩ = some (.bool false) := by rw [hW0, hrb]; simp [go_sem]
  have y4 : W0.cell? ⟨rb, 4, none⟩ = some (.slice none 0 0) := by rw [hW0, hrb]; simp [go_sem]
  have y5 : W0.cell? ⟨rb, 5, none⟩ = some (.slice none 0 0) := by rw [hW0, hrb]; simp [go_sem]
  have hfr : ∀ k, W0.frozen? ⟨rb, k, none⟩ = false := by intro k; rw [hW0, hrb]; simp [go_sem]
  have hsz : W0.heap.size = rb + 1 := by rw [hW0, hrb]; simp
  rw [← hW0, ← hrb, ← hnb]
  have hnr : nb ≠ rb := by omega
  have hwn : w.heap.size ≤ nb := by omega
  have hwr : w.heap.size ≤ rb := by omega
  have hnlt : nb < rb := by omega
  have Hsz := Lib.hid hsz
  clear hW0 hnb hrb hsz
  refine wp_region_T (fun w' => w'.cell? ⟨nb, 4, none⟩ = some (.slice a1 n1 c1) ∧ w'.cell? ⟨nb, 5, none⟩ = some (.slice a2 n2 c2)) (fun w' => w'.cell? ⟨nb, 0, none⟩ = some (.int .u8 s.op) ∧ w'.cell? ⟨nb, 1, none⟩ = some (.int .i64 s.a) ∧ w'.cell? ⟨nb, 2, none⟩ = some (.int .i64 s.b) ∧ w'.cell? ⟨nb, 3, none⟩ = some (.bool s.neg)) 12 16 (by rfl) (by kernel_rfl) ?_
  have hT0 : W0.drew.cell? ⟨nb, 0, none⟩ = some (.int .u8 s.op) ∧ W0.drew.cell? ⟨nb, 1, none⟩ = some (.int .i64 s.a) ∧ W0.drew.cell? ⟨nb, 2, none⟩ = some (.int .i64 s.b) ∧ W0.drew.cell? ⟨nb, 3, none⟩ = some (.bool s.neg) := ⟨z0, z1, z2, z3⟩
  have hS0 : W0.drew.cell? ⟨nb, 4, none⟩ = some (.slice a1 n1 c1) ∧ W0.drew.cell? ⟨nb, 5, none⟩ = some (.slice a2 n2 c2) := ⟨z4, z5⟩
  refine wpAnyT_take' (i := 0) (some 3) (v := ?_) rfl rfl (by kernel_rfl) (by kernel_rfl) (by kernel_rfl) (by decide) (fun _ _ _ h => h) (Or.inl ⟨by rfl, ?_⟩) (fun _ => hS0) hT0 ?_
  rotate_left
  · (intro w hSw; (try dsimp only at hSw); go_simp); try with_reducible rfl
  try simp only [Act.put, List.setIfInBounds_toArray, List.set_cons_zero, List.set_cons_succ]
  refine wpAnyT_take' (i := 1) (some 4) (v := ?_) rfl rfl (by kernel_rfl) (by kernel_rfl) (by kernel_rfl) (by decide) (fun _ _ _ h => h) (Or.inl ⟨by rfl, ?_⟩) (fun _ => hS0) hT0 ?_
  rotate_left
  · (intro w hSw; (try dsimp only at hSw); go_simp); try with_reducible rfl
  try simp only [Act.put, List.setIfInBounds_toArray, List.set_cons_zero, List.set_cons_succ]
  refine wpAnyT_take' (i := 2) (some 5) (v := ?_) rfl rfl (by kernel_rfl) (by kernel_rfl) (by kernel_rfl) (by decide) (fun _ _ _ h => h) (Or.inl ⟨by rfl, ?_⟩) (fun _ => hS0) hT0 ?_
  rotate_left
  · (intro w hSw; (try dsimp only at hSw); go_simp); try with_reducible rfl
  try simp only [Act.put, List.setIfInBounds_toArray, List.set_cons_zero, List.set_cons_succ]
  refine wpAnyT_take (i := 3) (some 6) (v := ?_) rfl rfl (by kernel_rfl) (by kernel_rfl) (by kernel_rfl) (by kernel_rfl) (by kernel_rfl) (fun _ _ _ h => h) (Or.inl ⟨by rfl, ?_⟩) hS0 hT0 ?_
  rotate_left
  · (intro w hSw; (try dsimp only at hSw); go_simp); try with_reducible rfl
  try simp only [Act.put, List.setIfInBounds_toArray, List.set_cons_zero, List.set_cons_succ]
  refine wpAnyT_take' (i := 5) (some 8) (v := ?_) rfl rfl (by kernel_rfl) (by kernel_rfl) (by kernel_rfl) (by decide) (fun _ _ _ h => h) (Or.inl ⟨by rfl, ?_⟩) (fun _ => hS0) hT0 ?_
  rotate_left
  · (intro w hSw; (try dsimp only at hSw); go_simp); try with_reducible rfl
  try simp only [Act.put, List.setIfInBounds_toArray, List.set_cons_zero, List.set_cons_succ]
  refine wpAnyT_take' (i := 6) (some 9) (v := ?_) rfl rfl (by kernel_rfl) (by kernel_rfl) (by kernel_rfl) (by decide) (fun _ _ _ h => h) (Or.inl ⟨by rfl, ?_⟩) (fun _ => hS0) hT0 ?_
  rotate_left
  · (intro w hSw; (try dsimp only at hSw); go_simp); try with_reducible rfl
  try simp only [Act.put, List.setIfInBounds_toArray, List.set_cons_zero, List.set_cons_succ]
  refine wpAnyT_take (i := 7) (some 10) (v := ?_) rfl rfl (by kernel_rfl) (by kernel_rfl) (by kernel_rfl) (by kernel_rfl) (by kernel_rfl) (fun _ _ _ h => h) (Or.inl ⟨by rfl, ?_⟩) hS0 hT0 ?_
  rotate_left
  · (intro w hSw; (try dsimp only at hSw); go_simp); try with_reducible rfl
  try simp only [Act.put, List.setIfInBounds_toArray, List.set_cons_zero, List.set_cons_succ]
  refine wpAnyT_one (i := 4) (by kernel_rfl) rfl (fun K hK => ?_)
  go_simp
  refine (clone_o _ _ _ s.xs _ (h1.ext (by repeat (first | with_reducible exact Ext.refl _ | with_reducible assumption | (with_reducible refine Ext.alloc ?_ _) | (with_reducible refine Ext.drew ?_) | (with_reducible refine Ext.drewN ?_ _) | (with_reducible refine Ext.set ?_ (by first | (simp; done) | (simp; omega)) _) | (with_reducible refine Ext.trans ?_ (by with_reducible assumption)))))).mono ?_
  rintro e w1 ⟨v1, rfl, E1, ho1⟩
  obtain ⟨a5, m5, c5, rfl⟩ := own_sl ho1
  try simp only []
  have hT1 : w1.cell? ⟨nb, 0, none⟩ = some (.int .u8 s.op) ∧ w1.cell? ⟨nb, 1, none⟩ = some (.int .i64 s.a) ∧ w1.cell? ⟨nb, 2, none⟩ = some (.int .i64 s.b) ∧ w1.cell? ⟨nb, 3, none⟩ = some (.bool s.neg) := ⟨E1.cell z0, E1.cell z1, E1.cell z2, E1.cell z3⟩
  have hS1 : w1.cell? ⟨nb, 4, none⟩ = some (.slice a1 n1 c1) ∧ w1.cell? ⟨nb, 5, none⟩ = some (.slice a2 n2 c2) := ⟨E1.cell z4, E1.cell z5⟩
  refine hK _ _ (fun _ => hS1) hT1 ?_
  clear hK K
  try simp only [Act.put, List.setIfInBounds_toArray, List.set_cons_zero, List.set_cons_succ]
  refine wpAnyT_take' (i := 9) (some 12) (v := ?_) rfl rfl (by kernel_rfl) (by kernel_rfl) (by kernel_rfl) (by decide) (fun _ _ _ h => h) (Or.inl ⟨by rfl, ?_⟩) (fun _ => hS1) hT1 ?_
  rotate_left
  · (intro w hSw; (try dsimp only at hSw); go_simp); try with_reducible rfl
  try simp only [Act.put, List.setIfInBounds_toArray, List.set_cons_zero, List.set_cons_succ]
  refine wpAnyT_take' (i := 10) (some 13) (v := ?_) rfl rfl (by kernel_rfl) (by kernel_rfl) (by kernel_rfl) (by decide) (fun _ _ _ h => h) (Or.inl ⟨by rfl, ?_⟩) (fun _ => hS1) hT1 ?_
  rotate_left
  · (intro w hSw; (try dsimp only at hSw); go_simp); try with_reducible rfl
  try simp only [Act.put, List.setIfInBounds_toArray, List.set_cons_zero, List.set_cons_succ]
  refine wpAnyT_take' (i := 11) (some 14) (v := ?_) rfl rfl (by kernel_rfl) (by kernel_rfl) (by kernel_rfl) (by decide) (fun _ _ _ h => h) (Or.inl ⟨by rfl, ?_⟩) (fun _ => hS1) hT1 ?_
  rotate_left
  · (intro w hSw; (try dsimp only at hSw); go_simp); try with_reducible rfl
  try simp only [Act.put, List.setIfInBounds_toArray, List.set_cons_zero, List.set_cons_succ]
  refine wpAnyT_one (i := 8) (by kernel_rfl) rfl (fun K hK => ?_)
  go_simp
  refine (clone_o _ _ _ s.ys _ (h2.ext (by repeat (first | with_reducible exact Ext.refl _ | with_reducible assumption | (with_reducible refine Ext.alloc ?_ _) | (with_reducible refine Ext.drew ?_) | (with_reducible refine Ext.drewN ?_ _) | (with_reducible refine Ext.set ?_ (by first | (simp; done) | (simp; omega)) _) | (with_reducible refine Ext.trans ?_ (by with_reducible assumption)))))).mono ?_
  rintro e w2 ⟨v2, rfl, E2, ho2⟩
  obtain ⟨a6, m6, c6, rfl⟩ := own_sl ho2
  try simp only []
  have hT2 : w2.cell? ⟨nb, 0, none⟩ = some (.int .u8 s.op) ∧ w2.cell? ⟨nb, 1, none⟩ = some (.int .i64 s.a) ∧ w2.cell? ⟨nb, 2, none⟩ = some (.int .i64 s.b) ∧ w2.cell? ⟨nb, 3, none⟩ = some (.bool s.neg) := ⟨E2.cell hT1.1, E2.cell hT1.2.1, E2.cell hT1.2.2.1, E2.cell hT1.2.2.2⟩
  have hS2 : w2.cell? ⟨nb, 4, none⟩ = some (.slice a1 n1 c1) ∧ w2.cell? ⟨nb, 5, none⟩ = some (.slice a2 n2 c2) := ⟨E2.cell hS1.1, E2.cell hS1.2⟩
  refine hK _ _ (fun _ => hS2) hT2 ?_
  clear hK K
  try simp only [Act.put, List.setIfInBounds_toArray, List.set_cons_zero, List.set_cons_succ]
  obtain ⟨g4, g5⟩ := hS2
  have hfr4 : w2.frozen? ⟨nb, 4, none⟩ = false := ((E1.trans E2).frozen (p := ⟨nb, 4, none⟩) z4).trans hf4
  have hfr5 : w2.frozen? ⟨nb, 5, none⟩ = false := ((E1.trans E2).frozen (p := ⟨nb, 5, none⟩) z5).trans hf5
  have kq : ∀ (p : Addr) (u x : Value), w2.cell? p = some u → p ≠ ⟨nb, 4, none⟩ → (w2.setCell ⟨nb, 4, none⟩ x).cell? p = some u := fun p u x h1 h2 => by rw [World.cell?_setCell_other _ _ _ _ (Ne.symm h2)]; exact h1
  have t0 := fun x => kq _ _ x hT2.1 (by simp)
  have t1 := fun x => kq _ _ x hT2.2.1 (by simp)
  have t2 := fun x => kq _ _ x hT2.2.2.1 (by simp)
  have t3 := fun x => kq _ _ x hT2.2.2.2 (by simp)
  have t5 := fun x => kq _ _ x g5 (by simp)
  clear kq
  refine wpAnyT_one (i := 12) (by kernel_rfl) rfl (fun K hK => ?_)
  go_simp
  have hT3 : (w2.setCell ⟨nb, 4, none⟩ (.slice a5 m5 c5)).cell? ⟨nb, 0, none⟩ = some (.int .u8 s.op) ∧ (w2.setCell ⟨nb, 4, none⟩ (.slice a5 m5 c5)).cell? ⟨nb, 1, none⟩ = some (.int .i64 s.a) ∧ (w2.setCell ⟨nb, 4, none⟩ (.slice a5 m5 c5)).cell? ⟨nb, 2, none⟩ = some (.int .i64 s.b) ∧ (w2.setCell ⟨nb, 4, none⟩ (.slice a5 m5 c5)).cell? ⟨nb, 3, none⟩ = some (.bool s.neg) := ⟨t0 _, t1 _, t2 _, t3 _⟩
  refine hK _ _ (fun h => absurd h (by decide)) hT3 ?_
  clear hK K
  try simp only [Act.put, List.setIfInBounds_toArray, List.set_cons_zero, List.set_cons_succ]
  refine wpAnyT_take' (i := 13) (some 15) (v := ?_) rfl rfl (by kernel_rfl) (by kernel_rfl) (by kernel_rfl) (by decide) (fun _ _ _ h => h) (Or.inl ⟨by rfl, ?_⟩) (fun h => absurd h (by decide)) hT3 ?_
  rotate_left
  · (intro w hSw; (try dsimp only at hSw); go_simp); try with_reducible rfl
  try simp only [Act.put, List.setIfInBounds_toArray, List.set_cons_zero, List.set_cons_succ]
  refine wpAnyT_take' (i := 14) (some 16) (v := ?_) rfl rfl (by kernel_rfl) (by kernel_rfl) (by kernel_rfl) (by decide) (fun _ _ _ h => h) (Or.inl ⟨by rfl, ?_⟩) (fun h => absurd h (by decide)) hT3 ?_
  rotate_left
  · (intro w hSw; (try dsimp only at hSw); go_simp); try with_reducible rfl
  try simp only [Act.put, List.setIfInBounds_toArray, List.set_cons_zero, List.set_cons_succ]
  have kr : ∀ (p : Addr) (u x : Value) (W : World), W.cell? p = some u → p ≠ ⟨nb, 5, none⟩ → (W.setCell ⟨nb, 5, none⟩ x).cell? p = some u := fun p u x W h1 h2 => by rw [World.cell?_setCell_other _ _ _ _ (Ne.symm h2)]; exact h1
  have s0 := fun x => kr _ _ x _ (t0 (.slice a5 m5 c5)) (by simp)
  have s1 := fun x => kr _ _ x _ (t1 (.slice a5 m5 c5)) (by simp)
  have s2 := fun x => kr _ _ x _ (t2 (.slice a5 m5 c5)) (by simp)
  have s3 := fun x => kr _ _ x _ (t3 (.slice a5 m5 c5)) (by simp)
  clear kr
  refine wpAnyT_one (i := 15) (by kernel_rfl) rfl (fun K hK => ?_)
  go_simp
  have hT4 : ((w2.setCell ⟨nb, 4, none⟩ (.slice a5 m5 c5)).setCell ⟨nb, 5, none⟩ (.slice a6 m6 c6)).cell? ⟨nb, 0, none⟩ = some (.int .u8 s.op) ∧ ((w2.setCell ⟨nb, 4, none⟩ (.slice a5 m5 c5)).setCell ⟨nb, 5, none⟩ (.slice a6 m6 c6)).cell? ⟨nb, 1, none⟩ = some (.int .i64 s.a) ∧ ((w2.setCell ⟨nb, 4, none⟩ (.slice a5 m5 c5)).setCell ⟨nb, 5, none⟩ (.slice a6 m6 c6)).cell? ⟨nb, 2, none⟩ = some (.int .i64 s.b) ∧ ((w2.setCell ⟨nb, 4, none⟩ (.slice a5 m5 c5)).setCell ⟨nb, 5, none⟩ (.slice a6 m6 c6)).cell? ⟨nb, 3, none⟩ = some (.bool s.neg) := ⟨s0 _, s1 _, s2 _, s3 _⟩
  refine hK _ _ (fun h => absurd h (by decide)) hT4 ?_
  clear hK K
  try simp only [Act.put, List.setIfInBounds_toArray, List.set_cons_zero, List.set_cons_succ]
  refine wpAnyT_done (by kernel_rfl) ?_ _
  try simp only [Act.put, List.setIfInBounds_toArray, List.set_cons_zero, List.set_cons_succ]
  have F := E1.trans E2
  have x0 := set2_cell (u := .slice a5 m5 c5) (v := .slice a6 m6 c6) (F.cell y0) hnr
  have x1 := set2_cell (u := .slice a5 m5 c5) (v := .slice a6 m6 c6) (F.cell y1) hnr
  have x2 := set2_cell (u := .slice a5 m5 c5) (v := .slice a6 m6 c6) (F.cell y2) hnr
  have x3 := set2_cell (u := .slice a5 m5 c5) (v := .slice a6 m6 c6) (F.cell y3) hnr
  have x4 := set2_cell (u := .slice a5 m5 c5) (v := .slice a6 m6 c6) (F.cell y4) hnr
  have x5 := set2_cell (u := .slice a5 m5 c5) (v := .slice a6 m6 c6) (F.cell y5) hnr
  have fz : ∀ k x, W0.cell? ⟨rb, k, none⟩ = some x → ((w2.setCell ⟨nb, 4, none⟩ (.slice a5 m5 c5)).setCell ⟨nb, 5, none⟩ (.slice a6 m6 c6)).frozen? ⟨rb, k, none⟩ = false := fun k x hx => by
    rw [World.frozen?_setCell, World.frozen?_setCell]
    exact (F.frozen (p := ⟨rb, k, none⟩) hx).trans (hfr k)
  have r0 := fz 0 _ y0
  have r1 := fz 1 _ y1
  have r2 := fz 2 _ y2
  have r3 := fz 3 _ y3
  have r4 := fz 4 _ y4
  have r5 := fz 5 _ y5
  have m4 : ((w2.setCell ⟨nb, 4, none⟩ (.slice a5 m5 c5)).setCell ⟨nb, 5, none⟩ (.slice a6 m6 c6)).cell? ⟨nb, 4, none⟩ = some (.slice a5 m5 c5) := by simp [go_sem, g4]
  have m5' : ((w2.setCell ⟨nb, 4, none⟩ (.slice a5 m5 c5)).setCell ⟨nb, 5, none⟩ (.slice a6 m6 c6)).cell? ⟨nb, 5, none⟩ = some (.slice a6 m6 c6) := by simp [go_sem, t5]
  have EF : Ext w ((w2.setCell ⟨nb, 4, none⟩ (.slice a5 m5 c5)).setCell ⟨nb, 5, none⟩ (.slice a6 m6 c6)) := Ext.set (p := ⟨nb, 5, none⟩) (Ext.set (p := ⟨nb, 4, none⟩) (E0.trans ((Ext.refl W0).drew.trans F)) hwn _) hwn _
  have hB1 : nb < W0.drew.heap.size := by show nb < W0.heap.size; rw [Hsz.out]; omega
  have o1 : Own ((w2.setCell ⟨nb, 4, none⟩ (.slice a5 m5 c5)).setCell ⟨nb, 5, none⟩ (.slice a6 m6 c6)) (rb + 1) (.slice a5 m5 c5) s.xs := ((((ho1.mono (by show rb + 1 ≤ W0.heap.size; rw [Hsz.out]; omega)).ext E2).set (p := ⟨nb, 4, none⟩) (by show nb < rb + 1; omega) _).set (p := ⟨nb, 5, none⟩) (by show nb < rb + 1; omega) _)
  have o2 : Own ((w2.setCell ⟨nb, 4, none⟩ (.slice a5 m5 c5)).setCell ⟨nb, 5, none⟩ (.slice a6 m6 c6)) (rb + 1) (.slice a6 m6 c6) s.ys := (((ho2.mono (by have := E1.size; rw [show W0.drew.heap.size = W0.heap.size from rfl, Hsz.out] at this; exact this)).set (p := ⟨nb, 4, none⟩) (by show nb < rb + 1; omega) _).set (p := ⟨nb, 5, none⟩) (by show nb < rb + 1; omega) _)
  have q0 := s0 (.slice a6 m6 c6)
  have q1 := s1 (.slice a6 m6 c6)
  have q2 := s2 (.slice a6 m6 c6)
  have q3 := s3 (.slice a6 m6 c6)
  obtain ⟨W1, hW1⟩ : ∃ W1, W1 = (w2.setCell ⟨nb, 4, none⟩ (.slice a5 m5 c5)).setCell ⟨nb, 5, none⟩ (.slice a6 m6 c6) := ⟨_, rfl⟩
  rw [← hW1] at x0 x1 x2 x3 x4 x5 r0 r1 r2 r3 r4 r5 m4 m5' EF o1 o2 q0 q1 q2 q3 ⊢
  clear hW1 fz F E1 E2 ho1 ho2 h1 h2 s0 s1 s2 s3 t0 t1 t2 t3 t5 g4 g5 hfr4 hfr5 y0 y1 y2 y3 y4 y5 z0 z1 z2 z3 z4 z5 hT0 hS0 hT1 hS1 hT2 hT3 hT4 hfr E0 hf4 hf5
  have S6 : ∀ {V : World} {v : Value} {L : List Nat}, Own V (rb + 1) v L → ∀ u0 u1 u2 u3 u4 u5, Own ((((((V.setCell ⟨rb, 0, none⟩ u0).setCell ⟨rb, 1, none⟩ u1).setCell ⟨rb, 2, none⟩ u2).setCell ⟨rb, 3, none⟩ u3).setCell ⟨rb, 4, none⟩ u4).setCell ⟨rb, 5, none⟩ u5) w.heap.size v L := fun h u0 u1 u2 u3 u4 u5 =>
    ((((((h.set (p := ⟨rb, 0, none⟩) (Nat.lt_succ_self _) u0).set (p := ⟨rb, 1, none⟩) (Nat.lt_succ_self _) u1).set (p := ⟨rb, 2, none⟩) (Nat.lt_succ_self _) u2).set (p := ⟨rb, 3, none⟩) (Nat.lt_succ_self _) u3).set (p := ⟨rb, 4, none⟩) (Nat.lt_succ_self _) u4).set (p := ⟨rb, 5, none⟩) (Nat.lt_succ_self _) u5).mono (by omega)
  go_wp2
  exact bodyPost_ret (v := .agg #[.int .u8 s.op, .int .i64 s.a, .int .i64 s.b, .bool s.neg, .slice a5 m5 c5, .slice a6 m6 c6]) (by simp [results, Tryz.results38, go_sem, x0, x1, x2, x3, x4, x5]) rfl (Post.mk (Ext.set (p := ⟨rb, 5, none⟩) (Ext.set (p := ⟨rb, 4, none⟩) (Ext.set (p := ⟨rb, 3, none⟩) (Ext.set (p := ⟨rb, 2, none⟩) (Ext.set (p := ⟨rb, 1, none⟩) (Ext.set (p := ⟨rb, 0, none⟩) EF hwr _) hwr _) hwr _) hwr _) hwr _) hwr _) ⟨_, _, rfl, S6 o1 _ _ _ _ _ _, S6 o2 _ _ _ _ _ _⟩)
end Go.Proofs.YtbncdghbnnefdaaGreat

namespace Go.Proofs.YtbncdghbnnefdaaGreat
open Go.RowKit

/-- The cells of tells. -/
def rowT (T : List (ByteArray × Int)) : List Value := T.flatMap fun t => [.string t.1, .int .i64 t.2]
theorem rowT_len (T : List (ByteArray × Int)) : (rowT T).length = T.length * 2 := by
  induction T with
  | nil => rfl
  | cons t T ih => show (.string t.1 :: .int .i64 t.2 :: rowT T : List Value).length = _; simp [ih]; omega
theorem rowT_at (T : List (ByteArray × Int)) : ∀ (i : Nat) (t : ByteArray × Int), T[i]? = some t → (rowT T)[i * 2]? = some (.string t.1) ∧ (rowT T)[i * 2 + 1]? = some (.int .i64 t.2) := by
  induction T with
  | nil => intro i t h; cases h
  | cons s T ih =>
    intro i t h
    show (.string s.1 :: .int .i64 s.2 :: rowT T : List Value)[i * 2]? = _ ∧ (.string s.1 :: .int .i64 s.2 :: rowT T : List Value)[i * 2 + 1]? = _
    cases i with
    | zero => cases h; exact ⟨rfl, rfl⟩
    | succ i =>
      have := ih i t (by simpa using h)
      rw [show (i + 1) * 2 = i * 2 + 1 + 1 from by omega, show i * 2 + 1 + 1 + 1 = i * 2 + 1 + 1 + 1 from rfl]
      simpa using this
theorem rowT_one (T : List (ByteArray × Int)) : ∀ u ∈ rowT T, u.oneCell' = true := by
  intro u hu
  obtain ⟨t, _, h⟩ := List.mem_flatMap.1 hu
  simp at h
  rcases h with rfl | rfl <;> rfl
theorem rowT_get (T : List (ByteArray × Int)) (j : Nat) (u : Value) (h : (rowT T)[j]? = some u) : ∃ i t, T[i]? = some t ∧ ((j = i * 2 ∧ u = .string t.1) ∨ (j = i * 2 + 1 ∧ u = .int .i64 t.2)) := by
  have hj := (List.getElem?_eq_some_iff.1 h).1
  rw [rowT_len] at hj
  have hi : j / 2 < T.length := by omega
  refine ⟨j / 2, T[j / 2], List.getElem?_eq_getElem hi, ?_⟩
  obtain ⟨h1, h2⟩ := rowT_at T (j / 2) _ (List.getElem?_eq_getElem hi)
  rcases Nat.mod_two_eq_zero_or_one j with hm | hm
  · left
    have e : j = j / 2 * 2 := by omega
    rw [← e, h] at h1
    cases h1
    exact ⟨e, rfl⟩
  · right
    have e : j = j / 2 * 2 + 1 := by omega
    rw [← e, h] at h2
    cases h2
    exact ⟨e, rfl⟩
theorem Tells.cells {w : World} {a : Option Addr} {n c : Nat} {T : List (ByteArray × Int)} (h : Tells w a n c T) : CellsAt w a (rowT T) := by
  rcases h.at_ with h0 | ⟨b, off, ha, hc⟩
  · left
    have := h.len
    rw [h0] at this
    rw [List.eq_nil_of_length_eq_zero this]
    rfl
  · right
    refine ⟨_, ha, fun j u hj => ?_⟩
    obtain ⟨i, t, ht, h | h⟩ := rowT_get T j u hj
    · obtain ⟨rfl, rfl⟩ := h
      rw [addr_add]
      exact (hc i t ht).1
    · obtain ⟨rfl, rfl⟩ := h
      rw [addr_add]
      exact (hc i t ht).2
/-- A row of tells of one's own. -/
def OwnT (w : World) (B : Nat) (v : Value) (T : List (ByteArray × Int)) : Prop := w.ownsRow B 57 2 v T.length (rowT T)
theorem OwnT.tells {w : World} {B : Nat} {v : Value} {T : List (ByteArray × Int)} (h : OwnT w B v T) (hf : T.length ≤ 65536) : ∃ a c, v = .slice a T.length c ∧ Tells w a T.length c T := by
  rcases h.2 with ⟨rfl, h0⟩ | ⟨g, cap, cur, rfl, hb, hg, h1, h2, h3, h4⟩
  · exact ⟨none, 0, by rw [h0], ⟨rfl, hf, .inl h0⟩⟩
  · refine ⟨_, _, rfl, ⟨rfl, hf, .inr ⟨g, 0, rfl, fun i t ht => ?_⟩⟩⟩
    have hc : ∀ j u, (rowT T)[j]? = some u → w.cell? ⟨g, 0 + j, none⟩ = some u := fun j u hj => by
      rw [← h4] at hj
      have hj' := (List.getElem?_eq_some_iff.1 hj).1
      simp at hj'
      rw [List.getElem?_take_of_lt (by omega)] at hj
      simp only [World.cell?, hg, Nat.zero_add]
      simpa using hj
    exact ⟨hc _ _ (rowT_at T i t ht).1, by rw [Nat.add_assoc]; exact hc _ _ (rowT_at T i t ht).2⟩
theorem OwnT.ext {w w' : World} {B : Nat} {v : Value} {T : List (ByteArray × Int)} (h : OwnT w B v T) (e : Ext w w') : OwnT w' B v T := by
  refine ⟨h.1, ?_⟩
  rcases h.2 with h0 | ⟨g, cap, cur, h0, h1, h2, h3⟩
  · exact .inl h0
  · exact .inr ⟨g, cap, cur, h0, h1, e.block h2, h3⟩
theorem info_tell : (Tryz.prog.info? 57).map (fun i => (i.zero, i.size, i.bytes)) = some (some (.agg #[.string ⟨#[]⟩, .int .i64 0]), 2, 24) := by kernel_rfl
set_option maxHeartbeats 400000 in
theorem clone_t (a : Option Addr) (n c : Nat) (T : List (ByteArray × Int)) (w : World) (h : Tells w a n c T) :
    Calls Tryz.prog 37 #[.slice a n c] w (Post w fun v w' => OwnT w' w.heap.size v T) := by
  obtain ⟨i0, hi, hz0, hz1, hz2⟩ := info_parts info_tell
  obtain rfl := h.len
  have hfew := h.few
  have e1 := fun w => Lib.run_eql_slice_nil (P := Tryz.prog) w 51 57 a T.length c 0 0 Tryz.underlying51
  by_cases ha : a = none
  · subst ha
    have h0 : T.length = 0 := by rcases h.at_ with h0 | ⟨b, off, ha, _⟩; exact h0; cases ha
    go_enter Tryz.func37, Tryz.ntmps37
    have H0 := Lib.hid h0
    clear h0
    go_wp2
    go_ret
    refine Post.mk (Ext.refl _) ?_
    rw [List.eq_nil_of_length_eq_zero H0.out]
    exact World.ownsRow_nil _ _ _ _
  · have ha' : a.isNone = false := by cases a <;> simp_all
    go_enter Tryz.func37, Tryz.ntmps37
    go_wp2_with (at_builtin; refine wpList_app w (Ext.of_alloc _ _) rfl _ _ 51 rfl 57 i0 (.agg #[.string ⟨#[]⟩, .int .i64 0]) 2 24 Tryz.underlying51 hi hz0 hz1 hz2 rfl (by decide) _ 0 [] rfl (World.ownsRow_made w _ _ (Nat.le_refl _) (by decide) (by simp)) a T.length c (rowT T) rfl (rowT_len T) (h.cells.ext (Ext.of_alloc _ _)) (rowT_one T) (by omega) (by omega) ?_; intro v' w1 hown hext _)
    go_ret
    rw [Nat.zero_add, List.nil_append] at hown
    exact Post.mk hext hown
end Go.Proofs.YtbncdghbnnefdaaGreat

namespace Go.Proofs.YtbncdghbnnefdaaGreat
open Go.RowKit

theorem Ext.both_set {A w : World} {p : Addr} {u : Value} (h : Ext (A.setCell p u) w) (u' : Value) : Ext (A.setCell p u') (w.setCell p u') := by
  have hs : ∀ x, (A.setCell p x).heap.size = A.heap.size := fun x => by simp [World.setCell]
  refine ⟨h.os, h.tape, h.output, ?_, fun k hk => ?_⟩
  · rw [hs, World.size_setCell]; have := h.size; rw [hs] at this; exact this
  · rw [hs] at hk
    have h1 := Below.block h k (by rw [hs]; exact hk)
    simp only [World.setCell, Array.getElem?_modify] at h1 ⊢
    by_cases e : p.block = k
    · rw [if_pos e] at h1 ⊢
      rw [if_pos e, h1]
      cases A.heap[k]? with
      | none => rfl
      | some o =>
        cases o with
        | cells cs t fr =>
          simp only [Option.map_some]
          congr 2
          split <;> simp [*]
        | _ => rfl
    · rw [if_neg e] at h1 ⊢
      rw [if_neg e]
      exact h1
theorem set_same {w : World} {p : Addr} {u : Value} (h : w.cell? p = some u) : Ext (w.setCell p u) w := by
  refine ⟨rfl, rfl, rfl, by simp, fun k hk => ?_⟩
  simp only [World.setCell, Array.getElem?_modify]
  by_cases e : p.block = k
  · rw [if_pos e]
    subst e
    unfold World.cell? at h
    cases hb : w.heap[p.block]? with
    | none => rfl
    | some o =>
      rw [hb] at h
      cases o with
      | cells cs t fr =>
        simp only [Option.map_some]
        simp only at h
        split at h
        · cases h
        · rename_i hs
          rw [if_neg hs]
          congr 2
          apply Array.ext (by simp)
          intro i h1 h2
          by_cases e : p.off = i
          · subst e
            rw [Array.getElem_setIfInBounds_self]
            rw [Array.getElem?_eq_getElem h1] at h
            exact Option.some.inj h
          · rw [Array.getElem_setIfInBounds_ne _ e]
      | _ => rfl
  · rw [if_neg e]
/-- A step's numbers are limbs, and few. -/
def Few (s : Step) : Prop := s.op < 256 ∧ s.xs.length ≤ 2048 ∧ s.ys.length ≤ 2048 ∧ (∀ x ∈ s.xs, x < B64) ∧ ∀ x ∈ s.ys, x < B64
theorem IsStep.fewS {w : World} {v : Value} {s : Step} (h : IsStep w v s) : Few s := by
  obtain ⟨a1, n1, c1, a2, n2, c2, rfl, h1, h2, h3, h4, h5⟩ := h
  exact ⟨h3, by rw [h1.len]; exact h4, by rw [h2.len]; exact h5, h1.lt, h2.lt⟩
theorem OwnStep.is {w : World} {B : Nat} {v : Value} {s : Step} (h : OwnStep w B v s) (hf : Few s) : IsStep w v s := by
  obtain ⟨v1, v2, rfl, h1, h2⟩ := h
  obtain ⟨f0, f1, f2, f3, f4⟩ := hf
  obtain ⟨a1, c1, rfl, n1, _⟩ := h1.nums (by omega) f3
  obtain ⟨a2, c2, rfl, n2, _⟩ := h2.nums (by omega) f4
  exact ⟨a1, _, c1, a2, _, c2, rfl, n1, n2, f0, f1, f2⟩
theorem Own.grown {w w' : World} {B C n : Nat} {v rv : Value} {L : List Nat} {xs : List Value} (h : Own w B v L) (ho : w.ownsRow C 78 6 rv n xs) (hg : w.grownBy w' rv.ownBlock) : Own w' B v L := by
  refine ⟨h.1, ?_⟩
  rcases h.2 with h0 | ⟨g, cap, cur, h0, h1, h2, h3⟩
  · exact .inl h0
  · refine .inr ⟨g, cap, cur, h0, h1, ?_, h3⟩
    rw [hg.block g (Array.getElem?_eq_some_iff.1 h2).1 ?_]
    · exact h2
    · intro e
      rcases ho.2 with ⟨rfl, _⟩ | ⟨g', cap', cur', rfl, _, k2, _⟩
      · cases e
      · cases e
        rw [h2] at k2
        simp at k2
theorem OwnStep.grown {w w' : World} {B C n : Nat} {v rv : Value} {s : Step} {xs : List Value} (h : OwnStep w B v s) (ho : w.ownsRow C 78 6 rv n xs) (hg : w.grownBy w' rv.ownBlock) : OwnStep w' B v s := by
  obtain ⟨v1, v2, rfl, h1, h2⟩ := h
  exact ⟨v1, v2, rfl, h1.grown ho hg, h2.grown ho hg⟩
theorem OwnStep.ext {w w' : World} {B : Nat} {v : Value} {s : Step} (h : OwnStep w B v s) (e : Ext w w') : OwnStep w' B v s := by
  obtain ⟨v1, v2, rfl, h1, h2⟩ := h
  exact ⟨v1, v2, rfl, h1.ext e, h2.ext e⟩
theorem OwnStep.mono {w : World} {B B' : Nat} {v : Value} {s : Step} (h : OwnStep w B v s) (hb : B' ≤ B) : OwnStep w B' v s := by
  obtain ⟨v1, v2, rfl, h1, h2⟩ := h
  exact ⟨v1, v2, rfl, h1.mono hb, h2.mono hb⟩
theorem OwnStep.set {w : World} {B : Nat} {v : Value} {s : Step} (h : OwnStep w B v s) {p : Addr} (hp : p.block < B) (u : Value) : OwnStep (w.setCell p u) B v s := by
  obtain ⟨v1, v2, rfl, h1, h2⟩ := h
  exact ⟨v1, v2, rfl, h1.set hp u, h2.set hp u⟩

/-- A row of steps of one's own, each in memory of its own. -/
structure ORow (w : World) (B : Nat) (v : Value) (L : List Step) (cells : List Value) : Prop where
  own : OwnsU w B 78 6 v L.length cells
  steps : ∀ (i : Nat) (s : Step), L[i]? = some s → ∃ u : Array Value, OwnStep w B (.agg u) s ∧ (cells.drop (6 * i)).take 6 = u.toList
theorem ORow.nil (w : World) (B : Nat) : ORow w B (.slice none 0 0) [] [] := ⟨OwnsU.nil _ _ _ _, fun i s h => by cases h⟩
theorem ownsRow_ext {w w' : World} {B e size n : Nat} {v : Value} {xs : List Value} (h : w.ownsRow B e size v n xs) (x : Ext w w') : w'.ownsRow B e size v n xs := by
  refine ⟨h.1, ?_⟩
  rcases h.2 with h0 | ⟨g, cap, cur, h0, h1, h2, h3⟩
  · exact .inl h0
  · exact .inr ⟨g, cap, cur, h0, h1, x.block h2, h3⟩
theorem ownsRow_set {w : World} {B e size n : Nat} {v : Value} {xs : List Value} (h : w.ownsRow B e size v n xs) {p : Addr} (hp : p.block < B) (u : Value) : (w.setCell p u).ownsRow B e size v n xs := by
  refine ⟨h.1, ?_⟩
  rcases h.2 with h0 | ⟨g, cap, cur, h0, h1, h2, h3⟩
  · exact .inl h0
  · refine .inr ⟨g, cap, cur, h0, h1, ?_, h3⟩
    simp only [World.setCell, Array.getElem?_modify]
    rw [if_neg (by omega)]
    exact h2
theorem ORow.ext {w w' : World} {B : Nat} {v : Value} {L : List Step} {cells : List Value} (h : ORow w B v L cells) (e : Ext w w') : ORow w' B v L cells :=
  ⟨h.own.kept fun k hk => Below.block e k (h.own.lt k hk).2, fun i s hi => (h.steps i s hi).imp fun _ hu => ⟨hu.1.ext e, hu.2⟩⟩
theorem ORow.set {w : World} {B : Nat} {v : Value} {L : List Step} {cells : List Value} (h : ORow w B v L cells) {p : Addr} (hp : p.block < B) (u : Value) : ORow (w.setCell p u) B v L cells :=
  ⟨h.own.kept fun k hk => by have := (h.own.lt k hk).1; simp only [World.setCell, Array.getElem?_modify]; rw [if_neg (by omega)], fun i s hi => (h.steps i s hi).imp fun _ hx => ⟨hx.1.set hp u, hx.2⟩⟩
theorem ORow.grow {w w' : World} {B : Nat} {v v' : Value} {L : List Step} {cells : List Value} {u : Array Value} {s : Step} (h : ORow w B v L cells) (hu : OwnStep w B (.agg u) s) (hsz : u.size = 6)
    (ho : OwnsU w' B 78 6 v' (L.length + 1) (cells ++ u.toList)) (hg : w.grownBy w' v.ownBlock) : ORow w' B v' (L ++ [s]) (cells ++ u.toList) := by
  have hl := h.own.1.1
  refine ⟨by rw [List.length_append]; exact ho, fun i t hi => ?_⟩
  by_cases e : i < L.length
  · rw [List.getElem?_append_left e] at hi
    obtain ⟨x, h1, h2⟩ := h.steps i t hi
    refine ⟨x, h1.grown h.own.1 hg, ?_⟩
    rw [List.drop_append_of_le_length (by omega), List.take_append_of_le_length (by simp; omega)]
    exact h2
  · rw [List.getElem?_append_right (by omega)] at hi
    have e' : i = L.length := by have := (List.getElem?_eq_some_iff.1 hi).1; simp at this; omega
    subst e'
    simp at hi
    subst hi
    refine ⟨u, hu.grown h.own.1 hg, ?_⟩
    rw [show 6 * L.length = cells.length from by omega, List.drop_left, List.take_of_length_le (by simp; omega)]

theorem ownsRow_cell {w : World} {B e size n : Nat} {a : Option Addr} {c : Nat} {xs : List Value} (h : w.ownsRow B e size (.slice a n c) n xs) (hn : xs ≠ []) : ∃ g, a = some ⟨g, 0, none⟩ ∧ B ≤ g ∧ ∀ j u, xs[j]? = some u → w.cell? ⟨g, j, none⟩ = some u := by
  rcases h.2 with ⟨hv, h0⟩ | ⟨g, cap, cur, hv, hb, hg, h1, h2, h3, h4⟩
  · exact absurd (List.eq_nil_of_length_eq_zero (by rw [h.1, h0, Nat.zero_mul])) hn
  · cases hv
    refine ⟨g, rfl, hb, fun j u hj => ?_⟩
    rw [← h4] at hj
    have hj' := (List.getElem?_eq_some_iff.1 hj).1
    simp at hj'
    rw [List.getElem?_take_of_lt (by omega)] at hj
    simp only [World.cell?, hg]
    simpa using hj
theorem steps_of {w : World} {B : Nat} {a : Option Addr} {c : Nat} {L : List Step} {cells : List Value} (h : w.ownsRow B 78 6 (.slice a L.length c) L.length cells) (hf : L.length ≤ 65536)
    (hs : ∀ (i : Nat) (s : Step), L[i]? = some s → ∃ u : Array Value, IsStep w (.agg u) s ∧ (cells.drop (6 * i)).take 6 = u.toList) : Steps w a L.length c L := by
  refine ⟨rfl, hf, ?_⟩
  by_cases e : cells = []
  · left
    have := h.1
    rw [e] at this
    simp at this
    omega
  · obtain ⟨g, rfl, _, hc⟩ := ownsRow_cell h e
    refine .inr ⟨g, 0, rfl, fun i s hi => ?_⟩
    obtain ⟨u, ⟨a1, n1, c1, a2, n2, c2, hu, h1, h2, h3⟩, ht⟩ := hs i s hi
    cases hu
    have key : ∀ k v, k < 6 → (#[Value.int .u8 s.op, .int .i64 s.a, .int .i64 s.b, .bool s.neg, .slice a1 n1 c1, .slice a2 n2 c2] : Array Value).toList[k]? = some v → w.cell? ⟨g, 0 + i * 6 + k, none⟩ = some v := fun k v hk hv => by
      rw [← ht, List.getElem?_take_of_lt hk, List.getElem?_drop] at hv
      rw [show 0 + i * 6 + k = 6 * i + k from by omega]
      exact hc _ _ hv
    exact ⟨a1, n1, c1, a2, n2, c2, key 0 _ (by omega) rfl, key 1 _ (by omega) rfl, key 2 _ (by omega) rfl, key 3 _ (by omega) rfl, key 4 _ (by omega) rfl, key 5 _ (by omega) rfl, h1, h2, h3⟩
theorem Mk.rowSteps {w : World} {B pb mb bud pars gp : Nat} {row : Value} {L : List Step} (h : Mk w B pb mb row bud pars gp L) : ∃ a c, row = .slice a L.length c ∧ Steps w a L.length c L := by
  obtain ⟨a, c, hr⟩ := h.row_form
  subst hr
  obtain ⟨cells, ho, hs⟩ := h.steps
  have := h.good.len
  have := h.good.bud1
  exact ⟨a, c, rfl, steps_of ho.1 (by omega) hs⟩
theorem ORow.form {w : World} {B : Nat} {v : Value} {L : List Step} {cells : List Value} (h : ORow w B v L cells) : ∃ a c, v = .slice a L.length c := by
  rcases h.own.1.2 with ⟨e, e0⟩ | ⟨g, cap, cur, e, _⟩
  · exact ⟨none, 0, by rw [e, e0]⟩
  · exact ⟨_, cap, e⟩
theorem Mk.fewL {w : World} {B pb mb bud pars gp : Nat} {row : Value} {L : List Step} (h : Mk w B pb mb row bud pars gp L) : ∀ s ∈ L, Few s := fun s hs => by
  obtain ⟨i, hi⟩ := List.getElem?_of_mem hs
  obtain ⟨cells, _, hst⟩ := h.steps
  obtain ⟨v, h1, _⟩ := hst i s hi
  exact h1.fewS
theorem ORow.rowSteps {w : World} {B : Nat} {v : Value} {L : List Step} {cells : List Value} (h : ORow w B v L cells) (hf : ∀ s ∈ L, Few s) (hl : L.length ≤ 65536) : ∃ a c, v = .slice a L.length c ∧ Steps w a L.length c L := by
  have hv : ∃ a c, v = .slice a L.length c := by
    rcases h.own.1.2 with ⟨e, e0⟩ | ⟨g, cap, cur, e, _⟩
    · exact ⟨none, 0, by rw [e, e0]⟩
    · exact ⟨_, cap, e⟩
  obtain ⟨a, c, rfl⟩ := hv
  exact ⟨a, c, rfl, steps_of h.own.1 hl fun i s hi => (h.steps i s hi).imp fun u hu => ⟨hu.1.is (hf s (List.mem_of_getElem? hi)), hu.2⟩⟩
end Go.Proofs.YtbncdghbnnefdaaGreat

namespace Go.Proofs.YtbncdghbnnefdaaGreat
open Go.RowKit

theorem OwnsU.mono {w : World} {B B' : Nat} {e : TypeId} {size : Nat} {v : Value} {n : Nat} {xs : List Value} (h : OwnsU w B e size v n xs) (hb : B' ≤ B) : OwnsU w B' e size v n xs := by
  refine ⟨⟨h.1.1, ?_⟩, h.2⟩
  rcases h.1.2 with h0 | ⟨g, cap, cur, h0, h1, h2, h3⟩
  · exact .inl h0
  · exact .inr ⟨g, cap, cur, h0, by omega, h2, h3⟩
theorem ORow.mono {w : World} {B B' : Nat} {v : Value} {L : List Step} {cells : List Value} (h : ORow w B v L cells) (hb : B' ≤ B) : ORow w B' v L cells :=
  ⟨h.own.mono hb, fun i s hi => (h.steps i s hi).imp fun _ hu => ⟨hu.1.mono hb, hu.2⟩⟩
/-- The zero tape. -/
def zeroT : Value := .agg #[.int .i64 0, .int .i64 0, .slice none 0 0, .slice none 0 0]
/-- What Tape answers. -/
def TapeRes (pars : Nat) (out : Int) (L : List Step) (T : List (ByteArray × Int)) (B : Nat) (v : Value) (w : World) : Prop :=
  (checkP pars out L T = 0 → ∃ rv tv cells, v = .tuple #[.agg #[.int .i64 pars, .int .i64 out, rv, tv], .int .i64 0] ∧ ORow w B rv L cells ∧ OwnT w B tv T) ∧
  (checkP pars out L T ≠ 0 → v = .tuple #[zeroT, .int .i64 2])
/-- Two ways that join. -/
theorem two_ways {A G : World → Nat → Option Addr → Nat → Nat → Prop} {X : Prop} (h1 : (∀ W tb a n c, A W tb a n c → G W tb a n c) → X) (h2 : ∀ W tb a n c, A W tb a n c → G W tb a n c) : X := h1 h2
theorem ownT_sl {w : World} {B : Nat} {v : Value} {T : List (ByteArray × Int)} (h : OwnT w B v T) : ∃ a n c, v = .slice a n c := by
  rcases h.2 with ⟨h, _⟩ | ⟨g, cap, cur, h, _⟩
  · exact ⟨_, _, _, h⟩
  · exact ⟨_, _, _, h⟩
theorem OwnT.set {w : World} {B : Nat} {v : Value} {T : List (ByteArray × Int)} (h : OwnT w B v T) {p : Addr} (hp : v.ownBlock ≠ some p.block) (u : Value) : OwnT (w.setCell p u) B v T := by
  refine ⟨h.1, ?_⟩
  rcases h.2 with h0 | ⟨g, cap, cur, rfl, h1, h2, h3⟩
  · exact .inl h0
  · refine .inr ⟨g, cap, cur, rfl, h1, ?_, h3⟩
    simp only [World.setCell, Array.getElem?_modify]
    rw [if_neg (fun e => hp (by rw [← e]; rfl))]
    exact h2
theorem OwnT.mono {w : World} {B B' : Nat} {v : Value} {T : List (ByteArray × Int)} (h : OwnT w B v T) (hb : B' ≤ B) : OwnT w B' v T := by
  refine ⟨h.1, ?_⟩
  rcases h.2 with h0 | ⟨g, cap, cur, h0, h1, h2, h3⟩
  · exact .inl h0
  · exact .inr ⟨g, cap, cur, h0, by omega, h2, h3⟩
/-- Four cells are told. -/
abbrev set4 (V : World) (tb : Nat) (u0 u1 u2 u3 : Value) : World := (((V.setCell ⟨tb, 0, none⟩ u0).setCell ⟨tb, 1, none⟩ u1).setCell ⟨tb, 2, none⟩ u2).setCell ⟨tb, 3, none⟩ u3
theorem set4_cells {V : World} {tb : Nat} {x0 x1 x2 x3 u0 u1 u2 u3 : Value} (h0 : V.cell? ⟨tb, 0, none⟩ = some x0) (h1 : V.cell? ⟨tb, 1, none⟩ = some x1) (h2 : V.cell? ⟨tb, 2, none⟩ = some x2) (h3 : V.cell? ⟨tb, 3, none⟩ = some x3) (hf : ∀ k, V.frozen? ⟨tb, k, none⟩ = false) :
    (set4 V tb u0 u1 u2 u3).cell? ⟨tb, 0, none⟩ = some u0 ∧ (set4 V tb u0 u1 u2 u3).cell? ⟨tb, 1, none⟩ = some u1 ∧ (set4 V tb u0 u1 u2 u3).cell? ⟨tb, 2, none⟩ = some u2 ∧ (set4 V tb u0 u1 u2 u3).cell? ⟨tb, 3, none⟩ = some u3 ∧ ∀ k, (set4 V tb u0 u1 u2 u3).frozen? ⟨tb, k, none⟩ = false := by
  refine ⟨?_, ?_, ?_, ?_, fun k => ?_⟩
  · simp [go_sem, h0]
  · simp [go_sem, h1]
  · simp [go_sem, h2]
  · simp [go_sem, h3]
  · simp [go_sem, hf]
/-- Behind the first lines of Tape. -/
def Made (W1 : World) (wb pars : Nat) (out : Int) (T : List (ByteArray × Int)) (W : World) (tb : Nat) (a : Option Addr) (n c : Nat) : Prop :=
  Ext W1 W ∧ W1.heap.size ≤ tb ∧ tb < W.heap.size ∧ W.cell? ⟨tb, 0, none⟩ = some (.int .i64 pars) ∧ W.cell? ⟨tb, 1, none⟩ = some (.int .i64 out) ∧ W.cell? ⟨tb, 2, none⟩ = some (.slice none 0 0) ∧ W.cell? ⟨tb, 3, none⟩ = some (.slice a n c) ∧
  (∀ k, W.frozen? ⟨tb, k, none⟩ = false) ∧ OwnT W wb (.slice a n c) T ∧ (Value.slice a n c).ownBlock ≠ some tb
theorem made_of {W1 V : World} {wb pars : Nat} {out : Int} {T : List (ByteArray × Int)} {tb : Nat} {a : Option Addr} {n c : Nat} {x0 x1 x2 x3 : Value} (h0 : V.cell? ⟨tb, 0, none⟩ = some x0) (h1 : V.cell? ⟨tb, 1, none⟩ = some x1) (h2 : V.cell? ⟨tb, 2, none⟩ = some x2) (h3 : V.cell? ⟨tb, 3, none⟩ = some x3) (hf : ∀ k, V.frozen? ⟨tb, k, none⟩ = false)
    (E : Ext W1 V) (ht : W1.heap.size ≤ tb) (ho : OwnT V wb (.slice a n c) T) (hn : (Value.slice a n c).ownBlock ≠ some tb) : Made W1 wb pars out T (set4 V tb (.int .i64 pars) (.int .i64 out) (.slice none 0 0) (.slice a n c)) tb a n c := by
  obtain ⟨k0, k1, k2, k3, k4⟩ := set4_cells (u0 := .int .i64 pars) (u1 := .int .i64 out) (u2 := .slice none 0 0) (u3 := .slice a n c) h0 h1 h2 h3 hf
  refine ⟨Ext.set (p := ⟨tb, 3, none⟩) (Ext.set (p := ⟨tb, 2, none⟩) (Ext.set (p := ⟨tb, 1, none⟩) (Ext.set (p := ⟨tb, 0, none⟩) E ht _) ht _) ht _) ht _, ht, ?_, k0, k1, k2, k3, k4, ((((ho.set (p := ⟨tb, 0, none⟩) hn _).set (p := ⟨tb, 1, none⟩) hn _).set (p := ⟨tb, 2, none⟩) hn _).set (p := ⟨tb, 3, none⟩) hn _), hn⟩
  have := World.block_lt_of_cell? _ _ k0
  exact this
set_option linter.unusedSimpArgs false in
set_option maxRecDepth 100000 in
set_option maxHeartbeats 4000000 in
theorem tape_yes (B pb mb bud pars : Nat) (row : Value) (L : List Step) (out : Int) (a : Option Addr) (n c : Nat) (T : List (ByteArray × Int)) (w : World) (hM : Mk w B pb mb row bud pars pars L) (hT : Tells w a n c T) :
    Calls Tryz.prog 17 #[.pointer (some ⟨pb, 0, none⟩), .int .i64 out, .slice a n c] w (Post w (TapeRes pars out L T w.heap.size)) := by
  have EA : Ext w (w.alloc (.cells #[.int .i64 0, .int .i64 0, .slice none 0 0, .slice none 0 0] 53)) := Ext.of_alloc _ _
  have H := Lib.hid (there_yes (hM.kept EA))
  go_enter Tryz.func17, Tryz.ntmps17
  go_wp2_with fail
  refine H.out.mono ?_
  rintro e w' ⟨rfl, rfl⟩
  clear H
  go_wp2_with fail
  obtain ⟨W1, hW1⟩ : ∃ W1, W1 = w.alloc (.cells #[.int .i64 0, .int .i64 0, .slice none 0 0, .slice none 0 0] 53) := ⟨_, rfl⟩
  obtain ⟨zb, hzb⟩ : ∃ zb, zb = w.heap.size := ⟨_, rfl⟩
  have hM1 := hM.kept EA
  have hT1 := hT.ext EA
  have hz0 : W1.cell? ⟨zb, 0, none⟩ = some (.int .i64 0) := by rw [hW1, hzb]; simp [go_sem]
  have hz1 : W1.cell? ⟨zb, 1, none⟩ = some (.int .i64 0) := by rw [hW1, hzb]; simp [go_sem]
  have hz2 : W1.cell? ⟨zb, 2, none⟩ = some (.slice none 0 0) := by rw [hW1, hzb]; simp [go_sem]
  have hz3 : W1.cell? ⟨zb, 3, none⟩ = some (.slice none 0 0) := by rw [hW1, hzb]; simp [go_sem]
  have hzf : ∀ k, W1.frozen? ⟨zb, k, none⟩ = false := by intro k; rw [hW1, hzb]; simp [go_sem]
  have hzl : zb < W1.heap.size := by rw [hW1, hzb]; simp
  have hwz : w.heap.size ≤ zb := by omega
  rw [← hW1] at EA hM1 hT1 ⊢
  rw [← hzb]
  clear hW1 hzb hM hT
  obtain ⟨wb, hwb⟩ : ∃ wb, wb ≤ W1.heap.size ∧ zb < wb := ⟨_, Nat.le_refl _, hzl⟩
  have Hwb := Lib.hid hwb
  clear hwb
  have k1 := hM1.c1
  have HM := Lib.hid hM1
  have HT := Lib.hid hT1
  clear hM1 hT1
  apply two_ways (A := Made W1 wb pars out T)
  intro key
  refine wp_region_T (fun _ => True) (fun W : World => W.cell? ⟨pb, 1, none⟩ = some (.int .i64 pars)) 99 10 (by rfl) (by kernel_rfl) ?_
  have hT0 : W1.drew.cell? ⟨pb, 1, none⟩ = some (.int .i64 pars) := k1
  refine wpAnyT_take' (i := 0) (some 15) (v := ?_) rfl rfl (by kernel_rfl) (by kernel_rfl) (by kernel_rfl) (by decide) (fun _ _ _ h => h) (Or.inl ⟨by rfl, ?_⟩) (fun _ => trivial) hT0 ?_
  rotate_left
  · (intro w hSw; (try dsimp only at hSw); go_simp); try with_reducible rfl
  try simp only [Act.put, List.setIfInBounds_toArray, List.set_cons_zero, List.set_cons_succ]
  refine wpAnyT_take' (i := 1) (some 16) (v := ?_) rfl rfl (by kernel_rfl) (by kernel_rfl) (by kernel_rfl) (by decide) (fun _ _ _ h => h) (Or.inl ⟨by rfl, ?_⟩) (fun _ => trivial) hT0 ?_
  rotate_left
  · (intro w hSw; (try dsimp only at hSw); go_simp); try with_reducible rfl
  try simp only [Act.put, List.setIfInBounds_toArray, List.set_cons_zero, List.set_cons_succ]
  refine wpAnyT_take' (i := 2) (some 17) (v := ?_) rfl rfl (by kernel_rfl) (by kernel_rfl) (by kernel_rfl) (by decide) (fun _ _ _ h => h) (Or.inl ⟨by rfl, ?_⟩) (fun _ => trivial) hT0 ?_
  rotate_left
  · (intro w hSw; (try dsimp only at hSw); go_simp); try with_reducible rfl
  try simp only [Act.put, List.setIfInBounds_toArray, List.set_cons_zero, List.set_cons_succ]
  refine wpAnyT_take' (i := 3) (some 18) (v := ?_) rfl rfl (by kernel_rfl) (by kernel_rfl) (by kernel_rfl) (by decide) (fun _ _ _ h => h) (Or.inl ⟨by rfl, ?_⟩) (fun _ => trivial) hT0 ?_
  rotate_left
  · (intro w hSw; (try dsimp only at hSw); go_simp); try with_reducible rfl
  try simp only [Act.put, List.setIfInBounds_toArray, List.set_cons_zero, List.set_cons_succ]
  refine wpAnyT_take' (i := 4) (some 19) (v := ?_) rfl rfl (by kernel_rfl) (by kernel_rfl) (by kernel_rfl) (by decide) (fun _ _ _ h => h) (Or.inl ⟨by rfl, ?_⟩) (fun _ => trivial) hT0 ?_
  rotate_left
  · (intro w hSw; (try dsimp only at hSw); go_simp); try with_reducible rfl
  try simp only [Act.put, List.setIfInBounds_toArray, List.set_cons_zero, List.set_cons_succ]
  refine wpAnyT_take' (i := 5) (some 20) (v := ?_) rfl rfl (by kernel_rfl) (by kernel_rfl) (by kernel_rfl) (by decide) (fun _ _ _ h => h) (Or.inl ⟨by rfl, ?_⟩) (fun _ => trivial) hT0 ?_
  rotate_left
  · (intro w hSw; (try dsimp only at hSw); go_simp); try with_reducible rfl
  try simp only [Act.put, List.setIfInBounds_toArray, List.set_cons_zero, List.set_cons_succ]
  refine wpAnyT_two (i1 := 6) (i2 := 8) (by kernel_rfl) rfl rfl (fun K hK => ?_) (fun K hK => ?_)
  · go_simp
    refine (clone_t _ _ _ T _ (HT.out.ext (by repeat (first | with_reducible exact Ext.refl _ | with_reducible assumption | (with_reducible refine Ext.alloc ?_ _) | (with_reducible refine Ext.drew ?_) | (with_reducible refine Ext.drewN ?_ _) | (with_reducible refine Ext.set ?_ (by first | (simp; done) | (simp; omega)) _) | (with_reducible refine Ext.trans ?_ (by with_reducible assumption)))))).mono ?_
    rintro e w2 ⟨v, rfl, E2, ho⟩
    obtain ⟨a', n', c', rfl⟩ := ownT_sl ho
    try simp only []
    have hT2 : w2.cell? ⟨pb, 1, none⟩ = some (.int .i64 pars) := E2.cell hT0
    refine hK _ _ (fun _ => trivial) hT2 ?_
    clear hK K
    try simp only [Act.put, List.setIfInBounds_toArray, List.set_cons_zero, List.set_cons_succ]
    refine wpAnyT_take' (i := 7) (some 22) (v := ?_) rfl rfl (by kernel_rfl) (by kernel_rfl) (by kernel_rfl) (by decide) (fun _ _ _ h => h) (Or.inl ⟨by rfl, ?_⟩) (fun _ => trivial) hT2 ?_
    rotate_left
    · (intro w hSw; (try dsimp only at hSw); go_simp); try with_reducible rfl
    try simp only [Act.put, List.setIfInBounds_toArray, List.set_cons_zero, List.set_cons_succ]
    refine wpAnyT_one (i := 8) (by kernel_rfl) rfl (fun K hK => ?_)
    go_simp
    have hT3 : (w2.alloc (.cells #[.int .i64 0, .int .i64 0, .slice none 0 0, .slice none 0 0] 53)).drew.cell? ⟨pb, 1, none⟩ = some (.int .i64 pars) := Ext.cell (by repeat (first | with_reducible exact Ext.refl _ | with_reducible assumption | (with_reducible refine Ext.alloc ?_ _) | (with_reducible refine Ext.drew ?_) | (with_reducible refine Ext.drewN ?_ _) | (with_reducible refine Ext.set ?_ (by first | (simp; done) | (simp; omega)) _) | (with_reducible refine Ext.trans ?_ (by with_reducible assumption)))) hT2
    refine hK _ _ (fun _ => trivial) hT3 ?_
    clear hK K
    try simp only [Act.put, List.setIfInBounds_toArray, List.set_cons_zero, List.set_cons_succ]
    refine wpAnyT_one (i := 9) (by kernel_rfl) rfl (fun K hK => ?_)
    go_simp
    have hT4 : (w2.alloc (.cells #[.int .i64 pars, .int .i64 out, .slice none 0 0, .slice a' n' c'] 53)).cell? ⟨pb, 1, none⟩ = some (.int .i64 pars) := Ext.cell (by repeat (first | with_reducible exact Ext.refl _ | with_reducible assumption | (with_reducible refine Ext.alloc ?_ _) | (with_reducible refine Ext.drew ?_) | (with_reducible refine Ext.drewN ?_ _) | (with_reducible refine Ext.set ?_ (by first | (simp; done) | (simp; omega)) _) | (with_reducible refine Ext.trans ?_ (by with_reducible assumption)))) hT2
    refine hK _ _ (fun _ => trivial) hT4 ?_
    clear hK K
    try simp only [Act.put, List.setIfInBounds_toArray, List.set_cons_zero, List.set_cons_succ]
    refine wpAnyT_done (by kernel_rfl) ?_ _
    try simp only [Act.put, List.setIfInBounds_toArray, List.set_cons_zero, List.set_cons_succ]
    have hsz : W1.heap.size ≤ w2.heap.size := E2.size
    have EV : Ext W1 (w2.alloc (.cells #[.int .i64 pars, .int .i64 out, .slice none 0 0, .slice a' n' c'] 53)) := ((Ext.refl W1).drew.trans E2).alloc _
    have hmd : Made W1 wb pars out T (w2.alloc (.cells #[.int .i64 pars, .int .i64 out, .slice none 0 0, .slice a' n' c'] 53)) w2.heap.size a' n' c' := by
      refine ⟨EV, hsz, by simp, by simp [go_sem], by simp [go_sem], by simp [go_sem], by simp [go_sem], fun k => by simp [go_sem], (ho.ext (Ext.of_alloc _ _)).mono Hwb.out.1, fun e => ?_⟩
      have := (World.ownsRow.lt ho _ e).2
      omega
    obtain ⟨W2, hW2⟩ : ∃ W2, W2 = w2.alloc (.cells #[.int .i64 pars, .int .i64 out, .slice none 0 0, .slice a' n' c'] 53) := ⟨_, rfl⟩
    obtain ⟨tb, htb⟩ : ∃ tb, tb = w2.heap.size := ⟨_, rfl⟩
    rw [← hW2, ← htb] at hmd ⊢
    clear hW2 htb EV hsz hT4 hT3 hT2 ho E2 hT0
    exact key _ _ _ _ _ hmd
  · go_simp
    have hT2 : (W1.alloc (.cells #[.int .i64 0, .int .i64 0, .slice none 0 0, .slice none 0 0] 53)).drew.cell? ⟨pb, 1, none⟩ = some (.int .i64 pars) := Ext.cell (by repeat (first | with_reducible exact Ext.refl _ | with_reducible assumption | (with_reducible refine Ext.alloc ?_ _) | (with_reducible refine Ext.drew ?_) | (with_reducible refine Ext.drewN ?_ _) | (with_reducible refine Ext.set ?_ (by first | (simp; done) | (simp; omega)) _) | (with_reducible refine Ext.trans ?_ (by with_reducible assumption)))) k1
    refine hK _ _ (fun _ => trivial) hT2 ?_
    clear hK K
    try simp only [Act.put, List.setIfInBounds_toArray, List.set_cons_zero, List.set_cons_succ]
    refine wpAnyT_one (i := 6) (by kernel_rfl) rfl (fun K hK => ?_)
    go_simp
    refine (clone_t _ _ _ T _ (HT.out.ext (by repeat (first | with_reducible exact Ext.refl _ | with_reducible assumption | (with_reducible refine Ext.alloc ?_ _) | (with_reducible refine Ext.drew ?_) | (with_reducible refine Ext.drewN ?_ _) | (with_reducible refine Ext.set ?_ (by first | (simp; done) | (simp; omega)) _) | (with_reducible refine Ext.trans ?_ (by with_reducible assumption)))))).mono ?_
    rintro e w2 ⟨v, rfl, E2, ho⟩
    obtain ⟨a', n', c', rfl⟩ := ownT_sl ho
    try simp only []
    have hT3 : w2.cell? ⟨pb, 1, none⟩ = some (.int .i64 pars) := E2.cell hT2
    refine hK _ _ (fun _ => trivial) hT3 ?_
    clear hK K
    try simp only [Act.put, List.setIfInBounds_toArray, List.set_cons_zero, List.set_cons_succ]
    refine wpAnyT_take' (i := 7) (some 22) (v := ?_) rfl rfl (by kernel_rfl) (by kernel_rfl) (by kernel_rfl) (by decide) (fun _ _ _ h => h) (Or.inl ⟨by rfl, ?_⟩) (fun _ => trivial) hT3 ?_
    rotate_left
    · (intro w hSw; (try dsimp only at hSw); go_simp); try with_reducible rfl
    try simp only [Act.put, List.setIfInBounds_toArray, List.set_cons_zero, List.set_cons_succ]
    have c0 : w2.cell? ⟨W1.heap.size, 0, none⟩ = some (.int .i64 0) := E2.cell (by simp [go_sem])
    have c1 : w2.cell? ⟨W1.heap.size, 1, none⟩ = some (.int .i64 0) := E2.cell (by simp [go_sem])
    have c2 : w2.cell? ⟨W1.heap.size, 2, none⟩ = some (.slice none 0 0) := E2.cell (by simp [go_sem])
    have c3 : w2.cell? ⟨W1.heap.size, 3, none⟩ = some (.slice none 0 0) := E2.cell (by simp [go_sem])
    have fz : ∀ k, w2.frozen? ⟨W1.heap.size, k, none⟩ = false := fun k => (Below.frozen (p := ⟨W1.heap.size, k, none⟩) E2 (by simp)).trans (by simp [go_sem])
    have f0 := fz 0
    have f1 := fz 1
    have f2 := fz 2
    have f3 := fz 3
    have EV : Ext W1 w2 := ((Ext.of_alloc W1 _).drew.trans E2)
    have hne : (Value.slice a' n' c').ownBlock ≠ some W1.heap.size := fun e => by have := (World.ownsRow.lt ho _ e).1; simp at this; omega
    have hmd := made_of (out := out) (pars := pars) (wb := wb) c0 c1 c2 c3 fz EV (Nat.le_refl _) (ho.mono (by have := Hwb.out.1; simp; omega)) hne
    refine wpAnyT_one (i := 9) (by kernel_rfl) rfl (fun K hK => ?_)
    go_simp
    have hT4 : (set4 w2 W1.heap.size (.int .i64 pars) (.int .i64 out) (.slice none 0 0) (.slice a' n' c')).cell? ⟨pb, 1, none⟩ = some (.int .i64 pars) := Ext.cell hmd.1 k1
    refine hK _ _ (fun _ => trivial) hT4 ?_
    clear hK K
    try simp only [Act.put, List.setIfInBounds_toArray, List.set_cons_zero, List.set_cons_succ]
    refine wpAnyT_done (by kernel_rfl) ?_ _
    try simp only [Act.put, List.setIfInBounds_toArray, List.set_cons_zero, List.set_cons_succ]
    obtain ⟨tb, htb⟩ : ∃ tb, tb = W1.heap.size := ⟨_, rfl⟩
    obtain ⟨W2, hW2⟩ : ∃ W2, W2 = set4 w2 tb (.int .i64 pars) (.int .i64 out) (.slice none 0 0) (.slice a' n' c') := ⟨_, rfl⟩
    rw [← htb] at hmd ⊢
    simp only [set4] at hmd hW2
    rw [← hW2] at hmd ⊢
    clear hW2 hT4 hT3 hT2 ho E2 hT0 EV hne c0 c1 c2 c3 fz f0 f1 f2 f3
    exact key _ _ _ _ _ hmd
  rintro W2 tb a3 n3 c3 hmd
  obtain ⟨E2, htl, hth, t0, t1, t2, t3, tf, hoT, hon⟩ := hmd
  obtain ⟨ra, rc, hrow, hst⟩ := HM.out.rowSteps
  have HF := Lib.hid HM.out.fewL
  have k2 := HM.out.c2
  have hbud := HM.out.good.len
  have hbud1 := HM.out.good.bud1
  rw [hrow] at k2
  clear HM k1 hrow
  have k2' := E2.cell k2
  have hLl : L.length ≤ 20000 := by omega
  clear hbud hbud1
  obtain ⟨i0, hi0, hz0', hz1', hz2'⟩ := info_parts info_node
  have ta : ∀ rv, (W2.setCell ⟨tb, 2, none⟩ rv).cell? ⟨tb, 2, none⟩ = some rv := fun rv => by simp [go_sem, t2]
  have tq : ∀ rv k v, k ≠ 2 → W2.cell? ⟨tb, k, none⟩ = some v → (W2.setCell ⟨tb, 2, none⟩ rv).cell? ⟨tb, k, none⟩ = some v := fun rv k v hk hv => by rw [World.cell?_setCell_other _ _ _ _ (by first | (simp; done) | (simp; exact Ne.symm hk))]; exact hv
  have tfz : ∀ rv k, (W2.setCell ⟨tb, 2, none⟩ rv).frozen? ⟨tb, k, none⟩ = false := fun rv k => by rw [World.frozen?_setCell]; exact tf k
  have hbt : tb < W2.heap.size := hth
  have Hta := Lib.hid ta
  have Htq := Lib.hid tq
  have Htf := Lib.hid tfz
  clear ta tq tfz
  go_wp2
  go_loopw [28] (fun k wr => ∃ (j : Nat) (rv : Value) (cells : List Value), j ≤ L.length ∧ k = .int .i64 j ∧ Ext (W2.setCell ⟨tb, 2, none⟩ rv) wr ∧ ORow wr W2.heap.size rv (L.take j) cells) (fun k _ => L.length - (intOf k).toNat)
  case atStart =>
    refine ⟨0, .slice none 0 0, [], Nat.zero_le _, rfl, ?_, ORow.nil _ _⟩
    exact set_same t2
  case round =>
    obtain ⟨j, rv, cells, hj, rfl, hext, hor⟩ := hrel
    have E1w : Ext W1 wr := (Ext.set (p := ⟨tb, 2, none⟩) E2 htl _).trans hext
    have k2w := E1w.cell k2
    have y2 := hext.cell (Hta.out rv)
    have y0 := hext.cell (Htq.out rv 0 _ (by decide) t0)
    have y1 := hext.cell (Htq.out rv 1 _ (by decide) t1)
    have y3 := hext.cell (Htq.out rv 3 _ (by decide) t3)
    have hfr := (hext.frozen (Hta.out rv)).trans (Htf.out rv 2)
    have hbw := World.block_lt_of_cell? wr _ y2
    simp at hbw
    have hrv := hor.form
    rw [List.length_take, Nat.min_eq_left hj] at hrv
    obtain ⟨ar, cr, rfl⟩ := hrv
    by_cases hlt : j < L.length
    · obtain ⟨b, off, s, rfl, hj', a1, n1, c1, a2, n2, c2, q0, q1, q2, q3, q4, q5, q6, q7, q8⟩ := (hst.ext E1w).at hlt
      have hlen : (L.take j).length = j := by rw [List.length_take]; omega
      have hown0 := hor.own
      rw [hlen] at hown0
      have hnt : (Value.slice ar j cr).ownBlock ≠ some tb := fun e => by have := (hown0.lt _ e).1; omega
      have hnn : (Value.slice ar j cr).ownBlock ≠ some wr.heap.size := fun e => by have := (hown0.lt _ e).2; omega
      have Hnt := Lib.hid hnt
      have Hnn := Lib.hid hnn
      have Hlen := Lib.hid hlen
      have Hown := Lib.hid hown0
      have HOR := Lib.hid hor
      have Hj := Lib.hid hj'
      have hIs : IsStep ((wr.alloc (.cells #[.int .u8 s.op, .int .i64 s.a, .int .i64 s.b, .bool s.neg, .slice a1 n1 c1, .slice a2 n2 c2] 78)).drew) (.agg #[.int .u8 s.op, .int .i64 s.a, .int .i64 s.b, .bool s.neg, .slice a1 n1 c1, .slice a2 n2 c2]) s := ⟨a1, n1, c1, a2, n2, c2, rfl, q6.ext (by repeat (first | with_reducible exact Ext.refl _ | with_reducible assumption | (with_reducible refine Ext.alloc ?_ _) | (with_reducible refine Ext.drew ?_) | (with_reducible refine Ext.drewN ?_ _) | (with_reducible refine Ext.set ?_ (by first | (simp; done) | (simp; omega)) _) | (with_reducible refine Ext.trans ?_ (by with_reducible assumption)))), q7.ext (by repeat (first | with_reducible exact Ext.refl _ | with_reducible assumption | (with_reducible refine Ext.alloc ?_ _) | (with_reducible refine Ext.drew ?_) | (with_reducible refine Ext.drewN ?_ _) | (with_reducible refine Ext.set ?_ (by first | (simp; done) | (simp; omega)) _) | (with_reducible refine Ext.trans ?_ (by with_reducible assumption)))), q8⟩
      have Hst := Lib.hid hIs
      clear hor hj' q6 q7 q8 hIs hnt hnn hlen hown0
      go_wp2_with fail
      obtain ⟨W3, hW3⟩ : ∃ W3, W3 = wr.alloc (.cells #[.int .u8 s.op, .int .i64 s.a, .int .i64 s.b, .bool s.neg, .slice a1 n1 c1, .slice a2 n2 c2] 78) := ⟨_, rfl⟩
      obtain ⟨nb, hnb⟩ : ∃ nb, nb = wr.heap.size := ⟨_, rfl⟩
      have p0 : W3.cell? ⟨nb, 0, none⟩ = some (.int .u8 s.op) := by rw [hW3, hnb]; simp [go_sem]
      have p1 : W3.cell? ⟨nb, 1, none⟩ = some (.int .i64 s.a) := by rw [hW3, hnb]; simp [go_sem]
      have p2 : W3.cell? ⟨nb, 2, none⟩ = some (.int .i64 s.b) := by rw [hW3, hnb]; simp [go_sem]
      have p3 : W3.cell? ⟨nb, 3, none⟩ = some (.bool s.neg) := by rw [hW3, hnb]; simp [go_sem]
      have p4 : W3.cell? ⟨nb, 4, none⟩ = some (.slice a1 n1 c1) := by rw [hW3, hnb]; simp [go_sem]
      have p5 : W3.cell? ⟨nb, 5, none⟩ = some (.slice a2 n2 c2) := by rw [hW3, hnb]; simp [go_sem]
      have EW : Ext wr W3 := by rw [hW3]; exact Ext.of_alloc _ _
      have y2w := EW.cell y2
      have hfw := (EW.frozen y2).trans hfr
      have hBW : W2.heap.size ≤ W3.heap.size := by have := hext.size; have := EW.size; simp at *; omega
      have hb3 : tb < W3.heap.size := by omega
      rw [← hW3] at Hst ⊢
      rw [← hnb] at Hnn ⊢
      clear hW3 hnb
      refine wp_region_T (fun w' => w'.cell? ⟨tb, 2, none⟩ = some (.slice ar j cr) ∧ w'.cell? ⟨nb, 0, none⟩ = some (.int .u8 s.op) ∧ w'.cell? ⟨nb, 1, none⟩ = some (.int .i64 s.a) ∧ w'.cell? ⟨nb, 2, none⟩ = some (.int .i64 s.b) ∧ w'.cell? ⟨nb, 3, none⟩ = some (.bool s.neg) ∧ w'.cell? ⟨nb, 4, none⟩ = some (.slice a1 n1 c1) ∧ w'.cell? ⟨nb, 5, none⟩ = some (.slice a2 n2 c2)) (fun _ => True) 6 8 (by rfl) (by kernel_rfl) ?_
      have hS0 : W3.drew.cell? ⟨tb, 2, none⟩ = some (.slice ar j cr) ∧ W3.drew.cell? ⟨nb, 0, none⟩ = some (.int .u8 s.op) ∧ W3.drew.cell? ⟨nb, 1, none⟩ = some (.int .i64 s.a) ∧ W3.drew.cell? ⟨nb, 2, none⟩ = some (.int .i64 s.b) ∧ W3.drew.cell? ⟨nb, 3, none⟩ = some (.bool s.neg) ∧ W3.drew.cell? ⟨nb, 4, none⟩ = some (.slice a1 n1 c1) ∧ W3.drew.cell? ⟨nb, 5, none⟩ = some (.slice a2 n2 c2) := ⟨y2w, p0, p1, p2, p3, p4, p5⟩
      refine wpAnyT_take' (i := 0) (some 32) (v := ?_) rfl rfl (by kernel_rfl) (by kernel_rfl) (by kernel_rfl) (by decide) (fun _ _ _ h => h) (Or.inl ⟨by rfl, ?_⟩) (fun _ => hS0) trivial ?_
      rotate_left
      · (intro w hSw; (try dsimp only at hSw); go_simp); try with_reducible rfl
      try simp only [Act.put, List.setIfInBounds_toArray, List.set_cons_zero, List.set_cons_succ]
      refine wpAnyT_take (i := 1) (some 33) (v := ?_) rfl rfl (by kernel_rfl) (by kernel_rfl) (by kernel_rfl) (by kernel_rfl) (by kernel_rfl) (fun _ _ _ h => h) (Or.inl ⟨by rfl, ?_⟩) hS0 trivial ?_
      rotate_left
      · (intro w hSw; (try dsimp only at hSw); go_simp); try with_reducible rfl
      try simp only [Act.put, List.setIfInBounds_toArray, List.set_cons_zero, List.set_cons_succ]
      refine wpAnyT_take (i := 2) (some 34) (v := ?_) rfl rfl (by kernel_rfl) (by kernel_rfl) (by kernel_rfl) (by kernel_rfl) (by kernel_rfl) (fun _ _ _ h => h) (Or.inl ⟨by rfl, ?_⟩) hS0 trivial ?_
      rotate_left
      · (intro w hSw; (try dsimp only at hSw); go_simp); try with_reducible rfl
      try simp only [Act.put, List.setIfInBounds_toArray, List.set_cons_zero, List.set_cons_succ]
      refine wpAnyT_one (i := 3) (by kernel_rfl) rfl (fun K hK => ?_)
      go_simp
      refine (own_any _ s _ (Hst.out)).mono ?_
      rintro e w1 ⟨u, rfl, E3, hos⟩
      obtain ⟨v1, v2, hu, ho1, ho2⟩ := hos
      obtain ⟨a5, m5, c5, rfl⟩ := own_sl ho1
      obtain ⟨a6, m6, c6, rfl⟩ := own_sl ho2
      subst hu
      try simp only []
      have hS1 : w1.cell? ⟨tb, 2, none⟩ = some (.slice ar j cr) ∧ w1.cell? ⟨nb, 0, none⟩ = some (.int .u8 s.op) ∧ w1.cell? ⟨nb, 1, none⟩ = some (.int .i64 s.a) ∧ w1.cell? ⟨nb, 2, none⟩ = some (.int .i64 s.b) ∧ w1.cell? ⟨nb, 3, none⟩ = some (.bool s.neg) ∧ w1.cell? ⟨nb, 4, none⟩ = some (.slice a1 n1 c1) ∧ w1.cell? ⟨nb, 5, none⟩ = some (.slice a2 n2 c2) := ⟨E3.cell y2w, E3.cell p0, E3.cell p1, E3.cell p2, E3.cell p3, E3.cell p4, E3.cell p5⟩
      refine hK _ _ (fun _ => hS1) trivial ?_
      clear hK K
      try simp only [Act.put, List.setIfInBounds_toArray, List.set_cons_zero, List.set_cons_succ]
      refine wpAnyT_one (i := 4) (by kernel_rfl) rfl (fun K hK => ?_)
      go_simp
      have E4 : Ext W3.drew (w1.alloc (.cells #[.int .u8 s.op, .int .i64 s.a, .int .i64 s.b, .bool s.neg, .slice a5 m5 c5, .slice a6 m6 c6] 78)) := Ext.alloc E3 _
      have hS2 : (w1.alloc (.cells #[.int .u8 s.op, .int .i64 s.a, .int .i64 s.b, .bool s.neg, .slice a5 m5 c5, .slice a6 m6 c6] 78)).cell? ⟨tb, 2, none⟩ = some (.slice ar j cr) ∧ (w1.alloc (.cells #[.int .u8 s.op, .int .i64 s.a, .int .i64 s.b, .bool s.neg, .slice a5 m5 c5, .slice a6 m6 c6] 78)).cell? ⟨nb, 0, none⟩ = some (.int .u8 s.op) ∧ (w1.alloc (.cells #[.int .u8 s.op, .int .i64 s.a, .int .i64 s.b, .bool s.neg, .slice a5 m5 c5, .slice a6 m6 c6] 78)).cell? ⟨nb, 1, none⟩ = some (.int .i64 s.a) ∧ (w1.alloc (.cells #[.int .u8 s.op, .int .i64 s.a, .int .i64 s.b, .bool s.neg, .slice a5 m5 c5, .slice a6 m6 c6] 78)).cell? ⟨nb, 2, none⟩ = some (.int .i64 s.b) ∧ (w1.alloc (.cells #[.int .u8 s.op, .int .i64 s.a, .int .i64 s.b, .bool s.neg, .slice a5 m5 c5, .slice a6 m6 c6] 78)).cell? ⟨nb, 3, none⟩ = some (.bool s.neg) ∧ (w1.alloc (.cells #[.int .u8 s.op, .int .i64 s.a, .int .i64 s.b, .bool s.neg, .slice a5 m5 c5, .slice a6 m6 c6] 78)).cell? ⟨nb, 4, none⟩ = some (.slice a1 n1 c1) ∧ (w1.alloc (.cells #[.int .u8 s.op, .int .i64 s.a, .int .i64 s.b, .bool s.neg, .slice a5 m5 c5, .slice a6 m6 c6] 78)).cell? ⟨nb, 5, none⟩ = some (.slice a2 n2 c2) := ⟨E4.cell y2w, E4.cell p0, E4.cell p1, E4.cell p2, E4.cell p3, E4.cell p4, E4.cell p5⟩
      refine hK _ _ (fun _ => hS2) trivial ?_
      clear hK K
      try simp only [Act.put, List.setIfInBounds_toArray, List.set_cons_zero, List.set_cons_succ]
      refine wpAnyT_one (i := 5) (by kernel_rfl) rfl (fun K hK => ?_)
      refine step_append_u _ (by rfl) _ _ _ (by rfl) W2.heap.size 78 i0 _ 6 80 Tryz.underlying50 hi0 hz0' hz1' hz2' rfl (by omega) (by simp [Value.cells, isU]) (.slice ar j cr) j cells (by rfl) (Hown.out.kept fun k hk => Below.block (EW.drew.trans E4) k (Hown.out.lt k hk).2) ⟨w1.heap.size, 0, none⟩ 1 1 [.int .u8 s.op, .int .i64 s.a, .int .i64 s.b, .bool s.neg, .slice a5 m5 c5, .slice a6 m6 c6] (by rfl) (by rfl) (World.news_of_block (cs := #[.int .u8 s.op, .int .i64 s.a, .int .i64 s.b, .bool s.neg, .slice a5 m5 c5, .slice a6 m6 c6]) (t := 78) (fr := (0, 0)) (heap_alloc_new w1 _)) (by simp [Value.oneCell']) (by simp [isU]) (by omega) (by unfold maxLen; omega) (by omega) (by have := E4.size; rw [show W3.drew.heap.size = W3.heap.size from rfl] at this; omega) (w1.heap.size + 1) (by simp) ?_
      intro g cap w4 hown4 hgrow hat
      have kp : ∀ (p : Addr) (u : Value), W3.cell? p = some u → (Value.slice ar j cr).ownBlock ≠ some p.block → w4.cell? p = some u := fun p u h1 h2 => hgrow.cell (E4.cell h1) (fun e => h2 e.symm)
      have y4 := kp _ _ y2w Hnt.out
      have hf4 : w4.frozen? ⟨tb, 2, none⟩ = false := by rw [hgrow.frozen_far _ (Nat.lt_of_lt_of_le hb3 E4.size) (fun e => Hnt.out e.symm)]; exact (E4.frozen y2w).trans hfw
      have hS3 : w4.cell? ⟨tb, 2, none⟩ = some (.slice ar j cr) ∧ w4.cell? ⟨nb, 0, none⟩ = some (.int .u8 s.op) ∧ w4.cell? ⟨nb, 1, none⟩ = some (.int .i64 s.a) ∧ w4.cell? ⟨nb, 2, none⟩ = some (.int .i64 s.b) ∧ w4.cell? ⟨nb, 3, none⟩ = some (.bool s.neg) ∧ w4.cell? ⟨nb, 4, none⟩ = some (.slice a1 n1 c1) ∧ w4.cell? ⟨nb, 5, none⟩ = some (.slice a2 n2 c2) := ⟨y4, kp _ _ p0 Hnn.out, kp _ _ p1 Hnn.out, kp _ _ p2 Hnn.out, kp _ _ p3 Hnn.out, kp _ _ p4 Hnn.out, kp _ _ p5 Hnn.out⟩
      refine hK _ _ (fun _ => hS3) trivial ?_
      clear hK K kp
      try simp only [Act.put, List.setIfInBounds_toArray, List.set_cons_zero, List.set_cons_succ]
      refine wpAnyT_one (i := 6) (by kernel_rfl) rfl (fun K hK => ?_)
      go_simp
      refine hK _ _ (fun h => absurd h (by decide)) trivial ?_
      clear hK K
      try simp only [Act.put, List.setIfInBounds_toArray, List.set_cons_zero, List.set_cons_succ]
      refine wpAnyT_one (i := 7) (by kernel_rfl) rfl (fun K hK => ?_)
      go_simp
      refine hK _ _ (fun h => absurd h (by decide)) trivial ?_
      clear hK K
      try simp only [Act.put, List.setIfInBounds_toArray, List.set_cons_zero, List.set_cons_succ]
      refine wpAnyT_done (by kernel_rfl) ?_ _
      try simp only [Act.put, List.setIfInBounds_toArray, List.set_cons_zero, List.set_cons_succ]
      have hor5 := HOR.out.ext (EW.drew.trans E4)
      have hos : OwnStep (w1.alloc (.cells #[.int .u8 s.op, .int .i64 s.a, .int .i64 s.b, .bool s.neg, .slice a5 m5 c5, .slice a6 m6 c6] 78)) W2.heap.size (.agg #[.int .u8 s.op, .int .i64 s.a, .int .i64 s.b, .bool s.neg, .slice a5 m5 c5, .slice a6 m6 c6]) s := ((OwnStep.mono ⟨_, _, rfl, ho1, ho2⟩ hBW).ext (Ext.of_alloc w1 _))
      have hor6 := hor5.grow hos rfl (by rw [Hlen.out]; exact hown4) hgrow
      have hor7 := hor6.set (p := ⟨tb, 2, none⟩) hth (.slice (some ⟨g, 0, none⟩) (j + 1) cap)
      have hext7 : Ext (W2.setCell ⟨tb, 2, none⟩ (.slice (some ⟨g, 0, none⟩) (j + 1) cap)) (w4.setCell ⟨tb, 2, none⟩ (.slice (some ⟨g, 0, none⟩) (j + 1) cap)) := Ext.both_set (Ext.grown (hext.trans (EW.drew.trans E4)) hgrow (fun k hk => by have := (Hown.out.lt k hk).1; simp; exact this)) _
      have et : L.take (j + 1) = L.take j ++ [s] := by rw [List.take_add_one, Hj.out]; rfl
      rw [← et] at hor7
      have H7 := Lib.hid hor7
      clear hor5 hor6 hor7 hos et y4 hf4 hS3 hown4 hS2 hS1 hS0 E4 E3 ho1 ho2
      go_wp2
      exact ⟨⟨j + 1, _, _, by omega, by go_num, hext7, H7.out⟩, by simp [intOf]; omega⟩
    · have hjl : j = L.length := by omega
      subst hjl
      rw [List.take_of_length_le (Nat.le_refl _)] at hor
      obtain ⟨a', c', e, hS⟩ := hor.rowSteps HF.out (by omega)
      cases e
      have hoT' := (hoT.set (p := ⟨tb, 2, none⟩) hon (.slice ar L.length cr)).ext hext
      have hTn := HT.out.len
      have hTf := HT.out.few
      obtain ⟨a', c', e, hTl⟩ := hoT'.tells (by omega)
      cases e
      have HC := Lib.hid (check_any pars out ar a3 L.length cr T.length c3 L T wr hS hTl)
      obtain ⟨r, hr⟩ : ∃ r, r = checkP pars out L T := ⟨_, rfl⟩
      rw [← hr] at HC
      have Hr := Lib.hid hr
      have HOR := Lib.hid hor
      have HOT := Lib.hid hoT'
      clear hor hoT' hS hTl hr hoT hTn hTf
      have hw := (EA.trans E1w).size
      have g0 := E1w.cell hz0
      have g1 := E1w.cell hz1
      have g2 := E1w.cell hz2
      have g3 := E1w.cell hz3
      have gf : ∀ k x, W1.cell? ⟨zb, k, none⟩ = some x → wr.frozen? ⟨zb, k, none⟩ = false := fun k x hx => (E1w.frozen hx).trans (hzf k)
      have f0 := gf 0 _ hz0
      have f1 := gf 1 _ hz1
      have f2 := gf 2 _ hz2
      have f3 := gf 3 _ hz3
      have EG := EA.trans E1w
      clear gf hz0 hz1 hz2 hz3 k2 k2' t0 t1 t2 t3 tf hzf EA
      go_wp2_with fail
      refine HC.out.mono ?_
      rintro e w5 ⟨_, rfl, E5, rfl⟩
      clear HC
      have x0 := E5.cell y0
      have x1 := E5.cell y1
      have x2 := E5.cell y2
      have x3 := E5.cell y3
      have G0 := E5.cell g0
      have G1 := E5.cell g1
      have G2 := E5.cell g2
      have G3 := E5.cell g3
      have F0 := (E5.frozen g0).trans f0
      have F1 := (E5.frozen g1).trans f1
      have F2 := (E5.frozen g2).trans f2
      have F3 := (E5.frozen g3).trans f3
      have EE := EG.trans E5
      have hzB : zb < W2.heap.size := by omega
      have hO := (((((HOR.out.ext E5).set (p := ⟨zb, 0, none⟩) hzB (.int .i64 pars)).set (p := ⟨zb, 1, none⟩) hzB (.int .i64 out)).set (p := ⟨zb, 2, none⟩) hzB (.slice ar L.length cr)).set (p := ⟨zb, 3, none⟩) hzB (.slice a3 T.length c3)).mono (B' := w.heap.size) (by omega)
      have htz : (Value.slice a3 T.length c3).ownBlock ≠ some zb := fun e => by have := (World.ownsRow.lt HOT.out _ e).1; have := Hwb.out.2; omega
      have hwb2 : w.heap.size ≤ wb := by have := Hwb.out.2; omega
      have hT5 := (((((HOT.out.ext E5).set (p := ⟨zb, 0, none⟩) htz (.int .i64 pars)).set (p := ⟨zb, 1, none⟩) htz (.int .i64 out)).set (p := ⟨zb, 2, none⟩) htz (.slice ar L.length cr)).set (p := ⟨zb, 3, none⟩) htz (.slice a3 T.length c3)).mono (B' := w.heap.size) (by omega)
      have hwB : w.heap.size ≤ W2.heap.size := by omega
      have HO := Lib.hid hO
      have HT5 := Lib.hid hT5
      clear hwb2 hO hT5 E5 g0 g1 g2 g3 f0 f1 f2 f3 y0 y1 y2 y3 EG E1w hext hst k2w hfr HOR HOT
      by_cases h0 : r = 0
      · subst h0
        go_wp2
        exact bodyPost_ret (v := .tuple #[.agg #[.int .i64 pars, .int .i64 out, .slice ar L.length cr, .slice a3 T.length c3], .int .i64 0]) (by simp [results, Tryz.results17, go_sem, G0, G1, G2, G3]) rfl
          (Post.mk (Ext.set (p := ⟨zb, 3, none⟩) (Ext.set (p := ⟨zb, 2, none⟩) (Ext.set (p := ⟨zb, 1, none⟩) (Ext.set (p := ⟨zb, 0, none⟩) EE hwz _) hwz _) hwz _) hwz _) ⟨fun _ => ⟨_, _, cells, rfl, HO.out, HT5.out⟩, fun h => absurd Hr.out.symm h⟩)
      · have h0' : ¬ ((r : Nat) : Int) = 0 := by omega
        go_wp2
        exact bodyPost_ret (v := .tuple #[zeroT, .int .i64 2]) (by simp [results, Tryz.results17, go_sem, G0, G1, G2, G3, zeroT]) rfl
          (Post.mk (Ext.set (p := ⟨zb, 3, none⟩) (Ext.set (p := ⟨zb, 2, none⟩) (Ext.set (p := ⟨zb, 1, none⟩) (Ext.set (p := ⟨zb, 0, none⟩) EE hwz _) hwz _) hwz _) hwz _) ⟨fun h => absurd (Hr.out.trans h) h0, fun _ => rfl⟩)
end Go.Proofs.YtbncdghbnnefdaaGreat

namespace Go.Proofs.YtbncdghbnnefdaaGreat
open Go.RowKit

theorem tape_no {w : World} {p : Option Addr} (h : NoMk w p) (out : Int) (a : Option Addr) (n c : Nat) :
    Calls Tryz.prog 17 #[.pointer p, .int .i64 out, .slice a n c] w (Post w fun v _ => v = .tuple #[zeroT, .int .i64 1]) := by
  have H := Lib.hid (there_no (h.ext (Ext.of_alloc w (.cells #[.int .i64 0, .int .i64 0, .slice none 0 0, .slice none 0 0] 53))))
  go_enter Tryz.func17, Tryz.ntmps17
  go_wp2_with fail
  refine H.out.mono ?_
  rintro e w' ⟨rfl, rfl⟩
  go_wp2
  exact bodyPost_ret (v := .tuple #[zeroT, .int .i64 1]) (by simp [results, Tryz.results17, go_sem, zeroT]) rfl (Post.mk (by repeat (first | with_reducible exact Ext.refl _ | with_reducible assumption | (with_reducible refine Ext.alloc ?_ _) | (with_reducible refine Ext.drew ?_) | (with_reducible refine Ext.drewN ?_ _) | (with_reducible refine Ext.set ?_ (by first | (simp; done) | (simp; omega)) _) | (with_reducible refine Ext.trans ?_ (by with_reducible assumption)))) rfl)

theorem same1_any (v u : Value) (s t : Step) (w : World) (h1 : IsStep w v s) (h2 : IsStep w u t) :
    Calls Tryz.prog 44 #[v, u] w (Post w fun r _ => r = .bool (sameS s t)) := by
  obtain ⟨a1, n1, c1, a2, n2, c2, rfl, g1, g2, g3, g4, g5⟩ := h1
  obtain ⟨a3, n3, c3, a4, n4, c4, rfl, k1, k2, k3, k4, k5⟩ := h2
  obtain ⟨q, hq⟩ : ∃ q, q = sameS s t := ⟨_, rfl⟩
  rw [← hq]
  by_cases e1 : s.op = t.op
  · have b1 : (((s.op : Nat) : Int) == ((t.op : Nat) : Int)) = true := by simp [e1]
    by_cases e2 : s.a = t.a
    · have b2 : (s.a == t.a) = true := by simp [e2]
      by_cases e3 : s.b = t.b
      · have b3 : (s.b == t.b) = true := by simp [e3]
        have e : q = (decide (s.neg = t.neg) && (sameL s.xs t.xs && sameL s.ys t.ys)) := by rw [hq]; simp [sameS, sameC, e1, e2, e3]
        have Hq := Lib.hid e
        clear hq e e1 e2 e3
        go_enter Tryz.func44, Tryz.ntmps44
        go_wp2_with fail
        refine (sameNum_any s.neg t.neg a1 a2 a3 a4 n1 c1 n2 c2 n3 c3 n4 c4 _ _ _ _ _ (g1.ext (by repeat (first | with_reducible exact Ext.refl _ | with_reducible assumption | (with_reducible refine Ext.alloc ?_ _) | (with_reducible refine Ext.drew ?_) | (with_reducible refine Ext.drewN ?_ _) | (with_reducible refine Ext.set ?_ (by first | (simp; done) | (simp; omega)) _) | (with_reducible refine Ext.trans ?_ (by with_reducible assumption))))) (g2.ext (by repeat (first | with_reducible exact Ext.refl _ | with_reducible assumption | (with_reducible refine Ext.alloc ?_ _) | (with_reducible refine Ext.drew ?_) | (with_reducible refine Ext.drewN ?_ _) | (with_reducible refine Ext.set ?_ (by first | (simp; done) | (simp; omega)) _) | (with_reducible refine Ext.trans ?_ (by with_reducible assumption))))) (k1.ext (by repeat (first | with_reducible exact Ext.refl _ | with_reducible assumption | (with_reducible refine Ext.alloc ?_ _) | (with_reducible refine Ext.drew ?_) | (with_reducible refine Ext.drewN ?_ _) | (with_reducible refine Ext.set ?_ (by first | (simp; done) | (simp; omega)) _) | (with_reducible refine Ext.trans ?_ (by with_reducible assumption))))) (k2.ext (by repeat (first | with_reducible exact Ext.refl _ | with_reducible assumption | (with_reducible refine Ext.alloc ?_ _) | (with_reducible refine Ext.drew ?_) | (with_reducible refine Ext.drewN ?_ _) | (with_reducible refine Ext.set ?_ (by first | (simp; done) | (simp; omega)) _) | (with_reducible refine Ext.trans ?_ (by with_reducible assumption)))))).mono ?_
        rintro e w1 ⟨_, rfl, E1, rfl⟩
        rw [← Hq.out]
        go_wp2
        go_ret
        exact Post.mk (by repeat (first | with_reducible exact Ext.refl _ | with_reducible assumption | (with_reducible refine Ext.alloc ?_ _) | (with_reducible refine Ext.drew ?_) | (with_reducible refine Ext.drewN ?_ _) | (with_reducible refine Ext.set ?_ (by first | (simp; done) | (simp; omega)) _) | (with_reducible refine Ext.trans ?_ (by with_reducible assumption)))) rfl
      · have b3 : (s.b == t.b) = false := by simp [e3]
        have e : q = false := by rw [hq]; simp [sameS, e3]
        subst e
        clear hq e1 e2 e3
        go_enter Tryz.func44, Tryz.ntmps44
        go_wp2
        go_ret
        exact Post.mk (by repeat (first | with_reducible exact Ext.refl _ | with_reducible assumption | (with_reducible refine Ext.alloc ?_ _) | (with_reducible refine Ext.drew ?_) | (with_reducible refine Ext.drewN ?_ _) | (with_reducible refine Ext.set ?_ (by first | (simp; done) | (simp; omega)) _) | (with_reducible refine Ext.trans ?_ (by with_reducible assumption)))) rfl
    · have b2 : (s.a == t.a) = false := by simp [e2]
      have e : q = false := by rw [hq]; simp [sameS, e2]
      subst e
      clear hq e1 e2
      go_enter Tryz.func44, Tryz.ntmps44
      go_wp2
      go_ret
      exact Post.mk (by repeat (first | with_reducible exact Ext.refl _ | with_reducible assumption | (with_reducible refine Ext.alloc ?_ _) | (with_reducible refine Ext.drew ?_) | (with_reducible refine Ext.drewN ?_ _) | (with_reducible refine Ext.set ?_ (by first | (simp; done) | (simp; omega)) _) | (with_reducible refine Ext.trans ?_ (by with_reducible assumption)))) rfl
  · have b1 : (((s.op : Nat) : Int) == ((t.op : Nat) : Int)) = false := by simp; omega
    have e : q = false := by rw [hq]; simp [sameS, e1]
    subst e
    clear hq e1
    go_enter Tryz.func44, Tryz.ntmps44
    go_wp2
    go_ret
    exact Post.mk (by repeat (first | with_reducible exact Ext.refl _ | with_reducible assumption | (with_reducible refine Ext.alloc ?_ _) | (with_reducible refine Ext.drew ?_) | (with_reducible refine Ext.drewN ?_ _) | (with_reducible refine Ext.set ?_ (by first | (simp; done) | (simp; omega)) _) | (with_reducible refine Ext.trans ?_ (by with_reducible assumption)))) rfl
end Go.Proofs.YtbncdghbnnefdaaGreat

namespace Go.Proofs.YtbncdghbnnefdaaGreat
open Go.RowKit

/-- Two rows of steps are the same. -/
def sameR (L M : List Step) : Bool := decide (L.length = M.length) && (L.zip M).all fun p => sameS p.1 p.2
theorem sameR_iff (L M : List Step) : sameR L M = true ↔ L = M := by
  unfold sameR
  rw [Bool.and_eq_true, decide_eq_true_eq, List.all_eq_true]
  constructor
  · rintro ⟨h1, h2⟩
    refine List.ext_getElem h1 fun i k1 k2 => ?_
    have := h2 (L[i], M[i]) (List.mem_iff_getElem?.2 ⟨i, by rw [List.getElem?_zip_eq_some]; exact ⟨List.getElem?_eq_getElem k1, List.getElem?_eq_getElem k2⟩⟩)
    exact (sameS_iff _ _).1 this
  · rintro rfl
    refine ⟨rfl, fun p hp => ?_⟩
    obtain ⟨i, hi⟩ := List.mem_iff_getElem?.1 hp
    rw [List.getElem?_zip_eq_some] at hi
    have e := hi.1.symm.trans hi.2
    exact (sameS_iff _ _).2 (Option.some.inj e)

theorem IsStep.ext {w w' : World} {v : Value} {s : Step} (h : IsStep w v s) (e : Ext w w') : IsStep w' v s := h.keep e.keeps
set_option maxRecDepth 100000 in
set_option maxHeartbeats 4000000 in
theorem equalF_any (a1 a2 : Option Addr) (n1 c1 n2 c2 : Nat) (L M : List Step) (w : World) (h1 : Steps w a1 n1 c1 L) (h2 : Steps w a2 n2 c2 M) :
    Calls Tryz.prog 46 #[.slice a1 n1 c1, .slice a2 n2 c2, .func (.func 44) #[] #[]] w (Post w fun r _ => r = .bool (sameR L M)) := by
  obtain ⟨q, hq⟩ : ∃ q, q = sameR L M := ⟨_, rfl⟩
  rw [← hq]
  have Hq := Lib.hid hq
  clear hq
  by_cases hn : n1 = n2
  · subst hn
    go_enter Tryz.func46, Tryz.ntmps46
    go_wp2
    go_loopw [17] (fun k wr => ∃ j : Nat, j ≤ n1 ∧ k = .int .i64 j ∧ Hid (∀ (i : Nat), i < j → L[i]? = M[i]?) ∧ Ext w wr) (fun k _ => n1 - (intOf k).toNat)
    case atStart => exact ⟨0, Nat.zero_le _, rfl, Lib.hid (fun i h => by omega), Ext.refl _⟩
    case round =>
      obtain ⟨j, hj, rfl, hall, hext⟩ := hrel
      have F1 := h1.few
      by_cases hlt : j < n1
      · obtain ⟨b, off, s, rfl, hs, a3, n3, c3, a4, n4, c4, q0, q1, q2, q3, q4, q5, q6, q7, q8⟩ := (h1.ext hext).at hlt
        obtain ⟨b', off', t, rfl, ht, a5, n5, c5, a6, n6, c6, p0, p1, p2, p3, p4, p5, p6, p7, p8⟩ := (h2.ext hext).at hlt
        have g1 : IsStep wr (.agg #[.int .u8 s.op, .int .i64 s.a, .int .i64 s.b, .bool s.neg, .slice a3 n3 c3, .slice a4 n4 c4]) s := ⟨a3, n3, c3, a4, n4, c4, rfl, q6, q7, q8⟩
        have g2 : IsStep wr (.agg #[.int .u8 t.op, .int .i64 t.a, .int .i64 t.b, .bool t.neg, .slice a5 n5 c5, .slice a6 n6 c6]) t := ⟨a5, n5, c5, a6, n6, c6, rfl, p6, p7, p8⟩
        have HR := Lib.hid (fun W (E : Ext wr W) => same1_any _ _ s t W (g1.ext E) (g2.ext E))
        have hb1 := World.block_lt_of_cell? wr _ q0
        have hb2 := World.block_lt_of_cell? wr _ p0
        simp at hb1 hb2
        have l0 := fun (o : Obj) => (Ext.of_alloc wr o).cell p0
        have l1 := fun (o : Obj) => (Ext.of_alloc wr o).cell p1
        have l2 := fun (o : Obj) => (Ext.of_alloc wr o).cell p2
        have l3 := fun (o : Obj) => (Ext.of_alloc wr o).cell p3
        have l4 := fun (o : Obj) => (Ext.of_alloc wr o).cell p4
        have l5 := fun (o : Obj) => (Ext.of_alloc wr o).cell p5
        obtain ⟨r, hr⟩ : ∃ r, r = sameS s t := ⟨_, rfl⟩
        rw [← hr] at HR
        have Hr := Lib.hid hr
        have Hs := Lib.hid hs
        have Ht := Lib.hid ht
        clear hr hs ht q6 q7 q8 p6 p7 p8 g1 g2
        go_wp2_with fail
        refine (HR.out _ (by repeat (first | with_reducible exact Ext.refl _ | with_reducible assumption | (with_reducible refine Ext.alloc ?_ _) | (with_reducible refine Ext.drew ?_) | (with_reducible refine Ext.drewN ?_ _) | (with_reducible refine Ext.set ?_ (by first | (simp; done) | (simp; omega)) _) | (with_reducible refine Ext.trans ?_ (by with_reducible assumption))))).mono ?_
        rintro e w2 ⟨_, rfl, E2, rfl⟩
        clear HR
        cases r
        · have e : q = false := by
            rw [Hq.out]
            cases h : sameR L M with
            | false => rfl
            | true =>
              rw [(sameR_iff L M).1 h] at Hs
              have e1 := Hs.out.symm.trans Ht.out
              rw [Option.some.inj e1, (sameS_iff t t).2 rfl] at Hr
              cases Hr.out
          subst e
          go_wp2
          go_ret
          exact Post.mk (by repeat (first | with_reducible exact Ext.refl _ | with_reducible assumption | (with_reducible refine Ext.alloc ?_ _) | (with_reducible refine Ext.drew ?_) | (with_reducible refine Ext.drewN ?_ _) | (with_reducible refine Ext.set ?_ (by first | (simp; done) | (simp; omega)) _) | (with_reducible refine Ext.trans ?_ (by with_reducible assumption)))) rfl
        · have e := (sameS_iff s t).1 Hr.out.symm
          have hn1 : Hid (∀ (i : Nat), i < j + 1 → L[i]? = M[i]?) := Lib.hid (by
            intro i hi
            by_cases e' : i = j
            · rw [e', Hs.out, Ht.out, e]
            · exact hall.out i (by omega))
          clear e
          go_wp2
          exact ⟨⟨j + 1, by omega, by go_num, hn1, (by repeat (first | with_reducible exact Ext.refl _ | with_reducible assumption | (with_reducible refine Ext.alloc ?_ _) | (with_reducible refine Ext.drew ?_) | (with_reducible refine Ext.drewN ?_ _) | (with_reducible refine Ext.set ?_ (by first | (simp; done) | (simp; omega)) _) | (with_reducible refine Ext.trans ?_ (by with_reducible assumption))))⟩, by simp [intOf]; omega⟩
      · have e : q = true := by
          rw [Hq.out]
          refine (sameR_iff L M).2 (List.ext_getElem? fun i => ?_)
          by_cases hi : i < j
          · exact hall.out i hi
          · have := h1.len
            have := h2.len
            rw [List.getElem?_eq_none (by omega), List.getElem?_eq_none (by omega)]
        subst e
        go_wp2
        go_ret
        exact Post.mk (by repeat (first | with_reducible exact Ext.refl _ | with_reducible assumption | (with_reducible refine Ext.alloc ?_ _) | (with_reducible refine Ext.drew ?_) | (with_reducible refine Ext.drewN ?_ _) | (with_reducible refine Ext.set ?_ (by first | (simp; done) | (simp; omega)) _) | (with_reducible refine Ext.trans ?_ (by with_reducible assumption)))) rfl
  · have e : q = false := by
      rw [Hq.out]
      cases h : sameR L M with
      | false => rfl
      | true =>
        exfalso
        have := h1.len
        have := h2.len
        rw [(sameR_iff L M).1 h] at *
        omega
    subst e
    have f1 := h1.few
    have f2 := h2.few
    have e1 : ((n1 : Nat) : Int) ≠ ((n2 : Nat) : Int) := by omega
    go_enter Tryz.func46, Tryz.ntmps46
    go_wp2
    go_ret
    exact Post.mk (by repeat (first | with_reducible exact Ext.refl _ | with_reducible assumption | (with_reducible refine Ext.alloc ?_ _) | (with_reducible refine Ext.drew ?_) | (with_reducible refine Ext.drewN ?_ _) | (with_reducible refine Ext.set ?_ (by first | (simp; done) | (simp; omega)) _) | (with_reducible refine Ext.trans ?_ (by with_reducible assumption)))) rfl
end Go.Proofs.YtbncdghbnnefdaaGreat

namespace Go.Proofs.YtbncdghbnnefdaaGreat
open Go.RowKit

theorem toList_inj {x y : ByteArray} (h : x.toList = y.toList) : x = y := by
  rw [ByteArray.toList_eq, ByteArray.toList_eq] at h
  exact ByteArray.ext (Array.toList_inj.1 h)
def sameT (T U : List (ByteArray × Int)) : Bool := decide (T = U)
set_option linter.unusedSimpArgs false in
set_option maxRecDepth 100000 in
set_option maxHeartbeats 4000000 in
theorem equalT_any (a1 a2 : Option Addr) (n1 c1 n2 c2 : Nat) (T U : List (ByteArray × Int)) (w : World) (h1 : Tells w a1 n1 c1 T) (h2 : Tells w a2 n2 c2 U) :
    Calls Tryz.prog 47 #[.slice a1 n1 c1, .slice a2 n2 c2] w (Post w fun r _ => r = .bool (sameT T U)) := by
  obtain ⟨q, hq⟩ : ∃ q, q = sameT T U := ⟨_, rfl⟩
  rw [← hq]
  have Hq := Lib.hid hq
  clear hq
  by_cases hn : n1 = n2
  · subst hn
    go_enter Tryz.func47, Tryz.ntmps47
    go_wp2
    go_loopw [13] (fun k wr => ∃ j : Nat, j ≤ n1 ∧ k = .int .i64 j ∧ Hid (∀ (i : Nat), i < j → T[i]? = U[i]?) ∧ Ext w wr) (fun k _ => n1 - (intOf k).toNat)
    case atStart => exact ⟨0, Nat.zero_le _, rfl, Lib.hid (fun i h => by omega), Ext.refl _⟩
    case round =>
      obtain ⟨j, hj, rfl, hall, hext⟩ := hrel
      have F1 := h1.few
      by_cases hlt : j < n1
      · obtain ⟨b, off, s, rfl, hs, q0, q1⟩ := (h1.ext hext).at hlt
        obtain ⟨b', off', t, rfl, ht, p0, p1⟩ := (h2.ext hext).at hlt
        obtain ⟨x, i⟩ := s
        obtain ⟨y, k⟩ := t
        simp only at q0 q1 p0 p1
        have Hs := Lib.hid hs
        have Ht := Lib.hid ht
        clear hs ht
        obtain ⟨r, hr⟩ : ∃ r : Bool, r = !decide ((x, i) = (y, k)) := ⟨_, rfl⟩
        have hif : Hid (∀ W : World, (if x.toList = y.toList then if i = k then Result.ok (Next.value (.bool false)) W else Result.ok (Next.value (.bool true)) W else Result.ok (Next.value (.bool true)) W) = Result.ok (Next.value (.bool r)) W) := Lib.hid (by
          intro W
          rw [hr]
          by_cases hx : x.toList = y.toList
          · have hxy := toList_inj hx
            subst hxy
            by_cases hi : i = k
            · subst hi; simp
            · rw [if_pos rfl, if_neg hi]
              simp [hi]
          · rw [if_neg hx]
            have : x ≠ y := fun e => hx (by rw [e])
            simp [this])
        have Hr := Lib.hid hr
        clear hr
        go_wp2
        refine wp_region_T (fun _ => True) (fun w' : World => w'.cell? ⟨b, off + j * 2, none⟩ = some (.string x) ∧ w'.cell? ⟨b, off + j * 2 + 1, none⟩ = some (.int .i64 i) ∧ w'.cell? ⟨b', off' + j * 2, none⟩ = some (.string y) ∧ w'.cell? ⟨b', off' + j * 2 + 1, none⟩ = some (.int .i64 k)) 99 9 (by rfl) (by kernel_rfl) ?_
        have hT0 : wr.drew.cell? ⟨b, off + j * 2, none⟩ = some (.string x) ∧ wr.drew.cell? ⟨b, off + j * 2 + 1, none⟩ = some (.int .i64 i) ∧ wr.drew.cell? ⟨b', off' + j * 2, none⟩ = some (.string y) ∧ wr.drew.cell? ⟨b', off' + j * 2 + 1, none⟩ = some (.int .i64 k) := ⟨q0, q1, p0, p1⟩
        refine wpAnyT_take' (i := 0) (some 16) (v := ?_) rfl rfl (by kernel_rfl) (by kernel_rfl) (by kernel_rfl) (by decide) (fun _ _ _ h => h) (Or.inl ⟨by rfl, ?_⟩) (fun _ => trivial) hT0 ?_
        rotate_left
        · (intro w hSw; (try dsimp only at hSw); go_simp); try with_reducible rfl
        try simp only [Act.put, List.setIfInBounds_toArray, List.set_cons_zero, List.set_cons_succ]
        refine wpAnyT_take' (i := 1) (some 17) (v := ?_) rfl rfl (by kernel_rfl) (by kernel_rfl) (by kernel_rfl) (by decide) (fun _ _ _ h => h) (Or.inl ⟨by rfl, ?_⟩) (fun _ => trivial) hT0 ?_
        rotate_left
        · (intro w hSw; (try dsimp only at hSw); go_simp); try with_reducible rfl
        try simp only [Act.put, List.setIfInBounds_toArray, List.set_cons_zero, List.set_cons_succ]
        refine wpAnyT_take' (i := 2) (some 18) (v := ?_) rfl rfl (by kernel_rfl) (by kernel_rfl) (by kernel_rfl) (by decide) (fun _ _ _ h => h) (Or.inl ⟨by rfl, ?_⟩) (fun _ => trivial) hT0 ?_
        rotate_left
        · (intro w hSw; (try dsimp only at hSw); go_simp); try with_reducible rfl
        try simp only [Act.put, List.setIfInBounds_toArray, List.set_cons_zero, List.set_cons_succ]
        refine wpAnyT_take' (i := 3) (some 19) (v := ?_) rfl rfl (by kernel_rfl) (by kernel_rfl) (by kernel_rfl) (by decide) (fun _ _ _ h => h) (Or.inl ⟨by rfl, ?_⟩) (fun _ => trivial) hT0 ?_
        rotate_left
        · (intro w hSw; (try dsimp only at hSw); go_simp); try with_reducible rfl
        try simp only [Act.put, List.setIfInBounds_toArray, List.set_cons_zero, List.set_cons_succ]
        refine wpAnyT_take' (i := 4) (some 20) (v := ?_) rfl rfl (by kernel_rfl) (by kernel_rfl) (by kernel_rfl) (by decide) (fun _ _ _ h => h) (Or.inl ⟨by rfl, ?_⟩) (fun _ => trivial) hT0 ?_
        rotate_left
        · (intro w hSw; (try dsimp only at hSw); go_simp); try with_reducible rfl
        try simp only [Act.put, List.setIfInBounds_toArray, List.set_cons_zero, List.set_cons_succ]
        refine wpAnyT_take' (i := 5) (some 21) (v := ?_) rfl rfl (by kernel_rfl) (by kernel_rfl) (by kernel_rfl) (by decide) (fun _ _ _ h => h) (Or.inl ⟨by rfl, ?_⟩) (fun _ => trivial) hT0 ?_
        rotate_left
        · (intro w hSw; (try dsimp only at hSw); go_simp); try with_reducible rfl
        try simp only [Act.put, List.setIfInBounds_toArray, List.set_cons_zero, List.set_cons_succ]
        refine wpAnyT_take' (i := 6) (some 22) (v := ?_) rfl rfl (by kernel_rfl) (by kernel_rfl) (by kernel_rfl) (by decide) (fun _ _ _ h => h) (Or.inl ⟨by rfl, ?_⟩) (fun _ => trivial) hT0 ?_
        rotate_left
        · (intro w hSw; (try dsimp only at hSw); go_simp); try with_reducible rfl
        try simp only [Act.put, List.setIfInBounds_toArray, List.set_cons_zero, List.set_cons_succ]
        refine wpAnyT_take' (i := 7) (some 23) (v := ?_) rfl rfl (by kernel_rfl) (by kernel_rfl) (by kernel_rfl) (by decide) (fun _ _ _ h => h) (Or.inl ⟨by rfl, ?_⟩) (fun _ => trivial) hT0 ?_
        rotate_left
        · (intro w hSw; (try dsimp only at hSw); go_simp); try with_reducible rfl
        try simp only [Act.put, List.setIfInBounds_toArray, List.set_cons_zero, List.set_cons_succ]
        refine wpAnyT_one (i := 8) (by kernel_rfl) rfl (fun K hK => ?_)
        go_simp
        rw [hif.out]
        go_simp
        refine hK _ _ (fun _ => trivial) hT0 ?_
        clear hK K
        try simp only [Act.put, List.setIfInBounds_toArray, List.set_cons_zero, List.set_cons_succ]
        refine wpAnyT_done (by kernel_rfl) ?_ _
        try simp only [Act.put, List.setIfInBounds_toArray, List.set_cons_zero, List.set_cons_succ]
        cases r
        · have e := Hr.out
          simp only [Bool.false_eq, Bool.not_eq_false', decide_eq_true_eq] at e
          have hn1 : Hid (∀ (m : Nat), m < j + 1 → T[m]? = U[m]?) := Lib.hid (by
            intro m hm
            by_cases e' : m = j
            · rw [e', Hs.out, Ht.out, e]
            · exact hall.out m (by omega))
          clear e
          go_wp2
          exact ⟨⟨j + 1, by omega, by go_num, hn1, (by repeat (first | with_reducible exact Ext.refl _ | with_reducible assumption | (with_reducible refine Ext.alloc ?_ _) | (with_reducible refine Ext.drew ?_) | (with_reducible refine Ext.drewN ?_ _) | (with_reducible refine Ext.set ?_ (by first | (simp; done) | (simp; omega)) _) | (with_reducible refine Ext.trans ?_ (by with_reducible assumption))))⟩, by simp [intOf]; omega⟩
        · have e : q = false := by
            rw [Hq.out]
            refine decide_eq_false fun h => ?_
            rw [h] at Hs
            have e1 := Option.some.inj (Hs.out.symm.trans Ht.out)
            have e2 := Hr.out
            rw [e1] at e2
            simp at e2
          subst e
          go_wp2
          go_ret
          exact Post.mk (by repeat (first | with_reducible exact Ext.refl _ | with_reducible assumption | (with_reducible refine Ext.alloc ?_ _) | (with_reducible refine Ext.drew ?_) | (with_reducible refine Ext.drewN ?_ _) | (with_reducible refine Ext.set ?_ (by first | (simp; done) | (simp; omega)) _) | (with_reducible refine Ext.trans ?_ (by with_reducible assumption)))) rfl
      · have e : q = true := by
          rw [Hq.out]
          refine decide_eq_true (List.ext_getElem? fun i => ?_)
          by_cases hi : i < j
          · exact hall.out i hi
          · have := h1.len
            have := h2.len
            rw [List.getElem?_eq_none (by omega), List.getElem?_eq_none (by omega)]
        subst e
        go_wp2
        go_ret
        exact Post.mk (by repeat (first | with_reducible exact Ext.refl _ | with_reducible assumption | (with_reducible refine Ext.alloc ?_ _) | (with_reducible refine Ext.drew ?_) | (with_reducible refine Ext.drewN ?_ _) | (with_reducible refine Ext.set ?_ (by first | (simp; done) | (simp; omega)) _) | (with_reducible refine Ext.trans ?_ (by with_reducible assumption)))) rfl
  · have e : q = false := by
      rw [Hq.out]
      refine decide_eq_false fun h => ?_
      have := h1.len
      have := h2.len
      rw [h] at *
      omega
    subst e
    have f1 := h1.few
    have f2 := h2.few
    have e1 : ((n1 : Nat) : Int) ≠ ((n2 : Nat) : Int) := by omega
    go_enter Tryz.func47, Tryz.ntmps47
    go_wp2
    go_ret
    exact Post.mk (by repeat (first | with_reducible exact Ext.refl _ | with_reducible assumption | (with_reducible refine Ext.alloc ?_ _) | (with_reducible refine Ext.drew ?_) | (with_reducible refine Ext.drewN ?_ _) | (with_reducible refine Ext.set ?_ (by first | (simp; done) | (simp; omega)) _) | (with_reducible refine Ext.trans ?_ (by with_reducible assumption)))) rfl
end Go.Proofs.YtbncdghbnnefdaaGreat

namespace Go.Proofs.YtbncdghbnnefdaaGreat
open Go.RowKit

/-- The value is a tape. -/
def IsTape (w : World) (v : Value) (pars out : Int) (L : List Step) (T : List (ByteArray × Int)) : Prop := ∃ a1 n1 c1 a2 n2 c2, v = .agg #[.int .i64 pars, .int .i64 out, .slice a1 n1 c1, .slice a2 n2 c2] ∧ Steps w a1 n1 c1 L ∧ Tells w a2 n2 c2 T
theorem IsTape.ext {w w' : World} {v : Value} {p o : Int} {L : List Step} {T : List (ByteArray × Int)} (h : IsTape w v p o L T) (e : Ext w w') : IsTape w' v p o L T := by
  obtain ⟨a1, n1, c1, a2, n2, c2, rfl, h1, h2⟩ := h
  exact ⟨a1, n1, c1, a2, n2, c2, rfl, h1.ext e, h2.ext e⟩
/-- Same's answer. -/
def sameP (p o : Int) (L : List Step) (T : List (ByteArray × Int)) (p' o' : Int) (L' : List Step) (T' : List (ByteArray × Int)) : Bool := decide (p = p') && (decide (o = o') && (sameR L L' && sameT T T'))
set_option maxRecDepth 100000 in
set_option maxHeartbeats 4000000 in
theorem tsame_any (v u : Value) (p o p' o' : Int) (L L' : List Step) (T T' : List (ByteArray × Int)) (w : World) (h1 : IsTape w v p o L T) (h2 : IsTape w u p' o' L' T') :
    Calls Tryz.prog 26 #[v, u] w (Post w fun r _ => r = .bool (sameP p o L T p' o' L' T')) := by
  obtain ⟨a1, n1, c1, a2, n2, c2, rfl, g1, g2⟩ := h1
  obtain ⟨a3, n3, c3, a4, n4, c4, rfl, k1, k2⟩ := h2
  obtain ⟨q, hq⟩ : ∃ q, q = sameP p o L T p' o' L' T' := ⟨_, rfl⟩
  rw [← hq]
  by_cases e1 : p = p'
  · have b1 : (p == p') = true := by simp [e1]
    by_cases e2 : o = o'
    · have b2 : (o == o') = true := by simp [e2]
      obtain ⟨r, hr⟩ : ∃ r, r = sameR L L' := ⟨_, rfl⟩
      obtain ⟨t, ht⟩ : ∃ t, t = sameT T T' := ⟨_, rfl⟩
      have e : q = (r && t) := by rw [hq, hr, ht]; simp [sameP, e1, e2]
      have HF := Lib.hid (fun W (E : Ext w W) => equalF_any a1 a3 n1 c1 n3 c3 L L' W (g1.ext E) (k1.ext E))
      have HT := Lib.hid (fun W (E : Ext w W) => equalT_any a2 a4 n2 c2 n4 c4 T T' W (g2.ext E) (k2.ext E))
      rw [← hr] at HF
      rw [← ht] at HT
      clear hq hr ht e1 e2 g1 g2 k1 k2
      subst e
      cases r
      · go_enter Tryz.func26, Tryz.ntmps26
        go_wp2_with fail
        refine (HF.out _ (by repeat (first | with_reducible exact Ext.refl _ | with_reducible assumption | (with_reducible refine Ext.alloc ?_ _) | (with_reducible refine Ext.drew ?_) | (with_reducible refine Ext.drewN ?_ _) | (with_reducible refine Ext.set ?_ (by first | (simp; done) | (simp; omega)) _) | (with_reducible refine Ext.trans ?_ (by with_reducible assumption))))).mono ?_
        rintro e w1 ⟨_, rfl, E1, rfl⟩
        go_wp2
        go_ret
        exact Post.mk (by repeat (first | with_reducible exact Ext.refl _ | with_reducible assumption | (with_reducible refine Ext.alloc ?_ _) | (with_reducible refine Ext.drew ?_) | (with_reducible refine Ext.drewN ?_ _) | (with_reducible refine Ext.set ?_ (by first | (simp; done) | (simp; omega)) _) | (with_reducible refine Ext.trans ?_ (by with_reducible assumption)))) rfl
      · go_enter Tryz.func26, Tryz.ntmps26
        go_wp2_with fail
        refine (HF.out _ (by repeat (first | with_reducible exact Ext.refl _ | with_reducible assumption | (with_reducible refine Ext.alloc ?_ _) | (with_reducible refine Ext.drew ?_) | (with_reducible refine Ext.drewN ?_ _) | (with_reducible refine Ext.set ?_ (by first | (simp; done) | (simp; omega)) _) | (with_reducible refine Ext.trans ?_ (by with_reducible assumption))))).mono ?_
        rintro e w1 ⟨_, rfl, E1, rfl⟩
        obtain ⟨hc, hf⟩ := E1.look
        go_wp2_with fail
        refine (HT.out _ (by repeat (first | with_reducible exact Ext.refl _ | with_reducible assumption | (with_reducible refine Ext.alloc ?_ _) | (with_reducible refine Ext.drew ?_) | (with_reducible refine Ext.drewN ?_ _) | (with_reducible refine Ext.set ?_ (by first | (simp; done) | (simp; omega)) _) | (with_reducible refine Ext.trans ?_ (by with_reducible assumption))))).mono ?_
        rintro e w2 ⟨_, rfl, E2, rfl⟩
        go_wp2
        go_ret
        exact Post.mk (by repeat (first | with_reducible exact Ext.refl _ | with_reducible assumption | (with_reducible refine Ext.alloc ?_ _) | (with_reducible refine Ext.drew ?_) | (with_reducible refine Ext.drewN ?_ _) | (with_reducible refine Ext.set ?_ (by first | (simp; done) | (simp; omega)) _) | (with_reducible refine Ext.trans ?_ (by with_reducible assumption)))) rfl
    · have b2 : (o == o') = false := by simp [e2]
      have e : q = false := by rw [hq]; simp [sameP, e2]
      subst e
      clear hq e1 e2
      go_enter Tryz.func26, Tryz.ntmps26
      go_wp2
      go_ret
      exact Post.mk (by repeat (first | with_reducible exact Ext.refl _ | with_reducible assumption | (with_reducible refine Ext.alloc ?_ _) | (with_reducible refine Ext.drew ?_) | (with_reducible refine Ext.drewN ?_ _) | (with_reducible refine Ext.set ?_ (by first | (simp; done) | (simp; omega)) _) | (with_reducible refine Ext.trans ?_ (by with_reducible assumption)))) rfl
  · have b1 : (p == p') = false := by simp [e1]
    have e : q = false := by rw [hq]; simp [sameP, e1]
    subst e
    clear hq e1
    go_enter Tryz.func26, Tryz.ntmps26
    go_wp2
    go_ret
    exact Post.mk (by repeat (first | with_reducible exact Ext.refl _ | with_reducible assumption | (with_reducible refine Ext.alloc ?_ _) | (with_reducible refine Ext.drew ?_) | (with_reducible refine Ext.drewN ?_ _) | (with_reducible refine Ext.set ?_ (by first | (simp; done) | (simp; omega)) _) | (with_reducible refine Ext.trans ?_ (by with_reducible assumption)))) rfl
end Go.Proofs.YtbncdghbnnefdaaGreat
