/- Cmp: numbers held against each other. -/
import Derived.Test.YtnecpkoibknacaaW3
namespace Go.Proofs.Ytnecpkoibknacaa
open Go.RowKit Go.Shelf

attribute [local go_sem] Oper.semAt_some

/-- Block B holds two limbs side by side. -/
def Pair2 (W : World) (B : Nat) (t : TypeId) (x y : Nat) : Prop := W.heap[B]? = some (.cells #[.int .u64 x, .int .u64 y] t (0, 0))
theorem Pair2.new (W : World) (t x y : Nat) : Pair2 (W.alloc (.cells #[.int .u64 x, .int .u64 y] t)) W.heap.size t x y := World.alloc_heap_new W _
theorem Pair2.cell0 {W : World} {B t x y : Nat} (h : Pair2 W B t x y) : W.cell? ⟨B, 0, none⟩ = some (.int .u64 x) := by simp [World.cell?, show W.heap[B]? = _ from h]
theorem Pair2.cell1 {W : World} {B t x y : Nat} (h : Pair2 W B t x y) : W.cell? ⟨B, 1, none⟩ = some (.int .u64 y) := by simp [World.cell?, show W.heap[B]? = _ from h]
theorem Pair2.kept {W W' : World} {row : Option Nat} {B t x y : Nat} (h : Pair2 W B t x y) (hg : W.grownBy W' row) (hne : some B ≠ row) : Pair2 W' B t x y :=
  (hg.block B (Array.getElem?_eq_some_iff.1 h).1 hne).trans h
theorem ownFrom_size {β : Type} {B : Nat} (n : Nat) : OwnFrom B (fun (_ : β) W => n ≤ W.heap.size) := fun _ _ _ _ hs hg _ => Nat.le_trans hs hg.size
def Pr.two (p : Pr) : Nat × Nat := (p.x, p.y)

set_option maxRecDepth 100000 in
set_option maxHeartbeats 1000000 in
theorem cmp_in (a1 a2 : Option Addr) (n1 c1 n2 c2 : Nat) (xs ys : List Nat) (w : World) (h1 : Nums w a1 n1 c1 xs) (h2 : Nums w a2 n2 c2 ys) :
    CallsIn Fence.wide 4 Try.prog 30 #[.slice a1 n1 c1, .slice a2 n2 c2] w (Post w fun v _ => v = .int .i64 (cmpL (prs xs ys (max n1 n2)))) := by
  refine callsIn_of_wp_marks Try.func30 rfl trivial ?_ rfl
  simp only [Try.ntmps30, List.size_toArray, List.length_cons, List.length_nil, Nat.reduceAdd, Nat.reduceSub, Array.replicate_succ, Array.replicate_zero, List.push_toArray, List.append_toArray, List.nil_append, List.cons_append]
  gi_wp2_with (refine ⟨trivial, ?_⟩; gi_at_call 59; refine (open_wide.calls (pairs_any _ _ _ _ _ _ _ _ _ rfl rfl)).mono ?_; rintro e w' ⟨rfl, rfl⟩)
  have bO := (((Boxed.new w 3 (.int .i64 0)).alloc (.cells #[.slice a1 n1 c1] 23)).alloc (.cells #[.slice a2 n2 c2] 23)).alloc (.cells #[.func (.func 70) #[] #[]] 58)
  have bA := ((Boxed.new (w.alloc (.cells #[.int .i64 0] 3)) 23 (.slice a1 n1 c1)).alloc (.cells #[.slice a2 n2 c2] 23)).alloc (.cells #[.func (.func 70) #[] #[]] 58)
  have bB := (Boxed.new ((w.alloc (.cells #[.int .i64 0] 3)).alloc (.cells #[.slice a1 n1 c1] 23)) 23 (.slice a2 n2 c2)).alloc (.cells #[.func (.func 70) #[] #[]] 58)
  have bC := Boxed.new (((w.alloc (.cells #[.int .i64 0] 3)).alloc (.cells #[.slice a1 n1 c1] 23)).alloc (.cells #[.slice a2 n2 c2] 23)) 58 (.func (.func 70) #[] #[])
  simp only [World.size_alloc] at bA bB bC
  have hE : Ext w ((((w.alloc (.cells #[.int .i64 0] 3)).alloc (.cells #[.slice a1 n1 c1] 23)).alloc (.cells #[.slice a2 n2 c2] 23)).alloc (.cells #[.func (.func 70) #[] #[]] 58)) := ((((Ext.refl w).alloc _).alloc _).alloc _).alloc _
  have hsz : ((((w.alloc (.cells #[.int .i64 0] 3)).alloc (.cells #[.slice a1 n1 c1] 23)).alloc (.cells #[.slice a2 n2 c2] 23)).alloc (.cells #[.func (.func 70) #[] #[]] 58)).heap.size = w.heap.size + 4 := by simp
  generalize ((((w.alloc (.cells #[.int .i64 0] 3)).alloc (.cells #[.slice a1 n1 c1] 23)).alloc (.cells #[.slice a2 n2 c2] 23)).alloc (.cells #[.func (.func 70) #[] #[]] 58)) = W0 at *
  refine wpIn_rangeFunc_ownH rfl (by omega) (gf := 71) rfl trivial (enters_of Try.func71 (by kernel_rfl) rfl)
    (pairs_stops (w.heap.size + 1) a1 a2 n1 c1 n2 c2 xs ys w W0 hE (by omega) h1 h2 bA.cell bB.cell bC.cell) (fun h k => h.trans k) (Hole.put (Nat.le_refl _)) (Below.refl _ _) (fun _ => rfl)
    (fun pre W => (Boxed W w.heap.size 3 (.int .i64 (cmpL (pre.map Pr.two))) ∧ Ext w W) ∧ W0.heap.size ≤ W.heap.size)
    (fun _ _ _ => False)
    (OwnFrom.and (OwnFrom.and (Own.from (boxed_own _ _ _) _) (ownFrom_below (Nat.le_refl _) hE.size)) (ownFrom_size _))
    (fun _ _ _ _ _ hs _ _ => hs)
    ⟨⟨bO, hE⟩, Nat.le_refl _⟩
    (fun x a' W => ∃ Bx, W0.heap.size ≤ Bx ∧ Pair2 W Bx 68 x.x x.y ∧ a' = { tmps := #[.slice a1 n1 c1, .slice a2 n2 c2, undef, undef, .int .i64 0,
          .pointer (some ⟨w.heap.size, 0, none⟩), undef, .pointer (some ⟨Bx, 0, none⟩), .slice a1 n1 c1, .slice a2 n2 c2,
          .func (.func 71) #[] #[.pointer (some ⟨w.heap.size + 1, 0, none⟩), .pointer (some ⟨w.heap.size + 1 + 1, 0, none⟩), .pointer (some ⟨w.heap.size + 1 + 1 + 1, 0, none⟩)],
          .int .i64 x.i, .agg #[.int .u64 x.x, .int .u64 x.y], undef, undef, undef, undef, undef, undef, undef, undef, undef, undef, undef, undef, undef], defers := [] })
    (fun x a' _ X Y row hs hg hr => by obtain ⟨Bx, h1, h2, h3⟩ := hs; exact ⟨Bx, h1, h2.kept hg (fun e => by obtain ⟨_, o, ho, hc⟩ := hr _ e.symm; rw [h2] at ho; cases ho; cases hc), h3⟩)
    ?assign ?body ?done ?stop
  case assign =>
    rintro l pre x W K ⟨⟨bO1, hE1⟩, hsW⟩ hK
    simp only [Pr.enc]
    gi_wp2
    exact hK _ _ ((KeepsOthers.alloc _ _).from _) ((Hole.refl _ _ _ W).alloc hsW _) ⟨⟨bO1.alloc _, hE1.alloc _⟩, by simp; omega⟩ ⟨W.heap.size, hsW, Pair2.new _ _ _ _, rfl⟩
  case body =>
    rintro l pre x a' W hl ⟨r, hr⟩ ⟨⟨bO1, hE1⟩, hsW⟩ ⟨Bx, hBx, p2, rfl⟩ hlt
    have d0 := p2.cell0
    have d1 := p2.cell1
    have cO := bO1.cell
    have fO := bO1.frozen
    clear hr
    by_cases hxy : x.x < x.y
    · gi_wp2
      exact ⟨(KeepsOthers.setCell _ _ _).from _, (Hole.refl _ _ _ W).set (p := ⟨w.heap.size, 0, none⟩) (Nat.le_refl _) (.inl (by simp)) _, ⟨by rw [List.map_append, List.map_singleton, cmpL_snoc, Pr.two, if_pos hxy]; exact bO1.set _, hE1.set (p := ⟨w.heap.size, 0, none⟩) (Nat.le_refl _) _⟩, by simpa [World.setCell] using hsW⟩
    · by_cases hyx : x.y < x.x
      · gi_wp2
        exact ⟨(KeepsOthers.setCell _ _ _).from _, (Hole.refl _ _ _ W).set (p := ⟨w.heap.size, 0, none⟩) (Nat.le_refl _) (.inl (by simp)) _, ⟨by rw [List.map_append, List.map_singleton, cmpL_snoc, Pr.two, if_neg hxy, if_pos hyx]; exact bO1.set _, hE1.set (p := ⟨w.heap.size, 0, none⟩) (Nat.le_refl _) _⟩, by simpa [World.setCell] using hsW⟩
      · gi_wp2
        exact ⟨KeepsFrom.refl _ _, Hole.refl _ _ _ _, ⟨by rw [List.map_append, List.map_singleton, cmpL_snoc, Pr.two, if_neg hxy, if_neg hyx]; exact bO1, hE1⟩, hsW⟩
  case done =>
    rintro D zs W hD hz ⟨⟨bO1, hE1⟩, hsW⟩ hK
    have cO := bO1.cell
    have HZ := Lib.hid hz
    clear hz
    gi_wp2
    refine ⟨by simp, .inl ⟨_, _, rfl, run_takeDeferred hK, ?_⟩⟩
    refine ⟨_, results_tmp rfl _ _ _, _, rfl, Below.trans hE1 (belowK_b (w := w) (Nat.le_refl _) W D _ _ (by omega) hK rfl rfl), ?_⟩
    rw [← HZ.out]; rfl
  case stop =>
    rintro D c pre W _ _ h _
    exact h.elim

theorem cmp_any (a1 a2 : Option Addr) (n1 c1 n2 c2 : Nat) (xs ys : List Nat) (w : World) (h1 : Nums w a1 n1 c1 xs) (h2 : Nums w a2 n2 c2 ys) :
    Calls Try.prog 30 #[.slice a1 n1 c1, .slice a2 n2 c2] w (Post w fun v _ => v = .int .i64 (cmpN (val xs) (val ys))) := by
  rw [← cmpL_val h1.lt h2.lt (max n1 n2) (by have := h1.len; omega) (by have := h2.len; omega)]
  exact callsIn_wide.1 (cmp_in a1 a2 n1 c1 n2 c2 xs ys w h1 h2)
end Go.Proofs.Ytnecpkoibknacaa
