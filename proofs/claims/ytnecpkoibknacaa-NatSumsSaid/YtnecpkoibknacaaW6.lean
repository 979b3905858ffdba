/- Add. -/
import Derived.Test.YtnecpkoibknacaaW5
namespace Go.Proofs.Ytnecpkoibknacaa
open Go.RowKit Go.Shelf

attribute [local go_sem] Oper.semAt_some

theorem addL_ok' (pre : List Pr) : (addL (pre.map Pr.two)).1.length = (pre.map Pr.two).length ∧ (addL (pre.map Pr.two)).2 ≤ 1 ∧ ∀ x ∈ (addL (pre.map Pr.two)).1, x < B64 :=
  addL_ok _ fun p hp => by obtain ⟨q, _, rfl⟩ := List.mem_map.1 hp; exact ⟨q.hx, q.hy⟩

theorem Nums.of_app {w : World} {B e : Nat} {v : Value} {L : List Nat} {x : Nat} (h : w.ownsRow B e 1 v (L.length + 1) (lims L ++ [.int .u64 (x : Int)])) (hf : L.length ≤ 65535) (hx : ∀ y ∈ L, y < B64) (hx' : x < B64) :
    ∃ a c, v = .slice a (L.length + 1) c ∧ Nums w a (L.length + 1) c (L ++ [x]) := by
  have e : (L ++ [x]).length = L.length + 1 := by simp
  rw [← lims_snoc, ← e] at h
  obtain ⟨a, c, hv, hn⟩ := Nums.of_own h (by omega) (fun y hy => by
    rcases List.mem_append.1 hy with hy | hy
    · exact hx y hy
    · rw [List.mem_singleton.1 hy]; exact hx')
  rw [e] at hv hn
  exact ⟨a, c, hv, hn⟩
theorem own_ne {w : World} {base e size n D : Nat} {v : Value} {xs : List Value} {o : Obj} (h : w.ownsRow base e size v n xs) (hD : w.heap[D]? = some o) (ho : o.isCells = false) : some D ≠ v.ownBlock := by
  rcases h.2 with ⟨rfl, _⟩ | ⟨g, cap, cur, rfl, _, hgb, _⟩
  · simp [Value.ownBlock]
  · intro e'
    obtain rfl : D = g := by simpa [Value.ownBlock] using e'
    rw [hgb] at hD; cases hD; cases ho
theorem NRes.put {W : World} {v : Value} {o : Option Nat} (h : NRes W v o) {l : Nat} {o1 : Obj} (hl : W.heap[l]? = some o1) (ho : o1.isCells = false) (o' : Obj) : NRes (W.putObj l o') v o := by
  cases o with
  | some m => obtain ⟨a, n, c, rfl, hn⟩ := h; exact ⟨a, n, c, rfl, hn.put hl ho o'⟩
  | none => exact h
theorem any_two (xs ys : List Nat) : [xs, ys].any isLong = (isLong xs || isLong ys) := by simp

set_option maxRecDepth 100000 in
set_option maxHeartbeats 2000000 in
theorem add_in (a1 a2 : Option Addr) (n1 c1 n2 c2 : Nat) (xs ys : List Nat) (w : World) (h1 : Nums w a1 n1 c1 xs) (h2 : Nums w a2 n2 c2 ys) (hf1 : n1 ≤ 65535) (hf2 : n2 ≤ 65535) (hno : [xs, ys].any isLong = false) :
    CallsIn Fence.wide 4 Try.prog 28 #[.slice a1 n1 c1, .slice a2 n2 c2] w (Post w fun v w' => NRes w' v (fit (val ((addL (prs xs ys (max n1 n2))).1 ++ [(addL (prs xs ys (max n1 n2))).2])))) := by
  obtain ⟨i0, hi, hz0, hz1, hz2⟩ := info_parts info_u64
  have hL : NumsL (w.alloc (.cells #[.slice a1 n1 c1, .slice a2 n2 c2] 23)) (some ⟨w.heap.size, 0, none⟩) 2 [xs, ys] :=
    NumsL.two (by simp) (by simp) (h1.ext (Ext.of_alloc _ _)) (h2.ext (Ext.of_alloc _ _))
  refine callsIn_of_wp_marks Try.func28 rfl trivial ?_ rfl
  simp only [Try.ntmps28, List.size_toArray, List.length_cons, List.length_nil, Nat.reduceAdd, Nat.reduceSub, Array.replicate_succ, Array.replicate_zero, List.push_toArray, List.append_toArray, List.nil_append, List.cons_append]
  gi_wp2_with (first
    | (refine ⟨trivial, ?_⟩; gi_at_call 42; refine (open_wide.calls (long_any _ _ _ _ _ hL)).mono ?_; rintro e w1 ⟨v, rfl, hext1, rfl⟩; rw [hno])
    | (refine ⟨trivial, ?_⟩; gi_at_call 59; refine (open_wide.calls (pairs_any _ _ _ _ _ _ _ _ _ rfl rfl)).mono ?_; rintro e w' ⟨rfl, rfl⟩))
  have hw1 : Ext w w1 := (Ext.of_alloc _ _).trans hext1
  have k1 := h1.ext hw1
  have k2 := h2.ext hw1
  have bO := ((((Boxed.new w1 23 (.slice none 0 0)).alloc (.cells #[.int .u64 0] 48)).alloc (.cells #[.slice a1 n1 c1] 23)).alloc (.cells #[.slice a2 n2 c2] 23)).alloc (.cells #[.func (.func 70) #[] #[]] 58)
  have bR := (((Boxed.new (w1.alloc (.cells #[.slice none 0 0] 23)) 48 (.int .u64 0)).alloc (.cells #[.slice a1 n1 c1] 23)).alloc (.cells #[.slice a2 n2 c2] 23)).alloc (.cells #[.func (.func 70) #[] #[]] 58)
  have bA := ((Boxed.new ((w1.alloc (.cells #[.slice none 0 0] 23)).alloc (.cells #[.int .u64 0] 48)) 23 (.slice a1 n1 c1)).alloc (.cells #[.slice a2 n2 c2] 23)).alloc (.cells #[.func (.func 70) #[] #[]] 58)
  have bB := (Boxed.new (((w1.alloc (.cells #[.slice none 0 0] 23)).alloc (.cells #[.int .u64 0] 48)).alloc (.cells #[.slice a1 n1 c1] 23)) 23 (.slice a2 n2 c2)).alloc (.cells #[.func (.func 70) #[] #[]] 58)
  have bC := Boxed.new ((((w1.alloc (.cells #[.slice none 0 0] 23)).alloc (.cells #[.int .u64 0] 48)).alloc (.cells #[.slice a1 n1 c1] 23)).alloc (.cells #[.slice a2 n2 c2] 23)) 58 (.func (.func 70) #[] #[])
  simp only [World.size_alloc] at bR bA bB bC
  have hE : Ext w1 (((((w1.alloc (.cells #[.slice none 0 0] 23)).alloc (.cells #[.int .u64 0] 48)).alloc (.cells #[.slice a1 n1 c1] 23)).alloc (.cells #[.slice a2 n2 c2] 23)).alloc (.cells #[.func (.func 70) #[] #[]] 58)) := (((((Ext.refl w1).alloc _).alloc _).alloc _).alloc _).alloc _
  have hsz : (((((w1.alloc (.cells #[.slice none 0 0] 23)).alloc (.cells #[.int .u64 0] 48)).alloc (.cells #[.slice a1 n1 c1] 23)).alloc (.cells #[.slice a2 n2 c2] 23)).alloc (.cells #[.func (.func 70) #[] #[]] 58)).heap.size = w1.heap.size + 5 := by simp
  generalize (((((w1.alloc (.cells #[.slice none 0 0] 23)).alloc (.cells #[.int .u64 0] 48)).alloc (.cells #[.slice a1 n1 c1] 23)).alloc (.cells #[.slice a2 n2 c2] 23)).alloc (.cells #[.func (.func 70) #[] #[]] 58)) = W0 at *
  refine wpIn_rangeFunc_ownH rfl (by omega) (gf := 71) rfl trivial (enters_of Try.func71 (by kernel_rfl) rfl)
    (pairs_stops (w1.heap.size + 1 + 1) a1 a2 n1 c1 n2 c2 xs ys w1 W0 hE (by omega) k1 k2 bA.cell bB.cell bC.cell) (fun h k => h.trans k) (Hole.put (Nat.le_refl _)) (Below.refl _ _) (fun _ => rfl)
    (fun pre W => (((∃ v, Boxed W w1.heap.size 23 v ∧ W.ownsRow W0.heap.size 48 1 v (addL (pre.map Pr.two)).1.length (lims (addL (pre.map Pr.two)).1) ∧ True) ∧ Boxed W (w1.heap.size + 1) 48 (.int .u64 ((addL (pre.map Pr.two)).2 : Nat))) ∧ Ext w1 W) ∧ W0.heap.size ≤ W.heap.size)
    (fun _ _ _ => False)
    (OwnFrom.and (OwnFrom.and (OwnFrom.and (Own.from (holdsRow_own W0.heap.size w1.heap.size 23 48 1 (fun (pre : List Pr) => (addL (pre.map Pr.two)).1.length) (fun (pre : List Pr) => lims (addL (pre.map Pr.two)).1) (fun _ _ => True)) _) (Own.from (boxed_own _ _ _) _)) (ownFrom_below (Nat.le_refl _) hE.size)) (ownFrom_size _))
    (fun _ _ _ _ _ hs _ _ => hs)
    ⟨⟨⟨⟨_, bO, World.ownsRow_nil _ _ _ _, trivial⟩, bR⟩, hE⟩, Nat.le_refl _⟩
    (fun x a' W => ∃ Bx, W0.heap.size ≤ Bx ∧ Pair2 W Bx 68 x.x x.y ∧ a' = { tmps := #[.slice a1 n1 c1, .slice a2 n2 c2, undef, undef, .slice none 0 0, .int .i64 0,
          .pointer (some ⟨w1.heap.size, 0, none⟩), .pointer (some ⟨w1.heap.size + 1, 0, none⟩), undef, .pointer (some ⟨Bx, 0, none⟩), undef, undef, .slice a1 n1 c1, .slice a2 n2 c2, .slice (some ⟨w.heap.size, 0, none⟩) 2 2, .bool false, .slice a1 n1 c1, .slice a2 n2 c2,
          .func (.func 71) #[] #[.pointer (some ⟨w1.heap.size + 1 + 1, 0, none⟩), .pointer (some ⟨w1.heap.size + 1 + 1 + 1, 0, none⟩), .pointer (some ⟨w1.heap.size + 1 + 1 + 1 + 1, 0, none⟩)],
          .int .i64 x.i, .agg #[.int .u64 x.x, .int .u64 x.y], undef, undef, undef, undef, undef, undef, undef, undef, undef, undef, undef, undef, undef, undef, undef, undef, undef, undef, undef, undef, undef], defers := [] })
    (fun x a' _ X Y row hs hg hr => by obtain ⟨Bx, h1, h2, h3⟩ := hs; exact ⟨Bx, h1, h2.kept hg (fun e => by obtain ⟨_, o, ho, hc⟩ := hr _ e.symm; rw [h2] at ho; cases ho; cases hc), h3⟩)
    ?assign ?body ?done ?stop
  case assign =>
    rintro l pre x W K ⟨⟨⟨⟨v, bO1, own1, _⟩, bR1⟩, hE1⟩, hsW⟩ hK
    simp only [Pr.enc]
    gi_wp2
    exact hK _ _ ((KeepsOthers.alloc _ _).from _) ((Hole.refl _ _ _ W).alloc hsW _) ⟨⟨⟨⟨v, bO1.alloc _, own1.alloc _, trivial⟩, bR1.alloc _⟩, hE1.alloc _⟩, by simp; omega⟩ ⟨W.heap.size, hsW, Pair2.new _ _ _ _, rfl⟩
  case body =>
    rintro l pre x a' W hl ⟨r, hr⟩ ⟨⟨⟨⟨v, bO1, own1, _⟩, bR1⟩, hE1⟩, hsW⟩ ⟨Bx, hBx, p2, rfl⟩ hlt
    have d0 := p2.cell0
    have d1 := p2.cell1
    have cO := bO1.cell
    have fO := bO1.frozen
    have cR := bR1.cell
    have fR := bR1.frozen
    clear hr
    have hok := addL_ok' pre
    have hsub := run_Add64 x.x x.y (addL (pre.map Pr.two)).2 hok.2.1
    have hlen : (addL (pre.map Pr.two)).1.length ≤ 65536 := by rw [hok.1, List.length_map]; omega
    have HOK := Lib.hid hok
    clear hok
    gi_wp2_with (first | (gi_at_builtin; refine wpListIn_append_own _ rfl _ _ 23 rfl W0.heap.size 48 i0 (.int .u64 0) 1 8 Try.underlying23 hi hz0 hz1 hz2 rfl (by decide) _ _ _ rfl (own1.alloc _) ⟨W.heap.size, 0, none⟩ 1 1 [.int .u64 (((x.x + x.y + (addL (pre.map Pr.two)).2) % B64 : Nat) : Int)] rfl rfl (cell_one_new _ _ _) (by simp [Value.oneCell']) (by unfold maxLen; omega) (by omega) (by simp; omega) ?_; intro v' w2 hown' hgrow _; obtain ⟨g', cap', rfl⟩ := ownsRow_succ hown'; obtain ⟨hbo, hbr, hco, hfo, hcr, hfr⟩ := boxes2 bO1 bR1 own1 (by decide) (by omega) hgrow) | (refine ⟨trivial, ?_⟩))
    have R := round_app (u' := .int .u64 (((x.x + x.y + (addL (pre.map Pr.two)).2) / B64 : Nat) : Int)) (by decide) (by omega) hsW hE1 bO1 bR1 own1 hown' hgrow
    refine ⟨R.1, R.2.1, ?_⟩
    dsimp only
    rw [List.map_append, List.map_singleton, addL_snoc]
    exact R.2.2
  case done =>
    rintro D zs W hD hz ⟨⟨⟨⟨v, bO1, own1, _⟩, bR1⟩, hE1⟩, hsW⟩ hK
    have cO := bO1.cell
    have cR := bR1.cell
    have HZ := Lib.hid hz
    clear hz
    have hok := addL_ok' zs
    have hzl : zs.length = max n1 n2 := by have := congrArg List.length HZ.out; simpa [length_prs] using this
    have hle : (addL (zs.map Pr.two)).1.length ≤ 65535 := by rw [hok.1, List.length_map]; omega
    have HOK := Lib.hid hok
    clear hok
    gi_wp2_with (first
      | (gi_at_builtin; refine wpListIn_append_own _ rfl _ _ 23 rfl W0.heap.size 48 i0 (.int .u64 0) 1 8 Try.underlying23 hi hz0 hz1 hz2 rfl (by decide) _ _ _ rfl (own1.alloc _) ⟨W.heap.size, 0, none⟩ 1 1 [.int .u64 (((addL (zs.map Pr.two)).2 : Nat) : Int)] rfl rfl (cell_one_new _ _ _) (by simp [Value.oneCell']) (by unfold maxLen; omega) (by omega) (by simp; omega) ?_; intro v' w2 hown' hgrow _; have hb := own_block own1; obtain ⟨a', c', rfl, hn⟩ := Nums.of_app hown' hle HOK.out.2.2 (Nat.lt_of_le_of_lt HOK.out.2.1 B64_one))
      | (refine ⟨trivial, ?_⟩; gi_at_call 43; refine (open_wide.calls (told_any _ _ _ _ _ hn)).mono ?_; rintro e w3 ⟨v, rfl, hext3, hres⟩; obtain ⟨ar, nr, cr, kr, rfl, hout⟩ := hres.out))
    have hK1 : (W.alloc (.cells #[.int .u64 (((addL (zs.map Pr.two)).2 : Nat) : Int)] 48)).heap[D]? = some (.deferred (some [])) := (Ext.of_alloc W _).block hK
    have hK2 : w2.heap[D]? = some (.deferred (some [])) := (hgrow.block D (Array.getElem?_eq_some_iff.1 hK1).1 (own_ne (own1.alloc _) hK1 rfl)).trans hK1
    have hK3 := hext3.block hK2
    have hE3 : Ext w w3 := hw1.trans (((hE1.alloc _).grown hgrow (fun k e => by have := hb k e; omega)).trans hext3)
    refine ⟨by simp, .inl ⟨_, _, rfl, run_takeDeferred hK3, ?_⟩⟩
    refine ⟨_, results_tmp2 rfl _ _ _, _, rfl, Below.trans hE3 (belowK_b (w := w) (Nat.le_refl _) w3 D _ _ (by have := hw1.size; omega) hK3 rfl rfl), ?_⟩
    rw [← HZ.out]
    exact hres.put hK3 rfl _
  case stop =>
    rintro D c pre W _ _ h _
    exact h.elim

theorem add_any (a1 a2 : Option Addr) (n1 c1 n2 c2 : Nat) (xs ys : List Nat) (w : World) (h1 : Nums w a1 n1 c1 xs) (h2 : Nums w a2 n2 c2 ys) (hf1 : n1 ≤ 65535) (hf2 : n2 ≤ 65535) :
    Calls Try.prog 28 #[.slice a1 n1 c1, .slice a2 n2 c2] w (Post w fun v w' => NRes w' v (fit (val xs + val ys))) := by
  cases hno : [xs, ys].any isLong with
  | false =>
    have h := callsIn_wide.1 (add_in a1 a2 n1 c1 n2 c2 xs ys w h1 h2 hf1 hf2 hno)
    rwa [addL_val (max n1 n2) (by have := h1.len; omega) (by have := h2.len; omega)] at h
  | true =>
    have hL : NumsL (w.alloc (.cells #[.slice a1 n1 c1, .slice a2 n2 c2] 23)) (some ⟨w.heap.size, 0, none⟩) 2 [xs, ys] :=
      NumsL.two (by simp) (by simp) (h1.ext (Ext.of_alloc _ _)) (h2.ext (Ext.of_alloc _ _))
    have hf : fit (val xs + val ys) = none := by
      unfold fit
      rw [if_neg]
      rw [any_two, Bool.or_eq_true] at hno
      unfold isLong at hno
      simp only [decide_eq_true_eq] at hno
      generalize Top = T at *
      omega
    rw [hf]
    go_enter Try.func28, Try.ntmps28
    go_wp2_with (go_at_call 42; refine (long_any _ _ _ _ _ hL).mono ?_; rintro e w1 ⟨v, rfl, hext1, rfl⟩; rw [hno])
    go_ret2
    exact Post.mk ((Ext.of_alloc _ _).trans hext1) rfl
end Go.Proofs.Ytnecpkoibknacaa
