/- less and Add. -/
import Derived.Laws.Externs
import Derived.Maps.AppendAt
import Derived.Test.YtnecpkoibknacaaW4
import Derived.Test.YtnecpkoibknacaaPlainD
namespace Go.Proofs.Ytnecpkoibknacaa
open Go.RowKit Go.Shelf

attribute [local go_sem] Oper.semAt_some

/-- The model's own Sub64. -/
def subEntry : Array Value → Sem Value := fun args => do
  let (x, y, b) ← Extern.MathBitsCarry.three "Sub64" args
  pure (Extern.MathBitsCarry.pair ((x + Extern.MathBitsCarry.m64 - y - b) % Extern.MathBitsCarry.m64) (if x < y + b then 1 else 0))

theorem run_Sub64 (x y b : Nat) (hx : x < B64) (hy : y < B64) (hb : b ≤ 1) (w : World) :
    (callFunc 67 #[.int .u64 x, .int .u64 y, .int .u64 b]).run Try.prog w = .ok (.value (.tuple #[.int .u64 ((difOf B64 x y b : Nat) : Int), .int .u64 ((borOf x y b : Nat) : Int)])) w := by
  rw [run_callFunc_extern Try.func67 (by kernel_rfl) (by kernel_rfl) (by kernel_rfl) (e := subEntry) (by kernel_rfl)]
  have key : (subEntry #[.int .u64 x, .int .u64 y, .int .u64 b]).run Try.prog w = .ok (.tuple #[.int .u64 (((x + 18446744073709551616 - y - b) % 18446744073709551616 : Nat) : Int), .int .u64 ((borOf x y b : Nat) : Int)]) w := by
    have : b = 0 ∨ b = 1 := by omega
    rcases this with rfl | rfl <;> rfl
  rw [key]
  have e : (x + 18446744073709551616 - y - b) % 18446744073709551616 = difOf B64 x y b := by unfold difOf B64 at *; omega
  rw [e]; rfl
theorem run_Add64 (x y c : Nat) (hc : c ≤ 1) (w : World) :
    (callFunc 60 #[.int .u64 x, .int .u64 y, .int .u64 c]).run Try.prog w = .ok (.value (.tuple #[.int .u64 (((x + y + c) % B64 : Nat) : Int), .int .u64 (((x + y + c) / B64 : Nat) : Int)])) w := by
  rw [run_callFunc_extern Try.func60 (by kernel_rfl) (by kernel_rfl) (by kernel_rfl) (e := add64Entry) (by kernel_rfl), run_add64 x y c (by omega) (by omega) (by omega) (by omega)]
  simp only [Result.andThen]
  unfold B64
  congr 5 <;> omega

/-- Two boxes stay behind an append onto a row that is neither. -/
theorem boxes2 {W w1 : World} {B1 B2 t1 t2 base e size k : Nat} {u1 u2 v : Value} {xs : List Value} {tmp : Obj} (b1 : Boxed W B1 t1 u1) (b2 : Boxed W B2 t2 u2) (hr : W.ownsRow base e size v k xs) (h1 : t1 ≠ e) (h2 : B2 < base)
    (hg : (W.alloc tmp).grownBy w1 v.ownBlock) : Boxed w1 B1 t1 u1 ∧ Boxed w1 B2 t2 u2 ∧ w1.cell? ⟨B1, 0, none⟩ = some u1 ∧ w1.frozen? ⟨B1, 0, none⟩ = false ∧ w1.cell? ⟨B2, 0, none⟩ = some u2 ∧ w1.frozen? ⟨B2, 0, none⟩ = false := by
  have k1 : Boxed w1 B1 t1 u1 := (b1.alloc tmp).kept hg (b1.not_row h1 hr)
  have k2 : Boxed w1 B2 t2 u2 := (b2.alloc tmp).kept hg (fun e => by have := own_block hr B2 e.symm; omega)
  exact ⟨k1, k2, k1.cell, k1.frozen, k2.cell, k2.frozen⟩

theorem Nums.put {W : World} {a : Option Addr} {n c : Nat} {xs : List Nat} (h : Nums W a n c xs) {l : Nat} {o : Obj} (hl : W.heap[l]? = some o) (ho : o.isCells = false) (o' : Obj) : Nums (W.putObj l o') a n c xs :=
  ⟨h.len, h.few, h.cap, h.lt, h.at_.imp id fun ⟨b, off, ha, hc⟩ => ⟨b, off, ha, fun i hi => cell_kept (hc i hi) (grownBy_putObj' W l o') (fun r e => by cases e; exact ⟨o, hl, ho⟩)⟩⟩
/-- What a round that appends a limb, and turns the carry, leaves. -/
theorem round_app {w W0 W w1 : World} {v v' u u' : Value} {L : List Nat} {d tN tU : Nat} {tmp : Obj} (hne : tN ≠ tU) (hsz : w.heap.size + 2 ≤ W0.heap.size) (hsW : W0.heap.size ≤ W.heap.size) (hE1 : Ext w W)
    (bO1 : Boxed W w.heap.size tN v) (bR1 : Boxed W (w.heap.size + 1) tU u) (own1 : W.ownsRow W0.heap.size tU 1 v L.length (lims L))
    (hown' : w1.ownsRow W0.heap.size tU 1 v' (L.length + 1) (lims L ++ [Value.int .u64 (d : Int)])) (hgrow : (W.alloc tmp).grownBy w1 v.ownBlock) :
    KeepsFrom W0.heap.size W ((w1.setCell ⟨w.heap.size, 0, none⟩ v').setCell ⟨w.heap.size + 1, 0, none⟩ u') ∧
    Hole w.heap.size (w.heap.size + 1 + 1) W0.heap.size W ((w1.setCell ⟨w.heap.size, 0, none⟩ v').setCell ⟨w.heap.size + 1, 0, none⟩ u') ∧
    (((∃ v, Boxed ((w1.setCell ⟨w.heap.size, 0, none⟩ v').setCell ⟨w.heap.size + 1, 0, none⟩ u') w.heap.size tN v ∧ ((w1.setCell ⟨w.heap.size, 0, none⟩ v').setCell ⟨w.heap.size + 1, 0, none⟩ u').ownsRow W0.heap.size tU 1 v (L ++ [d]).length (lims (L ++ [d])) ∧ True) ∧
      Boxed ((w1.setCell ⟨w.heap.size, 0, none⟩ v').setCell ⟨w.heap.size + 1, 0, none⟩ u') (w.heap.size + 1) tU u') ∧ Ext w ((w1.setCell ⟨w.heap.size, 0, none⟩ v').setCell ⟨w.heap.size + 1, 0, none⟩ u')) ∧
    W0.heap.size ≤ ((w1.setCell ⟨w.heap.size, 0, none⟩ v').setCell ⟨w.heap.size + 1, 0, none⟩ u').heap.size := by
  obtain ⟨hbo, hbr, _⟩ := boxes2 bO1 bR1 own1 hne (by omega) hgrow
  have hb := own_block own1
  have hb' := own_block hown'
  have hn1 : ∀ {x : Value} {B : Nat}, (∀ k, x.ownBlock = some k → W0.heap.size ≤ k) → B < W0.heap.size → x.ownBlock = none ∨ x.ownBlock ≠ some B := fun h hB => .inr fun e => by have := h _ e; omega
  have hsA : W0.heap.size ≤ (W.alloc tmp).heap.size := by simp; omega
  refine ⟨(((((KeepsOthers.alloc W tmp).trans (KeepsOthers.of_grownBy hgrow fun j o ej hj => ?_)).trans (KeepsOthers.setCell _ _ _)).trans (KeepsOthers.setCell _ _ _)).from _), ?_, ⟨⟨⟨v', ?_, ?_, trivial⟩, ?_⟩, ?_⟩, ?_⟩
  · rcases (own1.alloc tmp).2 with ⟨rfl, _⟩ | ⟨g, cap, cur, rfl, _, hgb, _⟩
    · simp [Value.ownBlock] at ej
    · obtain rfl : g = j := by simpa [Value.ownBlock] using ej
      rw [hgb] at hj; cases hj; rfl
  · exact ((((Hole.refl w.heap.size (w.heap.size + 1 + 1) W0.heap.size W).alloc hsW tmp).grown hgrow hsA (fun k e => ⟨by have := hb k e; omega, .inr (hb k e)⟩)).set (p := ⟨w.heap.size, 0, none⟩) (Nat.le_refl _) (.inl (by simp; omega)) _).set (p := ⟨w.heap.size + 1, 0, none⟩) (by simp) (.inl (by simp)) _
  · exact (hbo.set v').other (by omega) _
  · rw [lims_snoc, List.length_append, List.length_singleton]
    exact (hown'.kept (grownBy_setCell' w1 w.heap.size v') (hn1 hb' (by omega))).kept (grownBy_setCell' _ (w.heap.size + 1) u') (hn1 hb' (by omega))
  · exact (hbr.other (by omega) v').set u'
  · exact (((hE1.alloc tmp).grown hgrow (fun k e => by have := hb k e; omega)).set (p := ⟨w.heap.size, 0, none⟩) (Nat.le_refl _) _).set (p := ⟨w.heap.size + 1, 0, none⟩) (by simp) _
  · have := hgrow.size
    simp only [World.size_alloc] at this
    simp [World.setCell]; omega

set_option maxRecDepth 100000 in
set_option maxHeartbeats 2000000 in
theorem less_in (a1 a2 : Option Addr) (n1 c1 n2 c2 : Nat) (xs ys : List Nat) (w : World) (h1 : Nums w a1 n1 c1 xs) (h2 : Nums w a2 n2 c2 ys) :
    CallsIn Fence.wide 4 Try.prog 49 #[.slice a1 n1 c1, .slice a2 n2 c2] w (Post w fun v w' => ∃ a n c, v = .slice a n c ∧ Nums w' a n c (limbs (val (subL (prs xs ys (max n1 n2))).1)) ∧ Fresh w.heap.size a) := by
  obtain ⟨i0, hi, hz0, hz1, hz2⟩ := info_parts info_u64
  have f1 := h1.few
  have f2 := h2.few
  refine callsIn_of_wp_marks Try.func49 rfl trivial ?_ rfl
  simp only [Try.ntmps49, List.size_toArray, List.length_cons, List.length_nil, Nat.reduceAdd, Nat.reduceSub, Array.replicate_succ, Array.replicate_zero, List.push_toArray, List.append_toArray, List.nil_append, List.cons_append]
  gi_wp2_with (refine ⟨trivial, ?_⟩; gi_at_call 59; refine (open_wide.calls (pairs_any _ _ _ _ _ _ _ _ _ rfl rfl)).mono ?_; rintro e w' ⟨rfl, rfl⟩)
  have bO := ((((Boxed.new w 23 (.slice none 0 0)).alloc (.cells #[.int .u64 0] 48)).alloc (.cells #[.slice a1 n1 c1] 23)).alloc (.cells #[.slice a2 n2 c2] 23)).alloc (.cells #[.func (.func 70) #[] #[]] 58)
  have bR := (((Boxed.new (w.alloc (.cells #[.slice none 0 0] 23)) 48 (.int .u64 0)).alloc (.cells #[.slice a1 n1 c1] 23)).alloc (.cells #[.slice a2 n2 c2] 23)).alloc (.cells #[.func (.func 70) #[] #[]] 58)
  have bA := ((Boxed.new ((w.alloc (.cells #[.slice none 0 0] 23)).alloc (.cells #[.int .u64 0] 48)) 23 (.slice a1 n1 c1)).alloc (.cells #[.slice a2 n2 c2] 23)).alloc (.cells #[.func (.func 70) #[] #[]] 58)
  have bB := (Boxed.new (((w.alloc (.cells #[.slice none 0 0] 23)).alloc (.cells #[.int .u64 0] 48)).alloc (.cells #[.slice a1 n1 c1] 23)) 23 (.slice a2 n2 c2)).alloc (.cells #[.func (.func 70) #[] #[]] 58)
  have bC := Boxed.new ((((w.alloc (.cells #[.slice none 0 0] 23)).alloc (.cells #[.int .u64 0] 48)).alloc (.cells #[.slice a1 n1 c1] 23)).alloc (.cells #[.slice a2 n2 c2] 23)) 58 (.func (.func 70) #[] #[])
  simp only [World.size_alloc] at bR bA bB bC
  have hE : Ext w (((((w.alloc (.cells #[.slice none 0 0] 23)).alloc (.cells #[.int .u64 0] 48)).alloc (.cells #[.slice a1 n1 c1] 23)).alloc (.cells #[.slice a2 n2 c2] 23)).alloc (.cells #[.func (.func 70) #[] #[]] 58)) := (((((Ext.refl w).alloc _).alloc _).alloc _).alloc _).alloc _
  have hsz : (((((w.alloc (.cells #[.slice none 0 0] 23)).alloc (.cells #[.int .u64 0] 48)).alloc (.cells #[.slice a1 n1 c1] 23)).alloc (.cells #[.slice a2 n2 c2] 23)).alloc (.cells #[.func (.func 70) #[] #[]] 58)).heap.size = w.heap.size + 5 := by simp
  generalize (((((w.alloc (.cells #[.slice none 0 0] 23)).alloc (.cells #[.int .u64 0] 48)).alloc (.cells #[.slice a1 n1 c1] 23)).alloc (.cells #[.slice a2 n2 c2] 23)).alloc (.cells #[.func (.func 70) #[] #[]] 58)) = W0 at *
  refine wpIn_rangeFunc_ownH rfl (by omega) (gf := 71) rfl trivial (enters_of Try.func71 (by kernel_rfl) rfl)
    (pairs_stops (w.heap.size + 1 + 1) a1 a2 n1 c1 n2 c2 xs ys w W0 hE (by omega) h1 h2 bA.cell bB.cell bC.cell) (fun h k => h.trans k) (Hole.put (Nat.le_refl _)) (Below.refl _ _) (fun _ => rfl)
    (fun pre W => (((∃ v, Boxed W w.heap.size 23 v ∧ W.ownsRow W0.heap.size 48 1 v (subL (pre.map Pr.two)).1.length (lims (subL (pre.map Pr.two)).1) ∧ True) ∧ Boxed W (w.heap.size + 1) 48 (.int .u64 ((subL (pre.map Pr.two)).2 : Nat))) ∧ Ext w W) ∧ W0.heap.size ≤ W.heap.size)
    (fun _ _ _ => False)
    (OwnFrom.and (OwnFrom.and (OwnFrom.and (Own.from (holdsRow_own W0.heap.size w.heap.size 23 48 1 (fun (pre : List Pr) => (subL (pre.map Pr.two)).1.length) (fun (pre : List Pr) => lims (subL (pre.map Pr.two)).1) (fun _ _ => True)) _) (Own.from (boxed_own _ _ _) _)) (ownFrom_below (Nat.le_refl _) hE.size)) (ownFrom_size _))
    (fun _ _ _ _ _ hs _ _ => hs)
    ⟨⟨⟨⟨_, bO, World.ownsRow_nil _ _ _ _, trivial⟩, bR⟩, hE⟩, Nat.le_refl _⟩
    (fun x a' W => ∃ Bx, W0.heap.size ≤ Bx ∧ Pair2 W Bx 68 x.x x.y ∧ a' = { tmps := #[.slice a1 n1 c1, .slice a2 n2 c2, undef, undef, .slice none 0 0,
          .pointer (some ⟨w.heap.size, 0, none⟩), .pointer (some ⟨w.heap.size + 1, 0, none⟩), undef, .pointer (some ⟨Bx, 0, none⟩), undef, undef, .slice a1 n1 c1, .slice a2 n2 c2,
          .func (.func 71) #[] #[.pointer (some ⟨w.heap.size + 1 + 1, 0, none⟩), .pointer (some ⟨w.heap.size + 1 + 1 + 1, 0, none⟩), .pointer (some ⟨w.heap.size + 1 + 1 + 1 + 1, 0, none⟩)],
          .int .i64 x.i, .agg #[.int .u64 x.x, .int .u64 x.y], undef, undef, undef, undef, undef, undef, undef, undef, undef, undef, undef, undef, undef, undef, undef, undef], defers := [] })
    (fun x a' _ X Y row hs hg hr => by obtain ⟨Bx, h1, h2, h3⟩ := hs; exact ⟨Bx, h1, h2.kept hg (fun e => by obtain ⟨_, o, ho, hc⟩ := hr _ e.symm; rw [h2] at ho; cases ho; cases hc), h3⟩)
    ?assign ?body ?done ?stop
  case assign =>
    rintro l pre x W K ⟨⟨⟨⟨v, bO1, own1, _⟩, bR1⟩, hE1⟩, hsW⟩ hK
    simp only [Pr.enc]
    gi_wp2
    exact hK _ _ ((KeepsOthers.alloc _ _).from _) ((Hole.refl _ _ _ W).alloc hsW _) ⟨⟨⟨⟨v, bO1.alloc _, own1.alloc _, trivial⟩, bR1.alloc _⟩, hE1.alloc _⟩, by simp; omega⟩ ⟨W.heap.size, hsW, Pair2.new _ _ _ _, rfl⟩
  case body =>
    rintro l pre x a' W hl ⟨r, hr⟩ ⟨⟨⟨⟨v, bO1, own1, _⟩, bR1⟩, hE1⟩, hsW⟩ ⟨Bx, hBx, p2, rfl⟩ hlt
    have d0 := p2.cell0
    have d1 := p2.cell1
    have cO := bO1.cell
    have fO := bO1.frozen
    have cR := bR1.cell
    have fR := bR1.frozen
    clear hr
    have hok := subL_ok (pre.map Pr.two)
    have hsub := run_Sub64 x.x x.y (subL (pre.map Pr.two)).2 x.hx x.hy hok.2.1
    have hlen : (subL (pre.map Pr.two)).1.length ≤ 65536 := by rw [hok.1, List.length_map]; omega
    have HOK := Lib.hid hok
    clear hok
    gi_wp2_with (first | (gi_at_builtin; refine wpListIn_append_own _ rfl _ _ 23 rfl W0.heap.size 48 i0 (.int .u64 0) 1 8 Try.underlying23 hi hz0 hz1 hz2 rfl (by decide) _ _ _ rfl (own1.alloc _) ⟨W.heap.size, 0, none⟩ 1 1 [.int .u64 ((difOf B64 x.x x.y (subL (pre.map Pr.two)).2 : Nat) : Int)] rfl rfl (cell_one_new _ _ _) (by simp [Value.oneCell']) (by unfold maxLen; omega) (by omega) (by simp; omega) ?_; intro v' w1 hown' hgrow _; obtain ⟨g', cap', rfl⟩ := ownsRow_succ hown'; obtain ⟨hbo, hbr, hco, hfo, hcr, hfr⟩ := boxes2 bO1 bR1 own1 (by decide) (by omega) hgrow) | (refine ⟨trivial, ?_⟩))
    have R := round_app (u' := .int .u64 ((borOf x.x x.y (subL (pre.map Pr.two)).2 : Nat) : Int)) (by decide) (by omega) hsW hE1 bO1 bR1 own1 hown' hgrow
    refine ⟨R.1, R.2.1, ?_⟩
    dsimp only
    rw [List.map_append, List.map_singleton, subL_snoc]
    exact R.2.2
  case done =>
    rintro D zs W hD hz ⟨⟨⟨⟨v, bO1, own1, _⟩, bR1⟩, hE1⟩, hsW⟩ hK
    have cO := bO1.cell
    have HZ := Lib.hid hz
    clear hz
    obtain ⟨hok1, hok2, hok3⟩ := subL_ok (zs.map Pr.two)
    have hzl : zs.length = max n1 n2 := by have := congrArg List.length HZ.out; simpa [length_prs] using this
    have hle : (subL (zs.map Pr.two)).1.length ≤ 65536 := by rw [hok1, List.length_map]; omega
    obtain ⟨a', c', rfl, hn⟩ := Nums.of_own own1 hle hok3
    have HK1 := Lib.hid hok1
    have HK3 := Lib.hid hok3
    clear hok1 hok3
    gi_wp2_with (refine ⟨trivial, ?_⟩; gi_at_call 41; refine (open_wide.calls (normal_own _ _ _ _ _ hn)).mono ?_; rintro e w2 ⟨v, rfl, hext2, a2', n2', c2', rfl, hn2, hfr⟩)
    have hK2 := hext2.block hK
    refine ⟨by simp, .inl ⟨_, _, rfl, run_takeDeferred hK2, ?_⟩⟩
    refine ⟨_, results_tmp rfl _ _ _, _, rfl, Below.trans (hE1.trans hext2) (belowK_b (w := w) (Nat.le_refl _) w2 D _ _ (by omega) hK2 rfl rfl), a2', n2', c2', rfl, ?_, fun p hp => Nat.le_trans hE1.size (hfr p hp)⟩
    rw [← HZ.out]
    exact hn2.put hK2 rfl _
  case stop =>
    rintro D c pre W _ _ h _
    exact h.elim

theorem less_own (a1 a2 : Option Addr) (n1 c1 n2 c2 : Nat) (xs ys : List Nat) (w : World) (h1 : Nums w a1 n1 c1 xs) (h2 : Nums w a2 n2 c2 ys) (hle : val ys ≤ val xs) :
    Calls Try.prog 49 #[.slice a1 n1 c1, .slice a2 n2 c2] w (Post w fun v w' => ∃ a n c, v = .slice a n c ∧ Nums w' a n c (limbs (val xs - val ys)) ∧ Fresh w.heap.size a) := by
  have h := callsIn_wide.1 (less_in a1 a2 n1 c1 n2 c2 xs ys w h1 h2)
  rwa [subL_val h1.lt h2.lt (max n1 n2) (by have := h1.len; omega) (by have := h2.len; omega) hle] at h
theorem less_any (a1 a2 : Option Addr) (n1 c1 n2 c2 : Nat) (xs ys : List Nat) (w : World) (h1 : Nums w a1 n1 c1 xs) (h2 : Nums w a2 n2 c2 ys) (hle : val ys ≤ val xs) :
    Calls Try.prog 49 #[.slice a1 n1 c1, .slice a2 n2 c2] w (Post w fun v w' => ∃ a n c, v = .slice a n c ∧ Nums w' a n c (limbs (val xs - val ys))) := by
  refine (less_own a1 a2 n1 c1 n2 c2 xs ys w h1 h2 hle).mono ?_
  rintro e w' ⟨v, rfl, hext, a, n, c, rfl, hn, _⟩
  exact Post.mk hext ⟨a, n, c, rfl, hn⟩
end Go.Proofs.Ytnecpkoibknacaa
