/- Parts of the proof: contracts of the functions that the law reaches, and the arithmetic that they rest on; no condition beyond those that each theorem states. -/
import Derived.Test.YtbncdghbnnefdaaGreatM14
import Derived.Test.YtbncdghbnnefdaaGreatM16
import Derived.Test.YtbncdghbnnefdaaGreatM17
import Derived.Test.YtbncdghbnnefdaaGreatM21

namespace Go.Proofs.YtbncdghbnnefdaaGreat
open Go.RowKit

/-- The reference's maker, in memory. -/
structure RMk (w : World) (B qb : Nat) (row : Value) (bud pars : Nat) (L : List Step) : Prop where
  b1 : B ≤ qb
  blk : w.heap[qb]? = some (.cells #[.int .i64 bud, .int .i64 pars, row] 63 (0, 0))
  steps : ∃ cells, OwnsU w B 78 6 row L.length cells ∧ ∀ (i : Nat) (s : Step), L[i]? = some s → StepCells w cells i s
  len : L.length ≤ bud
  bud1 : bud ≤ 20000
  pars1 : pars ≤ 200
theorem RMk.c0 {w : World} {B qb bud pars : Nat} {row : Value} {L : List Step} (h : RMk w B qb row bud pars L) : w.cell? ⟨qb, 0, none⟩ = some (.int .i64 bud) := by simp [World.cell?, h.blk]
theorem RMk.c1 {w : World} {B qb bud pars : Nat} {row : Value} {L : List Step} (h : RMk w B qb row bud pars L) : w.cell? ⟨qb, 1, none⟩ = some (.int .i64 pars) := by simp [World.cell?, h.blk]
theorem RMk.c2 {w : World} {B qb bud pars : Nat} {row : Value} {L : List Step} (h : RMk w B qb row bud pars L) : w.cell? ⟨qb, 2, none⟩ = some row := by simp [World.cell?, h.blk]
theorem RMk.fr {w : World} {B qb bud pars : Nat} {row : Value} {L : List Step} (h : RMk w B qb row bud pars L) (o : Nat) : w.frozen? ⟨qb, o, none⟩ = false := by simp [World.frozen?, h.blk]
theorem RMk.lts {w : World} {B qb bud pars : Nat} {row : Value} {L : List Step} (h : RMk w B qb row bud pars L) : qb < w.heap.size ∧ ∀ k, row.ownBlock = some k → B ≤ k ∧ k < w.heap.size := by
  obtain ⟨cells, ho, hs⟩ := h.steps
  exact ⟨(Array.getElem?_eq_some_iff.1 h.blk).1, fun k hk => ho.lt k hk⟩
theorem RMk.rp {w : World} {B qb bud pars : Nat} {row : Value} {L : List Step} (h : RMk w B qb row bud pars L) : row.ownBlock ≠ some qb := by
  obtain ⟨cells, ho, hs⟩ := h.steps
  intro e
  rcases ho.1.2 with ⟨rfl, _⟩ | ⟨g, cap, cur, rfl, _, hg, _⟩
  · cases e
  · cases e
    have := h.blk
    rw [hg] at this
    simp at this
theorem RMk.kept {w w' : World} {B qb bud pars : Nat} {row : Value} {L : List Step} (h : RMk w B qb row bud pars L) (e : Ext w w') : RMk w' B qb row bud pars L := by
  obtain ⟨cells, ho, hs⟩ := h.steps
  exact ⟨h.b1, e.block h.blk, ⟨cells, ho.kept fun k hk => Below.block e k (ho.lt k hk).2, fun i s hi => (hs i s hi).keep e.keeps⟩, h.len, h.bud1, h.pars1⟩
theorem RMk.far {w w' : World} {B p1 m1 qb bud pars : Nat} {r1 r1' r2 : Value} {L : List Step} (h : RMk w B qb r2 bud pars L) (hm : Mv p1 m1 r1 r1' w w') (hf : Far p1 m1 r1 qb qb r2) : RMk w' B qb r2 bud pars L := by
  obtain ⟨a, b, c, d, e, f, g, i, j⟩ := hf
  obtain ⟨l1, l3⟩ := h.lts
  obtain ⟨cells, ho, hs⟩ := h.steps
  refine ⟨h.b1, ?_, ⟨cells, ho.kept fun k hk => hm.block k (l3 k hk).2 (fun e => g (by rw [hk, e])) (fun e => i (by rw [hk, e])) (fun e => j k e hk), fun n s hn => (hs n s hn).keep hm.keeps⟩, h.len, h.bud1, h.pars1⟩
  rw [hm.block qb l1 a.symm c.symm e]
  exact h.blk
theorem RMk.rowSteps {w : World} {B qb bud pars : Nat} {row : Value} {L : List Step} (h : RMk w B qb row bud pars L) : ∃ a c, row = .slice a L.length c ∧ Steps w a L.length c L := by
  obtain ⟨cells, ho, hs⟩ := h.steps
  have hrow : ∃ a c, row = .slice a L.length c := by
    rcases ho.1.2 with ⟨e, e0⟩ | ⟨g, cap, cur, e, _⟩
    · exact ⟨none, 0, by rw [e, e0]⟩
    · exact ⟨_, cap, e⟩
  obtain ⟨a, c, rfl⟩ := hrow
  have := h.len
  have := h.bud1
  exact ⟨a, c, rfl, steps_of ho.1 (by omega) hs⟩
theorem rnew_no (b : Int) (w : World) (h : b < 1 ∨ 20000 < b) : Calls Tryz.prog 6 #[.int .i64 b] w (Post w fun v _ => v = .tuple #[.pointer none, .int .i64 2]) := by
  by_cases h1 : b < 1
  · clear h
    go_enter Tryz.func6, Tryz.ntmps6
    go_wp2
    go_ret2
    exact Post.mk (by repeat (first | with_reducible exact Ext.refl _ | with_reducible assumption | (with_reducible refine Ext.alloc ?_ _) | (with_reducible refine Ext.drew ?_) | (with_reducible refine Ext.drewN ?_ _) | (with_reducible refine Ext.set ?_ (by first | (simp; done) | (simp; omega)) _) | (with_reducible refine Ext.trans ?_ (by with_reducible assumption)))) rfl
  · have h2 : 20000 < b := by omega
    clear h
    go_enter Tryz.func6, Tryz.ntmps6
    go_wp2
    go_ret2
    exact Post.mk (by repeat (first | with_reducible exact Ext.refl _ | with_reducible assumption | (with_reducible refine Ext.alloc ?_ _) | (with_reducible refine Ext.drew ?_) | (with_reducible refine Ext.drewN ?_ _) | (with_reducible refine Ext.set ?_ (by first | (simp; done) | (simp; omega)) _) | (with_reducible refine Ext.trans ?_ (by with_reducible assumption)))) rfl
theorem rnew_yes (b : Nat) (w : World) (h1 : 1 ≤ b) (h2 : b ≤ 20000) : Calls Tryz.prog 6 #[.int .i64 b] w
    fun e w' => ∃ qb, e = .returned (.tuple #[.pointer (some ⟨qb, 0, none⟩), .int .i64 0]) ∧ Ext w w' ∧ w.heap.size ≤ qb ∧ RMk w' w.heap.size qb (.slice none 0 0) b 0 [] := by
  have k1 : ¬ (b : Int) < 1 := by omega
  have k2 : ¬ (20000 : Int) < b := by omega
  have hm : RMk (w.alloc (.cells #[.int .i64 b, .int .i64 0, .slice none 0 0] 63)) w.heap.size w.heap.size (.slice none 0 0) b 0 [] :=
    ⟨Nat.le_refl _, heap_alloc_new w _, ⟨[], OwnsU.nil _ _ _ _, fun i s h => by simp at h⟩, Nat.zero_le _, h2, Nat.zero_le _⟩
  have HM := Lib.hid hm
  clear hm h1 h2
  go_enter Tryz.func6, Tryz.ntmps6
  go_wp2
  go_ret2
  exact ⟨w.heap.size, rfl, Ext.of_alloc _ _, Nat.le_refl _, HM.out⟩

/-- What a call of the reference's maker tells, and the maker behind it. -/
def RRes (B qb bud : Nat) (row : Value) (w : World) (i er pars' : Nat) (L' : List Step) (e : Ending) (w' : World) : Prop :=
  ∃ row', e = .returned (.tuple #[.int .i64 i, .int .i64 er]) ∧ RMk w' B qb row' bud pars' L' ∧ Mv qb qb row row' w w'
/-- The two makers, in memory that the call has made. -/
structure Duo (w0 w : World) (p1 m1 : Nat) (r1 : Value) (b1 k1 : Nat) (L1 : List Step) (qb : Nat) (r2 : Value) : Prop where
  ext : Ext w0 w
  one : Mk w w0.heap.size p1 m1 r1 b1 k1 k1 L1
  two : RMk w w0.heap.size qb r2 b1 k1 L1
  far : Far p1 m1 r1 qb qb r2
/-- The makers, the reference's one call behind. -/
structure Odd (w0 w : World) (p1 m1 : Nat) (r1 : Value) (b1 k1 : Nat) (L1 : List Step) (qb : Nat) (r2 : Value) (k2 : Nat) (L2 : List Step) : Prop where
  ext : Ext w0 w
  one : Mk w w0.heap.size p1 m1 r1 b1 k1 k1 L1
  two : RMk w w0.heap.size qb r2 b1 k2 L2
  far : Far p1 m1 r1 qb qb r2
theorem Duo.more {w0 w w' : World} {p1 m1 b1 k1 qb : Nat} {r1 r2 : Value} {L1 : List Step} (h : Duo w0 w p1 m1 r1 b1 k1 L1 qb r2) (e : Ext w w') : Duo w0 w' p1 m1 r1 b1 k1 L1 qb r2 := ⟨h.ext.trans e, h.one.kept e, h.two.kept e, h.far⟩
theorem Odd.more {w0 w w' : World} {p1 m1 b1 k1 qb k2 : Nat} {r1 r2 : Value} {L1 L2 : List Step} (h : Odd w0 w p1 m1 r1 b1 k1 L1 qb r2 k2 L2) (e : Ext w w') : Odd w0 w' p1 m1 r1 b1 k1 L1 qb r2 k2 L2 := ⟨h.ext.trans e, h.one.kept e, h.two.kept e, h.far⟩
theorem far_left {w w' : World} {p1 m1 qb : Nat} {r1 r1' r2 : Value} (f : Far p1 m1 r1 qb qb r2) (m : Mv p1 m1 r1 r1' w w') (hq : qb < w.heap.size) (h2 : ∀ k, r2.ownBlock = some k → k < w.heap.size) : Far p1 m1 r1' qb qb r2 := by
  obtain ⟨a, b, c, d, e, f, g, i, j⟩ := f
  rcases m.row with e' | ⟨x, e', hx⟩
  · exact ⟨a, b, c, d, by rw [e']; exact e, by rw [e']; exact f, g, i, fun k hk => j k (by rw [← e']; exact hk)⟩
  · refine ⟨a, b, c, d, by rw [e']; intro e; cases e; omega, by rw [e']; intro e; cases e; omega, g, i, fun k hk hk2 => ?_⟩
    rw [e'] at hk
    cases hk
    have := h2 _ hk2
    omega
theorem Duo.left {w0 w w' : World} {p1 m1 b1 k1 qb i er k1' : Nat} {r1 r2 : Value} {L1 L1' : List Step} {e : Ending} (h : Duo w0 w p1 m1 r1 b1 k1 L1 qb r2) (hr : MkRes w0.heap.size p1 m1 b1 r1 w i er k1' L1' e w') :
    ∃ r1', e = .returned (.tuple #[.int .i64 i, .int .i64 er]) ∧ Odd w0 w' p1 m1 r1' b1 k1' L1' qb r2 k1 L1 ∧ Mv p1 m1 r1 r1' w w' := by
  obtain ⟨r1', he, hM, hv⟩ := hr
  obtain ⟨l1, l2, l3⟩ := h.one.lts
  obtain ⟨s1, s3⟩ := h.two.lts
  refine ⟨r1', he, ⟨?_, hM, h.two.far hv h.far, far_left h.far hv s1 (fun k hk => (s3 k hk).2)⟩, hv⟩
  refine ⟨hv.os.trans h.ext.os, hv.tape.trans h.ext.tape, hv.output.trans h.ext.output, Nat.le_trans h.ext.size hv.size, fun k hk => ?_⟩
  have := h.ext.size
  rw [hv.block k (by omega) (by have := h.one.b1; omega) (by have := h.one.b2; omega) (fun e => by have := (l3 k e).1; omega)]
  exact Below.block h.ext k hk
theorem Odd.right {w0 w w' : World} {p1 m1 b1 k1 qb k2 i er : Nat} {r1 r2 : Value} {L1 L2 : List Step} {e : Ending} (h : Odd w0 w p1 m1 r1 b1 k1 L1 qb r2 k2 L2) (hr : RRes w0.heap.size qb b1 r2 w i er k1 L1 e w') :
    ∃ r2', e = .returned (.tuple #[.int .i64 i, .int .i64 er]) ∧ Duo w0 w' p1 m1 r1 b1 k1 L1 qb r2' ∧ Mv qb qb r2 r2' w w' := by
  obtain ⟨r2', he, hM, hv⟩ := hr
  obtain ⟨l1, l2, l3⟩ := h.one.lts
  obtain ⟨s1, s3⟩ := h.two.lts
  have hf : Far qb qb r2' p1 m1 r1 := by
    obtain ⟨a, b, c, d, e, f, g, i, j⟩ := h.far.symm
    rcases hv.row with e' | ⟨x, e', hx⟩
    · exact ⟨a, b, c, d, by rw [e']; exact e, by rw [e']; exact f, g, i, fun k hk => j k (by rw [← e']; exact hk)⟩
    · refine ⟨a, b, c, d, by rw [e']; intro e; cases e; omega, by rw [e']; intro e; cases e; omega, g, i, fun k hk hk2 => ?_⟩
      rw [e'] at hk
      cases hk
      have := (l3 _ hk2).2
      omega
  refine ⟨r2', he, ⟨?_, h.one.far hv h.far.symm, hM, hf.symm⟩, hv⟩
  refine ⟨hv.os.trans h.ext.os, hv.tape.trans h.ext.tape, hv.output.trans h.ext.output, Nat.le_trans h.ext.size hv.size, fun k hk => ?_⟩
  have := h.ext.size
  rw [hv.block k (by omega) (by have := h.two.b1; omega) (by have := h.two.b1; omega) (fun e => by have := (s3 k e).1; omega)]
  exact Below.block h.ext k hk
end Go.Proofs.YtbncdghbnnefdaaGreat

namespace Go.Proofs.YtbncdghbnnefdaaGreat
open Go.RowKit

/-- Behind the append: the maker, and what has turned. -/
theorem rput_done {w W6 V1 V2 V3 : World} {B qb bud pars g cap : Nat} {row : Value} {L : List Step} {s : Step} {cells : List Value} {v : Array Value} (hM : RMk w B qb row bud pars L) (hown : OwnsU w B 78 6 row L.length cells)
    (hst : ∀ (i : Nat) (s : Step), L[i]? = some s → StepCells w cells i s) (hs : IsStep w (.agg v) s) (E6 : Ext w W6) (E1 : Ext W6 V1) (hown2 : OwnsU V2 B 78 6 (.slice (some ⟨g, 0, none⟩) (L.length + 1) cap) (L.length + 1) (cells ++ v.toList))
    (hg : V1.grownBy V2 row.ownBlock) (hat : row.ownBlock = some g ∨ g = W6.heap.size + 1) (hV : V3 = V2.setCell ⟨qb, 2, none⟩ (.slice (some ⟨g, 0, none⟩) (L.length + 1) cap)) (hb : L.length < bud) (hv : v.size = 6 := by rfl) :
    RRes B qb bud row w L.length 0 pars (L ++ [s]) (.returned (.tuple #[.int .i64 L.length, .int .i64 0])) V3 := by
  obtain ⟨l1, l3⟩ := hM.lts
  have E := E6.trans E1
  have hsz := E.size
  have hsz6 := E6.size
  have hgq : g ≠ qb := by
    rcases hat with h | h
    · intro e; exact hM.rp (by rw [h, e])
    · omega
  have hlen6 : cells.length = 6 * L.length := by have := hown.1.1; omega
  have kV : Keeps w V2 := E.keeps.trans (OwnsU.keeps (hown.kept fun k hk => Below.block E k (hown.lt k hk).2) hg)
  have hblk : V2.heap[qb]? = some (.cells #[.int .i64 bud, .int .i64 pars, row] 63 (0, 0)) := by
    rw [hg.block qb (by omega) (fun e => hM.rp e.symm)]
    exact E.block hM.blk
  have kS : Keeps w V3 := by
    rw [hV]
    refine Keeps.set kV ?_ _
    simp [World.cell?, hblk]
    cases row <;> simp [isU]
    all_goals
      rcases hown.1.2 with ⟨e, _⟩ | ⟨_, _, _, e, _⟩ <;> cases e
  refine ⟨.slice (some ⟨g, 0, none⟩) (L.length + 1) cap, rfl, ⟨hM.b1, ?_, ⟨cells ++ v.toList, ?_, fun i t hi => ?_⟩, by simp; omega, hM.bud1, hM.pars1⟩, ⟨?_, ?_, ?_, ?_, fun k hk h1 h2 h3 => ?_, ?_, kS⟩⟩
  · rw [hV]
    simp [World.setCell, Array.getElem?_modify, hblk]
  · rw [List.length_append, List.length_singleton]
    refine hown2.kept fun k hk => ?_
    cases hk
    rw [hV]
    simp only [World.setCell, Array.getElem?_modify]
    rw [if_neg (fun e => hgq e.symm)]
  · by_cases hil : i < L.length
    · rw [List.getElem?_append_left hil] at hi
      exact ((hst i t hi).keep kS).append (by omega)
    · have hil' : i = L.length := by have := (List.getElem?_eq_some_iff.1 hi).1; simp at this; omega
      subst hil'
      rw [List.getElem?_concat_length] at hi
      cases hi
      exact StepCells.last (hs.keep kS) hlen6 hv
  · rw [hV]; exact hg.os.trans E.os
  · rw [hV]; exact hg.tape.trans E.tape
  · rw [hV]; exact hg.output.trans E.output
  · rw [hV]; simp; have := hg.size; omega
  · rw [hV]
    simp only [World.setCell, Array.getElem?_modify]
    rw [if_neg (fun e => h1 e.symm), hg.block k (by omega) (fun e => h3 e.symm)]
    exact Below.block E k hk
  · rcases hat with h | h
    · left; rw [h]; rfl
    · exact .inr ⟨g, rfl, by omega⟩

set_option linter.unusedSimpArgs false in
set_option maxRecDepth 100000 in
set_option maxHeartbeats 16000000 in
theorem rput_any (B qb bud pars : Nat) (row : Value) (L : List Step) (s : Step) (v : Value) (w : World) (hM : RMk w B qb row bud pars L) (hs : IsStep w v s) :
    Calls Tryz.prog 32 #[.pointer (some ⟨qb, 0, none⟩), v] w (RRes B qb bud row w (putR bud L s).1 (putR bud L s).2.1 pars (putR bud L s).2.2) := by
  obtain ⟨R, hR⟩ : ∃ R, R = putR bud L s := ⟨_, rfl⟩
  rw [← hR]
  have HR0 := Lib.hid hR
  have Hst := Lib.hid hs
  obtain ⟨a1, n1, c1, a2, n2, c2, rfl, g1, g2, g3, g4, g5⟩ := hs
  obtain ⟨ra, rc, rfl, hrs⟩ := hM.rowSteps
  have hlen := hM.len
  have hbud := hM.bud1
  have HM := Lib.hid hM
  have HRS := Lib.hid hrs
  have hql := hM.lts.1
  clear hR hM hrs g1 g2 g3 g4 g5
  go_enter Tryz.func32, Tryz.ntmps32
  go_wp2_with fail
  obtain ⟨W0, hW0⟩ : ∃ W0, W0 = w.alloc (.cells #[.int .u8 s.op, .int .i64 s.a, .int .i64 s.b, .bool s.neg, .slice a1 n1 c1, .slice a2 n2 c2] 78) := ⟨_, rfl⟩
  obtain ⟨nb, hnb⟩ : ∃ nb, nb = w.heap.size := ⟨_, rfl⟩
  have E0 : Ext w W0 := by rw [hW0]; exact Ext.of_alloc _ _
  have z0 : W0.cell? ⟨nb, 0, none⟩ = some (.int .u8 s.op) := by rw [hW0, hnb]; simp [go_sem]
  have z1 : W0.cell? ⟨nb, 1, none⟩ = some (.int .i64 s.a) := by rw [hW0, hnb]; simp [go_sem]
  have z2 : W0.cell? ⟨nb, 2, none⟩ = some (.int .i64 s.b) := by rw [hW0, hnb]; simp [go_sem]
  have z3 : W0.cell? ⟨nb, 3, none⟩ = some (.bool s.neg) := by rw [hW0, hnb]; simp [go_sem]
  have z4 : W0.cell? ⟨nb, 4, none⟩ = some (.slice a1 n1 c1) := by rw [hW0, hnb]; simp [go_sem]
  have z5 : W0.cell? ⟨nb, 5, none⟩ = some (.slice a2 n2 c2) := by rw [hW0, hnb]; simp [go_sem]
  have hnq : qb < nb := by omega
  have Hnb := Lib.hid hnb
  rw [← hW0, ← hnb]
  clear hW0 hnb
  go_loopw [6] (fun k wr => ∃ j : Nat, j ≤ L.length ∧ k = .int .i64 j ∧ Ext W0 wr ∧ Hid (∀ i, i < j → L[i]? ≠ some s)) (fun k _ => L.length - (intOf k).toNat)
  case atStart => exact ⟨0, Nat.zero_le _, rfl, Ext.refl _, Lib.hid (fun i hi => by omega)⟩
  case round =>
    obtain ⟨j, hj, rfl, hE, hall⟩ := hrel
    have y2 := (HM.out.kept (E0.trans hE)).c2
    have y0 := (HM.out.kept (E0.trans hE)).c0
    by_cases hlt : j < L.length
    · have hlt' : ((j : Nat) : Int) < L.length := by omega
      obtain ⟨b, off, t, rfl, htj, a3, n3, c3, a4, n4, c4, r0, r1, r2, r3, r4, r5, r6, r7, r8⟩ := (HRS.out.ext (E0.trans hE)).at hlt
      have htt : IsStep wr (.agg #[.int .u8 t.op, .int .i64 t.a, .int .i64 t.b, .bool t.neg, .slice a3 n3 c3, .slice a4 n4 c4]) t := ⟨_, _, _, _, _, _, rfl, r6, r7, r8⟩
      have hss : IsStep wr (.agg #[.int .u8 s.op, .int .i64 s.a, .int .i64 s.b, .bool s.neg, .slice a1 n1 c1, .slice a2 n2 c2]) s := Hst.out.keep (E0.trans hE).keeps
      have HR := Lib.hid (fun W (e : Ext wr W) => rsameNode_any _ _ t s W (htt.keep e.keeps) (hss.keep e.keeps))
      obtain ⟨r, hr⟩ : ∃ r, r = sameS t s := ⟨_, rfl⟩
      rw [← hr] at HR
      have Hr := Lib.hid hr
      have Ht := Lib.hid htj
      have x0 := hE.cell z0
      have x1 := hE.cell z1
      have x2 := hE.cell z2
      have x3 := hE.cell z3
      have x4 := hE.cell z4
      have x5 := hE.cell z5
      clear htt hss r6 r7 r8 hr htj
      go_wp2_with fail
      cases r
      · have hn1 : Hid (∀ i, i < j + 1 → L[i]? ≠ some s) := Lib.hid (by
          intro i hi e
          by_cases e' : i = j
          · subst e'
            rw [Ht.out] at e
            cases e
            have := Hr.out
            rw [(sameS_iff s s).2 rfl] at this
            cases this
          · exact hall.out i (by omega) e)
        refine wp_region_T (fun _ => True) (fun w' : World => w'.cell? ⟨qb, 2, none⟩ = some (.slice (some ⟨b, off, none⟩) L.length rc) ∧ w'.cell? ⟨b, off + j * 6, none⟩ = some (.int .u8 t.op) ∧ w'.cell? ⟨b, off + j * 6 + 1, none⟩ = some (.int .i64 t.a) ∧ w'.cell? ⟨b, off + j * 6 + 2, none⟩ = some (.int .i64 t.b) ∧ w'.cell? ⟨b, off + j * 6 + 3, none⟩ = some (.bool t.neg) ∧ w'.cell? ⟨b, off + j * 6 + 4, none⟩ = some (.slice a3 n3 c3) ∧ w'.cell? ⟨b, off + j * 6 + 5, none⟩ = some (.slice a4 n4 c4) ∧ w'.cell? ⟨nb, 0, none⟩ = some (.int .u8 s.op) ∧ w'.cell? ⟨nb, 1, none⟩ = some (.int .i64 s.a) ∧ w'.cell? ⟨nb, 2, none⟩ = some (.int .i64 s.b) ∧ w'.cell? ⟨nb, 3, none⟩ = some (.bool s.neg) ∧ w'.cell? ⟨nb, 4, none⟩ = some (.slice a1 n1 c1) ∧ w'.cell? ⟨nb, 5, none⟩ = some (.slice a2 n2 c2)) 99 9 (by rfl) (by kernel_rfl) ?_
        have hT0 : wr.drew.cell? ⟨qb, 2, none⟩ = some (.slice (some ⟨b, off, none⟩) L.length rc) ∧ wr.drew.cell? ⟨b, off + j * 6, none⟩ = some (.int .u8 t.op) ∧ wr.drew.cell? ⟨b, off + j * 6 + 1, none⟩ = some (.int .i64 t.a) ∧ wr.drew.cell? ⟨b, off + j * 6 + 2, none⟩ = some (.int .i64 t.b) ∧ wr.drew.cell? ⟨b, off + j * 6 + 3, none⟩ = some (.bool t.neg) ∧ wr.drew.cell? ⟨b, off + j * 6 + 4, none⟩ = some (.slice a3 n3 c3) ∧ wr.drew.cell? ⟨b, off + j * 6 + 5, none⟩ = some (.slice a4 n4 c4) ∧ wr.drew.cell? ⟨nb, 0, none⟩ = some (.int .u8 s.op) ∧ wr.drew.cell? ⟨nb, 1, none⟩ = some (.int .i64 s.a) ∧ wr.drew.cell? ⟨nb, 2, none⟩ = some (.int .i64 s.b) ∧ wr.drew.cell? ⟨nb, 3, none⟩ = some (.bool s.neg) ∧ wr.drew.cell? ⟨nb, 4, none⟩ = some (.slice a1 n1 c1) ∧ wr.drew.cell? ⟨nb, 5, none⟩ = some (.slice a2 n2 c2) := ⟨y2, r0, r1, r2, r3, r4, r5, x0, x1, x2, x3, x4, x5⟩
        refine wpAnyT_take' (i := 0) (some 16) (v := ?_) rfl rfl (by kernel_rfl) (by kernel_rfl) (by kernel_rfl) (by decide) (fun _ _ _ h => h) (Or.inl ⟨by rfl, ?_⟩) (fun _ => trivial) hT0 ?_
        rotate_left
        · (intro w hSw; (try dsimp only at hSw); go_simp); try with_reducible rfl
        try simp only [Act.put, List.setIfInBounds_toArray, List.set_cons_zero, List.set_cons_succ]
        refine wpAnyT_take' (i := 1) (some 17) (v := ?_) rfl rfl (by kernel_rfl) (by kernel_rfl) (by kernel_rfl) (by decide) (fun _ _ _ h => h) (Or.inl ⟨by rfl, ?_⟩) (fun _ => trivial) hT0 ?_
        rotate_left
        · (intro w hSw; (try dsimp only at hSw); go_simp); try with_reducible rfl
        try simp only [Act.put, List.setIfInBounds_toArray, List.set_cons_zero, List.set_cons_succ]
        refine wpAnyT_take' (i := 2) (some 18) (v := ?_) rfl rfl (by kernel_rfl) (by kernel_rfl) (by kernel_rfl) (by decide) (fun _ _ _ h => h) (Or.inl ⟨by rfl, ?_⟩) (fun _ => trivial) hT0 ?_
        rotate_left
        · (intro w hSw; (try dsimp only at hSw); go_simp); try with_reducible rfl
        try simp only [Act.put, List.setIfInBounds_toArray, List.set_cons_zero, List.set_cons_succ]
        refine wpAnyT_take' (i := 3) (some 19) (v := ?_) rfl rfl (by kernel_rfl) (by kernel_rfl) (by kernel_rfl) (by decide) (fun _ _ _ h => h) (Or.inl ⟨by rfl, ?_⟩) (fun _ => trivial) hT0 ?_
        rotate_left
        · (intro w hSw; (try dsimp only at hSw); go_simp); try with_reducible rfl
        try simp only [Act.put, List.setIfInBounds_toArray, List.set_cons_zero, List.set_cons_succ]
        refine wpAnyT_take' (i := 4) (some 20) (v := ?_) rfl rfl (by kernel_rfl) (by kernel_rfl) (by kernel_rfl) (by decide) (fun _ _ _ h => h) (Or.inl ⟨by rfl, ?_⟩) (fun _ => trivial) hT0 ?_
        rotate_left
        · (intro w hSw; (try dsimp only at hSw); go_simp); try with_reducible rfl
        try simp only [Act.put, List.setIfInBounds_toArray, List.set_cons_zero, List.set_cons_succ]
        refine wpAnyT_take' (i := 5) (some 21) (v := ?_) rfl rfl (by kernel_rfl) (by kernel_rfl) (by kernel_rfl) (by decide) (fun _ _ _ h => h) (Or.inl ⟨by rfl, ?_⟩) (fun _ => trivial) hT0 ?_
        rotate_left
        · (intro w hSw; (try dsimp only at hSw); go_simp); try with_reducible rfl
        try simp only [Act.put, List.setIfInBounds_toArray, List.set_cons_zero, List.set_cons_succ]
        refine wpAnyT_take' (i := 6) (some 22) (v := ?_) rfl rfl (by kernel_rfl) (by kernel_rfl) (by kernel_rfl) (by decide) (fun _ _ _ h => h) (Or.inl ⟨by rfl, ?_⟩) (fun _ => trivial) hT0 ?_
        rotate_left
        · (intro w hSw; (try dsimp only at hSw); go_simp); try with_reducible rfl
        try simp only [Act.put, List.setIfInBounds_toArray, List.set_cons_zero, List.set_cons_succ]
        refine wpAnyT_take' (i := 7) (some 23) (v := ?_) rfl rfl (by kernel_rfl) (by kernel_rfl) (by kernel_rfl) (by decide) (fun _ _ _ h => h) (Or.inl ⟨by rfl, ?_⟩) (fun _ => trivial) hT0 ?_
        rotate_left
        · (intro w hSw; (try dsimp only at hSw); go_simp); try with_reducible rfl
        try simp only [Act.put, List.setIfInBounds_toArray, List.set_cons_zero, List.set_cons_succ]
        refine wpAnyT_one (i := 8) (by kernel_rfl) rfl (fun K hK => ?_)
        go_simp
        refine (HR.out _ (Ext.refl wr).drew).mono ?_
        rintro e w2 ⟨_, rfl, E2, rfl⟩
        try simp only []
        have hT1 : w2.cell? ⟨qb, 2, none⟩ = some (.slice (some ⟨b, off, none⟩) L.length rc) ∧ w2.cell? ⟨b, off + j * 6, none⟩ = some (.int .u8 t.op) ∧ w2.cell? ⟨b, off + j * 6 + 1, none⟩ = some (.int .i64 t.a) ∧ w2.cell? ⟨b, off + j * 6 + 2, none⟩ = some (.int .i64 t.b) ∧ w2.cell? ⟨b, off + j * 6 + 3, none⟩ = some (.bool t.neg) ∧ w2.cell? ⟨b, off + j * 6 + 4, none⟩ = some (.slice a3 n3 c3) ∧ w2.cell? ⟨b, off + j * 6 + 5, none⟩ = some (.slice a4 n4 c4) ∧ w2.cell? ⟨nb, 0, none⟩ = some (.int .u8 s.op) ∧ w2.cell? ⟨nb, 1, none⟩ = some (.int .i64 s.a) ∧ w2.cell? ⟨nb, 2, none⟩ = some (.int .i64 s.b) ∧ w2.cell? ⟨nb, 3, none⟩ = some (.bool s.neg) ∧ w2.cell? ⟨nb, 4, none⟩ = some (.slice a1 n1 c1) ∧ w2.cell? ⟨nb, 5, none⟩ = some (.slice a2 n2 c2) := ⟨E2.cell y2, E2.cell r0, E2.cell r1, E2.cell r2, E2.cell r3, E2.cell r4, E2.cell r5, E2.cell x0, E2.cell x1, E2.cell x2, E2.cell x3, E2.cell x4, E2.cell x5⟩
        refine hK _ _ (fun _ => trivial) hT1 ?_
        clear hK K
        try simp only [Act.put, List.setIfInBounds_toArray, List.set_cons_zero, List.set_cons_succ]
        refine wpAnyT_done (by kernel_rfl) ?_ _
        try simp only [Act.put, List.setIfInBounds_toArray, List.set_cons_zero, List.set_cons_succ]
        have EF := hE.drew.trans E2
        clear hT0 hT1 r0 r1 r2 r3 r4 r5 x0 x1 x2 x3 x4 x5 y2 y0
        go_wp2
        go_roundw
        case rel => exact ⟨j + 1, by omega, by go_num, EF, hn1⟩
        case measure => simp [intOf]; omega
      · have hR1 : R = (j, 0, L) := by
          rw [HR0.out]
          unfold putR
          have hf : findS L s = some j := by
            unfold findS
            rw [List.findIdx?_eq_some_iff_getElem]
            refine ⟨hlt, ?_, fun i hi => ?_⟩
            · have e := Ht.out
              rw [List.getElem?_eq_getElem hlt] at e
              cases e
              exact Hr.out.symm
            · have := hall.out i hi
              rw [List.getElem?_eq_getElem (by omega)] at this
              cases hc : sameS L[i] s with
              | false => simp
              | true => exact absurd (by rw [(sameS_iff _ _).1 hc]) this
          rw [hf]
        subst hR1
        refine wp_region_T (fun _ => True) (fun w' : World => w'.cell? ⟨qb, 2, none⟩ = some (.slice (some ⟨b, off, none⟩) L.length rc) ∧ w'.cell? ⟨b, off + j * 6, none⟩ = some (.int .u8 t.op) ∧ w'.cell? ⟨b, off + j * 6 + 1, none⟩ = some (.int .i64 t.a) ∧ w'.cell? ⟨b, off + j * 6 + 2, none⟩ = some (.int .i64 t.b) ∧ w'.cell? ⟨b, off + j * 6 + 3, none⟩ = some (.bool t.neg) ∧ w'.cell? ⟨b, off + j * 6 + 4, none⟩ = some (.slice a3 n3 c3) ∧ w'.cell? ⟨b, off + j * 6 + 5, none⟩ = some (.slice a4 n4 c4) ∧ w'.cell? ⟨nb, 0, none⟩ = some (.int .u8 s.op) ∧ w'.cell? ⟨nb, 1, none⟩ = some (.int .i64 s.a) ∧ w'.cell? ⟨nb, 2, none⟩ = some (.int .i64 s.b) ∧ w'.cell? ⟨nb, 3, none⟩ = some (.bool s.neg) ∧ w'.cell? ⟨nb, 4, none⟩ = some (.slice a1 n1 c1) ∧ w'.cell? ⟨nb, 5, none⟩ = some (.slice a2 n2 c2)) 99 9 (by rfl) (by kernel_rfl) ?_
        have hT0 : wr.drew.cell? ⟨qb, 2, none⟩ = some (.slice (some ⟨b, off, none⟩) L.length rc) ∧ wr.drew.cell? ⟨b, off + j * 6, none⟩ = some (.int .u8 t.op) ∧ wr.drew.cell? ⟨b, off + j * 6 + 1, none⟩ = some (.int .i64 t.a) ∧ wr.drew.cell? ⟨b, off + j * 6 + 2, none⟩ = some (.int .i64 t.b) ∧ wr.drew.cell? ⟨b, off + j * 6 + 3, none⟩ = some (.bool t.neg) ∧ wr.drew.cell? ⟨b, off + j * 6 + 4, none⟩ = some (.slice a3 n3 c3) ∧ wr.drew.cell? ⟨b, off + j * 6 + 5, none⟩ = some (.slice a4 n4 c4) ∧ wr.drew.cell? ⟨nb, 0, none⟩ = some (.int .u8 s.op) ∧ wr.drew.cell? ⟨nb, 1, none⟩ = some (.int .i64 s.a) ∧ wr.drew.cell? ⟨nb, 2, none⟩ = some (.int .i64 s.b) ∧ wr.drew.cell? ⟨nb, 3, none⟩ = some (.bool s.neg) ∧ wr.drew.cell? ⟨nb, 4, none⟩ = some (.slice a1 n1 c1) ∧ wr.drew.cell? ⟨nb, 5, none⟩ = some (.slice a2 n2 c2) := ⟨y2, r0, r1, r2, r3, r4, r5, x0, x1, x2, x3, x4, x5⟩
        refine wpAnyT_take' (i := 0) (some 16) (v := ?_) rfl rfl (by kernel_rfl) (by kernel_rfl) (by kernel_rfl) (by decide) (fun _ _ _ h => h) (Or.inl ⟨by rfl, ?_⟩) (fun _ => trivial) hT0 ?_
        rotate_left
        · (intro w hSw; (try dsimp only at hSw); go_simp); try with_reducible rfl
        try simp only [Act.put, List.setIfInBounds_toArray, List.set_cons_zero, List.set_cons_succ]
        refine wpAnyT_take' (i := 1) (some 17) (v := ?_) rfl rfl (by kernel_rfl) (by kernel_rfl) (by kernel_rfl) (by decide) (fun _ _ _ h => h) (Or.inl ⟨by rfl, ?_⟩) (fun _ => trivial) hT0 ?_
        rotate_left
        · (intro w hSw; (try dsimp only at hSw); go_simp); try with_reducible rfl
        try simp only [Act.put, List.setIfInBounds_toArray, List.set_cons_zero, List.set_cons_succ]
        refine wpAnyT_take' (i := 2) (some 18) (v := ?_) rfl rfl (by kernel_rfl) (by kernel_rfl) (by kernel_rfl) (by decide) (fun _ _ _ h => h) (Or.inl ⟨by rfl, ?_⟩) (fun _ => trivial) hT0 ?_
        rotate_left
        · (intro w hSw; (try dsimp only at hSw); go_simp); try with_reducible rfl
        try simp only [Act.put, List.setIfInBounds_toArray, List.set_cons_zero, List.set_cons_succ]
        refine wpAnyT_take' (i := 3) (some 19) (v := ?_) rfl rfl (by kernel_rfl) (by kernel_rfl) (by kernel_rfl) (by decide) (fun _ _ _ h => h) (Or.inl ⟨by rfl, ?_⟩) (fun _ => trivial) hT0 ?_
        rotate_left
        · (intro w hSw; (try dsimp only at hSw); go_simp); try with_reducible rfl
        try simp only [Act.put, List.setIfInBounds_toArray, List.set_cons_zero, List.set_cons_succ]
        refine wpAnyT_take' (i := 4) (some 20) (v := ?_) rfl rfl (by kernel_rfl) (by kernel_rfl) (by kernel_rfl) (by decide) (fun _ _ _ h => h) (Or.inl ⟨by rfl, ?_⟩) (fun _ => trivial) hT0 ?_
        rotate_left
        · (intro w hSw; (try dsimp only at hSw); go_simp); try with_reducible rfl
        try simp only [Act.put, List.setIfInBounds_toArray, List.set_cons_zero, List.set_cons_succ]
        refine wpAnyT_take' (i := 5) (some 21) (v := ?_) rfl rfl (by kernel_rfl) (by kernel_rfl) (by kernel_rfl) (by decide) (fun _ _ _ h => h) (Or.inl ⟨by rfl, ?_⟩) (fun _ => trivial) hT0 ?_
        rotate_left
        · (intro w hSw; (try dsimp only at hSw); go_simp); try with_reducible rfl
        try simp only [Act.put, List.setIfInBounds_toArray, List.set_cons_zero, List.set_cons_succ]
        refine wpAnyT_take' (i := 6) (some 22) (v := ?_) rfl rfl (by kernel_rfl) (by kernel_rfl) (by kernel_rfl) (by decide) (fun _ _ _ h => h) (Or.inl ⟨by rfl, ?_⟩) (fun _ => trivial) hT0 ?_
        rotate_left
        · (intro w hSw; (try dsimp only at hSw); go_simp); try with_reducible rfl
        try simp only [Act.put, List.setIfInBounds_toArray, List.set_cons_zero, List.set_cons_succ]
        refine wpAnyT_take' (i := 7) (some 23) (v := ?_) rfl rfl (by kernel_rfl) (by kernel_rfl) (by kernel_rfl) (by decide) (fun _ _ _ h => h) (Or.inl ⟨by rfl, ?_⟩) (fun _ => trivial) hT0 ?_
        rotate_left
        · (intro w hSw; (try dsimp only at hSw); go_simp); try with_reducible rfl
        try simp only [Act.put, List.setIfInBounds_toArray, List.set_cons_zero, List.set_cons_succ]
        refine wpAnyT_one (i := 8) (by kernel_rfl) rfl (fun K hK => ?_)
        go_simp
        refine (HR.out _ (Ext.refl wr).drew).mono ?_
        rintro e w2 ⟨_, rfl, E2, rfl⟩
        try simp only []
        have hT1 : w2.cell? ⟨qb, 2, none⟩ = some (.slice (some ⟨b, off, none⟩) L.length rc) ∧ w2.cell? ⟨b, off + j * 6, none⟩ = some (.int .u8 t.op) ∧ w2.cell? ⟨b, off + j * 6 + 1, none⟩ = some (.int .i64 t.a) ∧ w2.cell? ⟨b, off + j * 6 + 2, none⟩ = some (.int .i64 t.b) ∧ w2.cell? ⟨b, off + j * 6 + 3, none⟩ = some (.bool t.neg) ∧ w2.cell? ⟨b, off + j * 6 + 4, none⟩ = some (.slice a3 n3 c3) ∧ w2.cell? ⟨b, off + j * 6 + 5, none⟩ = some (.slice a4 n4 c4) ∧ w2.cell? ⟨nb, 0, none⟩ = some (.int .u8 s.op) ∧ w2.cell? ⟨nb, 1, none⟩ = some (.int .i64 s.a) ∧ w2.cell? ⟨nb, 2, none⟩ = some (.int .i64 s.b) ∧ w2.cell? ⟨nb, 3, none⟩ = some (.bool s.neg) ∧ w2.cell? ⟨nb, 4, none⟩ = some (.slice a1 n1 c1) ∧ w2.cell? ⟨nb, 5, none⟩ = some (.slice a2 n2 c2) := ⟨E2.cell y2, E2.cell r0, E2.cell r1, E2.cell r2, E2.cell r3, E2.cell r4, E2.cell r5, E2.cell x0, E2.cell x1, E2.cell x2, E2.cell x3, E2.cell x4, E2.cell x5⟩
        refine hK _ _ (fun _ => trivial) hT1 ?_
        clear hK K
        try simp only [Act.put, List.setIfInBounds_toArray, List.set_cons_zero, List.set_cons_succ]
        refine wpAnyT_done (by kernel_rfl) ?_ _
        try simp only [Act.put, List.setIfInBounds_toArray, List.set_cons_zero, List.set_cons_succ]
        have EF := (E0.trans hE).drew.trans E2
        clear hT0 hT1 r0 r1 r2 r3 r4 r5 x0 x1 x2 x3 x4 x5 y2 y0
        go_wp2
        go_ret2
        exact ⟨_, rfl, HM.out.kept EF, Mv.of_ext EF⟩
    · have hlt' : ¬ ((j : Nat) : Int) < L.length := by omega
      have hno : s ∉ L := by
        intro hm
        obtain ⟨i, hi⟩ := List.getElem?_of_mem hm
        exact hall.out i (by have := (List.getElem?_eq_some_iff.1 hi).1; omega) hi
      have x0 := hE.cell z0
      have x1 := hE.cell z1
      have x2 := hE.cell z2
      have x3 := hE.cell z3
      have x4 := hE.cell z4
      have x5 := hE.cell z5
      go_wp2_with fail
      refine wp_region_T (fun _ => True) (fun w' : World => w'.cell? ⟨qb, 2, none⟩ = some (.slice ra L.length rc) ∧ w'.cell? ⟨qb, 0, none⟩ = some (.int .i64 bud)) 99 10 (by rfl) (by kernel_rfl) ?_
      have hT0 : wr.drew.cell? ⟨qb, 2, none⟩ = some (.slice ra L.length rc) ∧ wr.drew.cell? ⟨qb, 0, none⟩ = some (.int .i64 bud) := ⟨y2, y0⟩
      refine wpAnyT_take' (i := 0) (some 26) (v := ?_) rfl rfl (by kernel_rfl) (by kernel_rfl) (by kernel_rfl) (by decide) (fun _ _ _ h => h) (Or.inl ⟨by rfl, ?_⟩) (fun _ => trivial) hT0 ?_
      rotate_left
      · (intro w hSw; (try dsimp only at hSw); go_simp); try with_reducible rfl
      try simp only [Act.put, List.setIfInBounds_toArray, List.set_cons_zero, List.set_cons_succ]
      refine wpAnyT_take' (i := 1) (some 27) (v := ?_) rfl rfl (by kernel_rfl) (by kernel_rfl) (by kernel_rfl) (by decide) (fun _ _ _ h => h) (Or.inl ⟨by rfl, ?_⟩) (fun _ => trivial) hT0 ?_
      rotate_left
      · (intro w hSw; (try dsimp only at hSw); go_simp); try with_reducible rfl
      try simp only [Act.put, List.setIfInBounds_toArray, List.set_cons_zero, List.set_cons_succ]
      refine wpAnyT_take' (i := 2) (some 28) (v := ?_) rfl rfl (by kernel_rfl) (by kernel_rfl) (by kernel_rfl) (by decide) (fun _ _ _ h => h) (Or.inl ⟨by rfl, ?_⟩) (fun _ => trivial) hT0 ?_
      rotate_left
      · (intro w hSw; (try dsimp only at hSw); go_simp); try with_reducible rfl
      try simp only [Act.put, List.setIfInBounds_toArray, List.set_cons_zero, List.set_cons_succ]
      refine wpAnyT_take' (i := 3) (some 29) (v := ?_) rfl rfl (by kernel_rfl) (by kernel_rfl) (by kernel_rfl) (by decide) (fun _ _ _ h => h) (Or.inl ⟨by rfl, ?_⟩) (fun _ => trivial) hT0 ?_
      rotate_left
      · (intro w hSw; (try dsimp only at hSw); go_simp); try with_reducible rfl
      try simp only [Act.put, List.setIfInBounds_toArray, List.set_cons_zero, List.set_cons_succ]
      refine wpAnyT_take' (i := 4) (some 30) (v := ?_) rfl rfl (by kernel_rfl) (by kernel_rfl) (by kernel_rfl) (by decide) (fun _ _ _ h => h) (Or.inl ⟨by rfl, ?_⟩) (fun _ => trivial) hT0 ?_
      rotate_left
      · (intro w hSw; (try dsimp only at hSw); go_simp); try with_reducible rfl
      try simp only [Act.put, List.setIfInBounds_toArray, List.set_cons_zero, List.set_cons_succ]
      refine wpAnyT_take' (i := 5) (some 31) (v := ?_) rfl rfl (by kernel_rfl) (by kernel_rfl) (by kernel_rfl) (by decide) (fun _ _ _ h => h) (Or.inl ⟨by rfl, ?_⟩) (fun _ => trivial) hT0 ?_
      rotate_left
      · (intro w hSw; (try dsimp only at hSw); go_simp); try with_reducible rfl
      try simp only [Act.put, List.setIfInBounds_toArray, List.set_cons_zero, List.set_cons_succ]
      refine wpAnyT_take' (i := 6) (some 32) (v := ?_) rfl rfl (by kernel_rfl) (by kernel_rfl) (by kernel_rfl) (by decide) (fun _ _ _ h => h) (Or.inl ⟨by rfl, ?_⟩) (fun _ => trivial) hT0 ?_
      rotate_left
      · (intro w hSw; (try dsimp only at hSw); go_simp); try with_reducible rfl
      try simp only [Act.put, List.setIfInBounds_toArray, List.set_cons_zero, List.set_cons_succ]
      refine wpAnyT_take' (i := 7) (some 33) (v := ?_) rfl rfl (by kernel_rfl) (by kernel_rfl) (by kernel_rfl) (by decide) (fun _ _ _ h => h) (Or.inl ⟨by rfl, ?_⟩) (fun _ => trivial) hT0 ?_
      rotate_left
      · (intro w hSw; (try dsimp only at hSw); go_simp); try with_reducible rfl
      try simp only [Act.put, List.setIfInBounds_toArray, List.set_cons_zero, List.set_cons_succ]
      refine wpAnyT_take' (i := 8) (some 34) (v := ?_) rfl rfl (by kernel_rfl) (by kernel_rfl) (by kernel_rfl) (by decide) (fun _ _ _ h => h) (Or.inl ⟨by rfl, ?_⟩) (fun _ => trivial) hT0 ?_
      rotate_left
      · (intro w hSw; (try dsimp only at hSw); go_simp); try with_reducible rfl
      try simp only [Act.put, List.setIfInBounds_toArray, List.set_cons_zero, List.set_cons_succ]
      refine wpAnyT_take' (i := 9) (some 35) (v := ?_) rfl rfl (by kernel_rfl) (by kernel_rfl) (by kernel_rfl) (by decide) (fun _ _ _ h => h) (Or.inl ⟨by rfl, ?_⟩) (fun _ => trivial) hT0 ?_
      rotate_left
      · (intro w hSw; (try dsimp only at hSw); go_simp); try with_reducible rfl
      try simp only [Act.put, List.setIfInBounds_toArray, List.set_cons_zero, List.set_cons_succ]
      refine wpAnyT_done (by kernel_rfl) ?_ _
      try simp only [Act.put, List.setIfInBounds_toArray, List.set_cons_zero, List.set_cons_succ]
      obtain ⟨cells, hown, hst0⟩ := HM.out.steps
      have Hown := Lib.hid hown
      have Hst0 := Lib.hid hst0
      have EW6 := Lib.hid ((E0.trans hE).drew)
      clear hown hst0 hT0 y0
      by_cases hfull : L.length = bud
      · have hR1 : R = (0, 171, L) := by rw [HR0.out, put_full' hno (by omega)]
        have e2 : (((L.length : Nat) : Int) == bud) = true := by simp; omega
        subst hR1
        clear hfull
        go_wp2
        go_ret2
        exact ⟨_, rfl, HM.out.kept EW6.out, Mv.of_ext EW6.out⟩
      have hR1 : R = (L.length, 0, L ++ [s]) := by rw [HR0.out, put_new' hno (by omega)]
      have e2 : (((L.length : Nat) : Int) == bud) = false := by simp; omega
      have hlb : L.length < bud := by omega
      subst hR1
      obtain ⟨i0, hi0, hz0', hz1', hz2'⟩ := info_parts info_node
      have HI := Lib.hid (And.intro hi0 (And.intro hz0' (And.intro hz1' hz2')))
      clear hi0 hz0' hz1' hz2' hfull
      obtain ⟨W6, hW6⟩ : ∃ W6, W6 = wr.drew := ⟨_, rfl⟩
      replace x0 : W6.cell? ⟨nb, 0, none⟩ = some (.int .u8 s.op) := by rw [hW6]; exact x0
      replace x1 : W6.cell? ⟨nb, 1, none⟩ = some (.int .i64 s.a) := by rw [hW6]; exact x1
      replace x2 : W6.cell? ⟨nb, 2, none⟩ = some (.int .i64 s.b) := by rw [hW6]; exact x2
      replace x3 : W6.cell? ⟨nb, 3, none⟩ = some (.bool s.neg) := by rw [hW6]; exact x3
      replace x4 : W6.cell? ⟨nb, 4, none⟩ = some (.slice a1 n1 c1) := by rw [hW6]; exact x4
      replace x5 : W6.cell? ⟨nb, 5, none⟩ = some (.slice a2 n2 c2) := by rw [hW6]; exact x5
      replace y2 : W6.cell? ⟨qb, 2, none⟩ = some (.slice ra L.length rc) := by rw [hW6]; exact y2
      rw [← hW6] at EW6 ⊢
      clear hW6 hE E0 z0 z1 z2 z3 z4 z5
      go_wp2_with fail
      refine wp_region_T (fun w' : World => w'.cell? ⟨qb, 2, none⟩ = some (.slice ra L.length rc)) (fun w' : World => w'.cell? ⟨nb, 0, none⟩ = some (.int .u8 s.op) ∧ w'.cell? ⟨nb, 1, none⟩ = some (.int .i64 s.a) ∧ w'.cell? ⟨nb, 2, none⟩ = some (.int .i64 s.b) ∧ w'.cell? ⟨nb, 3, none⟩ = some (.bool s.neg) ∧ w'.cell? ⟨nb, 4, none⟩ = some (.slice a1 n1 c1) ∧ w'.cell? ⟨nb, 5, none⟩ = some (.slice a2 n2 c2)) 10 11 (by rfl) (by kernel_rfl) ?_
      have hT0 : W6.drew.cell? ⟨nb, 0, none⟩ = some (.int .u8 s.op) ∧ W6.drew.cell? ⟨nb, 1, none⟩ = some (.int .i64 s.a) ∧ W6.drew.cell? ⟨nb, 2, none⟩ = some (.int .i64 s.b) ∧ W6.drew.cell? ⟨nb, 3, none⟩ = some (.bool s.neg) ∧ W6.drew.cell? ⟨nb, 4, none⟩ = some (.slice a1 n1 c1) ∧ W6.drew.cell? ⟨nb, 5, none⟩ = some (.slice a2 n2 c2) := ⟨x0, x1, x2, x3, x4, x5⟩
      have hS0 : W6.drew.cell? ⟨qb, 2, none⟩ = some (.slice ra L.length rc) := y2
      refine wpAnyT_take' (i := 0) (some 36) (v := ?_) rfl rfl (by kernel_rfl) (by kernel_rfl) (by kernel_rfl) (by decide) (fun _ _ _ h => h) (Or.inl ⟨by rfl, ?_⟩) (fun _ => hS0) hT0 ?_
      rotate_left
      · (intro w hSw; (try dsimp only at hSw); go_simp); try with_reducible rfl
      try simp only [Act.put, List.setIfInBounds_toArray, List.set_cons_zero, List.set_cons_succ]
      refine wpAnyT_take' (i := 1) (some 37) (v := ?_) rfl rfl (by kernel_rfl) (by kernel_rfl) (by kernel_rfl) (by decide) (fun _ _ _ h => h) (Or.inl ⟨by rfl, ?_⟩) (fun _ => hS0) hT0 ?_
      rotate_left
      · (intro w hSw; (try dsimp only at hSw); go_simp); try with_reducible rfl
      try simp only [Act.put, List.setIfInBounds_toArray, List.set_cons_zero, List.set_cons_succ]
      refine wpAnyT_take' (i := 2) (some 38) (v := ?_) rfl rfl (by kernel_rfl) (by kernel_rfl) (by kernel_rfl) (by decide) (fun _ _ _ h => h) (Or.inl ⟨by rfl, ?_⟩) (fun _ => hS0) hT0 ?_
      rotate_left
      · (intro w hSw; (try dsimp only at hSw); go_simp); try with_reducible rfl
      try simp only [Act.put, List.setIfInBounds_toArray, List.set_cons_zero, List.set_cons_succ]
      refine wpAnyT_take' (i := 3) (some 39) (v := ?_) rfl rfl (by kernel_rfl) (by kernel_rfl) (by kernel_rfl) (by decide) (fun _ _ _ h => h) (Or.inl ⟨by rfl, ?_⟩) (fun _ => hS0) hT0 ?_
      rotate_left
      · (intro w hSw; (try dsimp only at hSw); go_simp); try with_reducible rfl
      try simp only [Act.put, List.setIfInBounds_toArray, List.set_cons_zero, List.set_cons_succ]
      refine wpAnyT_take (i := 4) (some 40) (v := ?_) rfl rfl (by kernel_rfl) (by kernel_rfl) (by kernel_rfl) (by kernel_rfl) (by kernel_rfl) (fun _ _ _ h => h) (Or.inl ⟨by rfl, ?_⟩) hS0 hT0 ?_
      rotate_left
      · (intro w hSw; (try dsimp only at hSw); go_simp); try with_reducible rfl
      try simp only [Act.put, List.setIfInBounds_toArray, List.set_cons_zero, List.set_cons_succ]
      refine wpAnyT_take' (i := 5) (some 41) (v := ?_) rfl rfl (by kernel_rfl) (by kernel_rfl) (by kernel_rfl) (by decide) (fun _ _ _ h => h) (Or.inl ⟨by rfl, ?_⟩) (fun _ => hS0) hT0 ?_
      rotate_left
      · (intro w hSw; (try dsimp only at hSw); go_simp); try with_reducible rfl
      try simp only [Act.put, List.setIfInBounds_toArray, List.set_cons_zero, List.set_cons_succ]
      refine wpAnyT_one (i := 6) (by kernel_rfl) rfl (fun K hK => ?_)
      go_simp
      have EV1 : Ext W6 (W6.alloc (.cells #[.int .u8 s.op, .int .i64 s.a, .int .i64 s.b, .bool s.neg, .slice a1 n1 c1, .slice a2 n2 c2] 78)).drew := ((Ext.refl W6).alloc _).drew
      have hS1 : (W6.alloc (.cells #[.int .u8 s.op, .int .i64 s.a, .int .i64 s.b, .bool s.neg, .slice a1 n1 c1, .slice a2 n2 c2] 78)).drew.cell? ⟨qb, 2, none⟩ = some (.slice ra L.length rc) := EV1.cell y2
      have hT1 : (W6.alloc (.cells #[.int .u8 s.op, .int .i64 s.a, .int .i64 s.b, .bool s.neg, .slice a1 n1 c1, .slice a2 n2 c2] 78)).drew.cell? ⟨nb, 0, none⟩ = some (.int .u8 s.op) ∧ (W6.alloc (.cells #[.int .u8 s.op, .int .i64 s.a, .int .i64 s.b, .bool s.neg, .slice a1 n1 c1, .slice a2 n2 c2] 78)).drew.cell? ⟨nb, 1, none⟩ = some (.int .i64 s.a) ∧ (W6.alloc (.cells #[.int .u8 s.op, .int .i64 s.a, .int .i64 s.b, .bool s.neg, .slice a1 n1 c1, .slice a2 n2 c2] 78)).drew.cell? ⟨nb, 2, none⟩ = some (.int .i64 s.b) ∧ (W6.alloc (.cells #[.int .u8 s.op, .int .i64 s.a, .int .i64 s.b, .bool s.neg, .slice a1 n1 c1, .slice a2 n2 c2] 78)).drew.cell? ⟨nb, 3, none⟩ = some (.bool s.neg) ∧ (W6.alloc (.cells #[.int .u8 s.op, .int .i64 s.a, .int .i64 s.b, .bool s.neg, .slice a1 n1 c1, .slice a2 n2 c2] 78)).drew.cell? ⟨nb, 4, none⟩ = some (.slice a1 n1 c1) ∧ (W6.alloc (.cells #[.int .u8 s.op, .int .i64 s.a, .int .i64 s.b, .bool s.neg, .slice a1 n1 c1, .slice a2 n2 c2] 78)).drew.cell? ⟨nb, 5, none⟩ = some (.slice a2 n2 c2) := ⟨EV1.cell x0, EV1.cell x1, EV1.cell x2, EV1.cell x3, EV1.cell x4, EV1.cell x5⟩
      refine hK _ _ (fun _ => hS1) hT1 ?_
      clear hK K
      try simp only [Act.put, List.setIfInBounds_toArray, List.set_cons_zero, List.set_cons_succ]
      refine wpAnyT_one (i := 7) (by kernel_rfl) rfl (fun K hK => ?_)
      refine step_append_u _ (by rfl) _ _ _ (by rfl) B 78 i0 _ 6 80 Tryz.underlying50 HI.out.1 HI.out.2.1 HI.out.2.2.1 HI.out.2.2.2 rfl (by omega) (by simp [Value.cells, isU]) (.slice ra L.length rc) L.length cells (by rfl) (Hown.out.kept fun k hk => Below.block (EW6.out.trans EV1) k (Hown.out.lt k hk).2) ⟨W6.heap.size, 0, none⟩ 1 1 [.int .u8 s.op, .int .i64 s.a, .int .i64 s.b, .bool s.neg, .slice a1 n1 c1, .slice a2 n2 c2] (by rfl) (by rfl) (World.news_of_block (cs := #[.int .u8 s.op, .int .i64 s.a, .int .i64 s.b, .bool s.neg, .slice a1 n1 c1, .slice a2 n2 c2]) (t := 78) (fr := (0, 0)) (heap_alloc_new W6 _)) (by simp [Value.oneCell']) (by simp [isU]) (by omega) (by unfold maxLen; omega) (by omega) (by have := (EW6.out.trans EV1).size; have := HM.out.b1; omega) (W6.heap.size + 1) (by simp) ?_
      intro g cap V2 hown2 hgrow2 hat2
      have kp : ∀ (p : Addr) (u : Value), W6.cell? p = some u → (Value.slice ra L.length rc).ownBlock ≠ some p.block → V2.cell? p = some u := fun p u h1 h2 => hgrow2.cell (EV1.cell h1) (fun e => h2 e.symm)
      have hS2 : V2.cell? ⟨qb, 2, none⟩ = some (.slice ra L.length rc) := kp _ _ y2 HM.out.rp
      have hnr : (Value.slice ra L.length rc).ownBlock ≠ some nb := fun e => by have := (HM.out.lts.2 nb e).2; have := Hnb.out; omega
      have hT2 : V2.cell? ⟨nb, 0, none⟩ = some (.int .u8 s.op) ∧ V2.cell? ⟨nb, 1, none⟩ = some (.int .i64 s.a) ∧ V2.cell? ⟨nb, 2, none⟩ = some (.int .i64 s.b) ∧ V2.cell? ⟨nb, 3, none⟩ = some (.bool s.neg) ∧ V2.cell? ⟨nb, 4, none⟩ = some (.slice a1 n1 c1) ∧ V2.cell? ⟨nb, 5, none⟩ = some (.slice a2 n2 c2) := ⟨kp _ _ x0 hnr, kp _ _ x1 hnr, kp _ _ x2 hnr, kp _ _ x3 hnr, kp _ _ x4 hnr, kp _ _ x5 hnr⟩
      have hf2 : V2.frozen? ⟨qb, 2, none⟩ = false := by rw [hgrow2.frozen_far _ (Nat.lt_of_lt_of_le hql (EW6.out.trans EV1).size) (fun e => HM.out.rp e.symm)]; exact (HM.out.kept (EW6.out.trans EV1)).fr 2
      refine hK _ _ (fun _ => hS2) hT2 ?_
      clear hK K kp
      try simp only [Act.put, List.setIfInBounds_toArray, List.set_cons_zero, List.set_cons_succ]
      refine wpAnyT_take' (i := 8) (some 44) (v := ?_) rfl rfl (by kernel_rfl) (by kernel_rfl) (by kernel_rfl) (by decide) (fun _ _ _ h => h) (Or.inl ⟨by rfl, ?_⟩) (fun _ => hS2) hT2 ?_
      rotate_left
      · (intro w hSw; (try dsimp only at hSw); go_simp); try with_reducible rfl
      try simp only [Act.put, List.setIfInBounds_toArray, List.set_cons_zero, List.set_cons_succ]
      refine wpAnyT_take' (i := 9) (some 45) (v := ?_) rfl rfl (by kernel_rfl) (by kernel_rfl) (by kernel_rfl) (by decide) (fun _ _ _ h => h) (Or.inl ⟨by rfl, ?_⟩) (fun _ => hS2) hT2 ?_
      rotate_left
      · (intro w hSw; (try dsimp only at hSw); go_simp); try with_reducible rfl
      try simp only [Act.put, List.setIfInBounds_toArray, List.set_cons_zero, List.set_cons_succ]
      refine wpAnyT_one (i := 10) (by kernel_rfl) rfl (fun K hK => ?_)
      go_simp
      refine hK _ _ (fun h => absurd h (by decide)) ?_ ?_
      · refine ⟨?_, ?_, ?_, ?_, ?_, ?_⟩ <;> (rw [World.cell?_setCell_other _ _ _ _ (by intro e; have := congrArg Addr.block e; simp at this; omega)]; first | exact hT2.1 | exact hT2.2.1 | exact hT2.2.2.1 | exact hT2.2.2.2.1 | exact hT2.2.2.2.2.1 | exact hT2.2.2.2.2.2)
      clear hK K
      try simp only [Act.put, List.setIfInBounds_toArray, List.set_cons_zero, List.set_cons_succ]
      refine wpAnyT_done (by kernel_rfl) ?_ _
      try simp only [Act.put, List.setIfInBounds_toArray, List.set_cons_zero, List.set_cons_succ]
      have HB := Lib.hid hown2
      have HG := Lib.hid hgrow2
      have HA := Lib.hid hat2
      have HE1 := Lib.hid EV1
      have HS2 := Lib.hid hS2
      have hqv : qb < V2.heap.size := by have := World.block_lt_of_cell? _ _ hS2; simpa using this
      have l1 : (V2.setCell ⟨qb, 2, none⟩ (.slice (some ⟨g, 0, none⟩) (L.length + 1) cap)).cell? ⟨qb, 2, none⟩ = some (.slice (some ⟨g, 0, none⟩) (L.length + 1) cap) := World.cell?_setCell_same _ _ _ hS2
      clear hown2 hgrow2 hat2 EV1 hS0 hS1 hS2 hT0 hT1 hT2 hf2 hnr
      obtain ⟨V3, hV3⟩ : ∃ V3, V3 = V2.setCell ⟨qb, 2, none⟩ (.slice (some ⟨g, 0, none⟩) (L.length + 1) cap) := ⟨_, rfl⟩
      rw [← hV3] at l1 ⊢
      have HV3 := Lib.hid hV3
      clear hV3 x0 x1 x2 x3 x4 x5 y2
      go_wp2
      go_ret2
      exact rput_done HM.out Hown.out Hst0.out Hst.out EW6.out HE1.out HB.out HG.out HA.out HV3.out (by omega)
end Go.Proofs.YtbncdghbnnefdaaGreat

namespace Go.Proofs.YtbncdghbnnefdaaGreat
open Go.RowKit

theorem rres_ext {B qb bud pars : Nat} {row : Value} {L : List Step} {w w' : World} {i er : Nat} {e : Ending} (h : RMk w B qb row bud pars L) (he : e = .returned (.tuple #[.int .i64 i, .int .i64 er])) (x : Ext w w') :
    RRes B qb bud row w i er pars L e w' := ⟨row, he, h.kept x, Mv.of_ext x⟩
set_option maxRecDepth 100000 in
set_option maxHeartbeats 4000000 in
theorem rnum_any (B qb bud pars : Nat) (row : Value) (L : List Step) (g : Bool) (a1 a2 : Option Addr) (n1 c1 n2 c2 n d : Nat) (w : World) (hM : RMk w B qb row bud pars L)
    (h1 : IsN w (.slice a1 n1 c1) n) (h2 : IsN w (.slice a2 n2 c2) d) (hs1 : Sm 2040 n) (hs2 : Sm 2040 d) :
    Calls Tryz.prog 10 #[.pointer (some ⟨qb, 0, none⟩), .agg #[.bool g, .slice a1 n1 c1, .slice a2 n2 c2]] w (RRes B qb bud row w (numR bud L g n d).1 (numR bud L g n d).2.1 pars (numR bud L g n d).2.2) := by
  have HY := Lib.hid (fun W (e : Ext w W) => rmay_any g a1 a2 n1 c1 n2 c2 n d W (h1.ext e) (h2.ext e) (hs1.top (by omega)) (hs2.top (by omega)))
  have HM := Lib.hid hM
  by_cases hd : d = 0
  · have e0 : numR bud L g n d = (0, 2, L) := by unfold numR; rw [if_pos hd]
    rw [e0]
    rw [show decide (d ≠ 0) = false from decide_eq_false (by simp [hd])] at HY
    clear e0 h1 h2 hs1 hs2 hM hd
    go_enter Tryz.func10, Tryz.ntmps10
    go_wp2_with fail
    refine (HY.out _ (Ext.of_alloc _ _)).mono ?_
    rintro e w1 ⟨_, rfl, E1, rfl⟩
    go_wp2
    go_ret2
    exact rres_ext HM.out rfl ((Ext.of_alloc _ _).trans E1)
  · have e0 : numR bud L g n d = putR bud L (numStep g n d) := by unfold numR; rw [if_neg hd]
    rw [e0]
    rw [show decide (d ≠ 0) = true from decide_eq_true hd] at HY
    have HN := Lib.hid (fun W (e : Ext w W) => rfnorm_any g a1 a2 n1 c1 n2 c2 n d W (h1.ext e) (h2.ext e) hs1 hs2 hd)
    have hN1 : n / Nat.gcd n d < Top := (sm_div hs1).top (by omega)
    have hN2 : d / Nat.gcd n d < Top := (sm_div hs2).top (by omega)
    have Ht := Lib.hid (And.intro hN1 hN2)
    obtain ⟨R, hR⟩ : ∃ R, R = putR bud L (numStep g n d) := ⟨_, rfl⟩
    rw [← hR]
    have HR := Lib.hid hR
    clear e0 h1 h2 hs1 hs2 hM hd hN1 hN2 hR
    go_enter Tryz.func10, Tryz.ntmps10
    go_wp2_with fail
    refine (HY.out _ (Ext.of_alloc _ _)).mono ?_
    rintro e w1 ⟨_, rfl, E1, rfl⟩
    obtain ⟨hc, hf⟩ := E1.look
    have hz := E1.size
    simp at hz
    clear HY
    go_wp2_with fail
    refine (HN.out _ ((Ext.of_alloc _ _).trans E1)).mono ?_
    rintro e w2 ⟨v, rfl, E2, a3, n3, c3, a4, n4, c4, rfl, hx, hy⟩
    have F2 := ((Ext.of_alloc w _).trans E1).trans E2
    have hst : IsStep w2 (.agg #[.int .u8 1, .int .i64 0, .int .i64 0, .bool (sg g (n / Nat.gcd n d)), .slice a3 n3 c3, .slice a4 n4 c4]) (numStep g n d) :=
      ⟨a3, n3, c3, a4, n4, c4, rfl, hx, hy, by show 1 < 256; omega, few_of_top hx Ht.out.1, few_of_top hy Ht.out.2⟩
    have Hst := Lib.hid hst
    have HF := Lib.hid F2
    clear hst hx hy HN E1 E2 F2 hc hf hz
    go_wp2_with fail
    refine (rput_any B qb bud pars row L _ _ _ (HM.out.kept HF.out) Hst.out).mono ?_
    rintro e w3 hres
    rw [← HR.out] at hres
    obtain ⟨row', rfl, hM3, hv3⟩ := hres
    have H3 := Lib.hid (And.intro hM3 ((Mv.of_ext HF.out).trans hv3))
    clear hM3 hv3
    obtain ⟨i, er, L'⟩ := R
    go_wp2
    go_ret2
    exact ⟨row', rfl, H3.out.1, H3.out.2⟩
theorem RMk.count {w : World} {B qb bud p q : Nat} {row : Value} {L : List Step} (h : RMk w B qb row bud p L) (hq : q ≤ 200) :
    RMk (w.setCell ⟨qb, 1, none⟩ (.int .i64 q)) B qb row bud q L ∧ Mv qb qb row row w (w.setCell ⟨qb, 1, none⟩ (.int .i64 q)) := by
  obtain ⟨cells, ho, hs⟩ := h.steps
  have hrp := h.rp
  have kS : Keeps w (w.setCell ⟨qb, 1, none⟩ (.int .i64 q)) := Keeps.set (Keeps.refl _) ⟨_, h.c1, by simp [isU]⟩ _
  have hb : ∀ k, k ≠ qb → (w.setCell ⟨qb, 1, none⟩ (.int .i64 q)).heap[k]? = w.heap[k]? := by
    intro k hk
    simp only [World.setCell, Array.getElem?_modify]
    rw [if_neg (fun e => hk e.symm)]
  refine ⟨⟨h.b1, ?_, ⟨cells, ho.kept fun k hk => hb k (fun e => hrp (by rw [hk, e])), fun i s hi => (hs i s hi).keep kS⟩, h.len, h.bud1, hq⟩, ⟨rfl, rfl, rfl, by simp, fun k _ h1 _ _ => hb k h1, .inl rfl, kS⟩⟩
  simp [World.setCell, Array.getElem?_modify, h.blk]
set_option maxRecDepth 100000 in
set_option maxHeartbeats 4000000 in
theorem rpar_any (B qb bud pars : Nat) (row : Value) (L : List Step) (w : World) (hM : RMk w B qb row bud pars L) :
    Calls Tryz.prog 12 #[.pointer (some ⟨qb, 0, none⟩)] w (RRes B qb bud row w (parR bud pars L).1 (parR bud pars L).2.1 (parR bud pars L).2.2.1 (parR bud pars L).2.2.2) := by
  have hp := hM.pars1
  have y1 := hM.c1
  have HM := Lib.hid hM
  clear hM
  by_cases h2 : pars = 200
  · have e0 : parR bud pars L = (0, 171, pars, L) := by unfold parR; rw [if_pos (by omega)]
    rw [e0]
    have e2 : (((pars : Nat) : Int) == 200) = true := by simp; omega
    clear e0 h2 hp
    go_enter Tryz.func12, Tryz.ntmps12
    go_wp2
    go_ret2
    exact rres_ext HM.out rfl (Ext.refl _)
  · obtain ⟨R, hR⟩ : ∃ R, R = putR bud L (parStep pars) := ⟨_, rfl⟩
    have e0 : parR bud pars L = (R.1, R.2.1, if R.2.1 = 0 then pars + 1 else pars, R.2.2) := by unfold parR; rw [if_neg (by omega), ← hR]
    rw [e0]
    have e2 : (((pars : Nat) : Int) == 200) = false := by simp; omega
    have hst : ∀ W, IsStep W (.agg #[.int .u8 2, .int .i64 pars, .int .i64 0, .bool false, .slice none 0 0, .slice none 0 0]) (parStep pars) := fun W => ⟨none, 0, 0, none, 0, 0, rfl, nilN _, nilN _, by show 2 < 256; omega, by omega, by omega⟩
    have HP := Lib.hid (rput_any B qb bud pars row L _ _ w HM.out (hst w))
    rw [← hR] at HP
    obtain ⟨i, er, L'⟩ := R
    simp only at HP ⊢
    have hp' : pars + 1 ≤ 200 := by omega
    clear e0 hR hst h2 hp
    by_cases her : er = 0
    · subst her
      rw [if_pos rfl]
      go_enter Tryz.func12, Tryz.ntmps12
      go_wp2_with fail
      refine HP.out.mono ?_
      rintro e w3 ⟨row', rfl, hM3, hv3⟩
      have hcnt := hM3.count (q := pars + 1) hp'
      have k1 := hM3.c1
      have k2 := hM3.fr 1
      have H3 := Lib.hid (And.intro hcnt.1 (hv3.trans hcnt.2))
      clear hM3 hv3 hcnt y1
      go_wp2
      go_ret2
      exact ⟨row', rfl, H3.out.1, H3.out.2⟩
    · rw [if_neg her]
      have e3 : (((er : Nat) : Int) == 0) = false := by simp; omega
      have e4 : ¬ ((er : Nat) : Int) = 0 := by omega
      clear her
      go_enter Tryz.func12, Tryz.ntmps12
      go_wp2_with fail
      refine HP.out.mono ?_
      rintro e w3 ⟨row', rfl, hM3, hv3⟩
      have H3 := Lib.hid (And.intro hM3 hv3)
      clear hM3 hv3 y1
      go_wp2
      go_ret2
      exact ⟨row', rfl, H3.out.1, H3.out.2⟩
theorem one_right {op : Nat} {a : Int} {lim pars : Int} : (fieldsN op = 4 ∧ rightP (opStep op a 0) lim pars = true) ↔ (fieldsN op = 4 ∧ 0 ≤ a ∧ a < lim) := by
  constructor
  · rintro ⟨h, hr⟩
    have := (right_bounds hr).2 h
    exact ⟨h, this.1, this.2⟩
  · rintro ⟨h, h1, h2⟩
    refine ⟨h, ?_⟩
    unfold rightP opStep
    simp only
    rw [if_neg (by omega), if_neg (by omega), if_neg (by omega), if_pos h]
    simp [noneC, ahead, h1, h2]
theorem two_right {op : Nat} {a b : Int} {lim pars : Int} : (fieldsN op = 3 ∧ rightP (opStep op a b) lim pars = true) ↔ (fieldsN op = 3 ∧ 0 ≤ a ∧ a < lim ∧ 0 ≤ b ∧ b < lim) := by
  constructor
  · rintro ⟨h, hr⟩
    have := (right_bounds hr).1 h
    exact ⟨h, this.1, this.2.1, this.2.2.1, this.2.2.2⟩
  · rintro ⟨h, h1, h2, h3, h4⟩
    refine ⟨h, ?_⟩
    unfold rightP opStep
    simp only
    rw [if_neg (by omega), if_neg (by omega), if_pos h]
    simp [noneC, ahead, h1, h2, h3, h4]
set_option maxRecDepth 100000 in
set_option maxHeartbeats 4000000 in
theorem rone17_any (B qb bud pars : Nat) (row : Value) (L : List Step) (op : Nat) (a : Int) (w : World) (hM : RMk w B qb row bud pars L) (hop : op < 256) :
    Calls Tryz.prog 14 #[.pointer (some ⟨qb, 0, none⟩), .int .u8 op, .int .i64 a] w (RRes B qb bud row w (stepR bud pars L (opStep op a 0) 4).1 (stepR bud pars L (opStep op a 0) 4).2.1 pars (stepR bud pars L (opStep op a 0) 4).2.2) := by
  have HO := Lib.hid (fun W => rone_any op hop W)
  have HM := Lib.hid hM
  obtain ⟨ra, rc, rfl, hrs⟩ := hM.rowSteps
  have hf := hrs.few
  clear hM hrs
  by_cases hc : fieldsN op = 4 ∧ 0 ≤ a ∧ a < L.length
  · have e0 : stepR bud pars L (opStep op a 0) 4 = putR bud L (opStep op a 0) := by unfold stepR; exact if_pos (one_right.2 hc)
    rw [e0]
    obtain ⟨h4, h5, h6⟩ := hc
    have h5' : ¬ a < 0 := by omega
    have h6' : ¬ (L.length : Int) ≤ a := by omega
    rw [decide_eq_true h4] at HO
    have HP := Lib.hid (fun W (e : Ext w W) => rput_any B qb bud pars _ L (opStep op a 0) _ W (HM.out.kept e) ⟨none, 0, 0, none, 0, 0, rfl, nilN _, nilN _, hop, by omega, by omega⟩)
    obtain ⟨R, hR⟩ : ∃ R, R = putR bud L (opStep op a 0) := ⟨_, rfl⟩
    rw [← hR] at HP ⊢
    obtain ⟨i, er, L'⟩ := R
    simp only at HP ⊢
    clear e0 hR h4
    go_enter Tryz.func14, Tryz.ntmps14
    go_wp2_with fail
    refine (HO.out _).mono ?_
    rintro e w1 ⟨_, rfl, E1, rfl⟩
    have y2 := (HM.out.kept E1).c2
    go_wp2_with fail
    refine (HP.out _ E1).mono ?_
    rintro e w3 ⟨row', rfl, hM3, hv3⟩
    have H3 := Lib.hid (And.intro hM3 ((Mv.of_ext E1).trans hv3))
    clear hM3 hv3 y2 E1
    go_wp2
    go_ret2
    exact ⟨row', rfl, H3.out.1, H3.out.2⟩
  · have e0 : stepR bud pars L (opStep op a 0) 4 = (0, 2, L) := by unfold stepR; exact if_neg (fun h => hc (one_right.1 h))
    rw [e0]
    clear e0
    by_cases h4 : fieldsN op = 4
    · rw [decide_eq_true h4] at HO
      by_cases h5 : a < 0
      · clear hc h4
        go_enter Tryz.func14, Tryz.ntmps14
        go_wp2_with fail
        refine (HO.out _).mono ?_
        rintro e w1 ⟨_, rfl, E1, rfl⟩
        go_wp2
        go_ret2
        exact rres_ext HM.out rfl E1
      · have h6 : (L.length : Int) ≤ a := by omega
        clear hc h4
        go_enter Tryz.func14, Tryz.ntmps14
        go_wp2_with fail
        refine (HO.out _).mono ?_
        rintro e w1 ⟨_, rfl, E1, rfl⟩
        have y2 := (HM.out.kept E1).c2
        go_wp2
        go_ret2
        exact rres_ext HM.out rfl E1
    · rw [decide_eq_false h4] at HO
      clear hc h4
      go_enter Tryz.func14, Tryz.ntmps14
      go_wp2_with fail
      refine (HO.out _).mono ?_
      rintro e w1 ⟨_, rfl, E1, rfl⟩
      go_wp2
      go_ret2
      exact rres_ext HM.out rfl E1
set_option maxRecDepth 100000 in
set_option maxHeartbeats 4000000 in
theorem rtwo17_any (B qb bud pars : Nat) (row : Value) (L : List Step) (op : Nat) (a b : Int) (w : World) (hM : RMk w B qb row bud pars L) (hop : op < 256) :
    Calls Tryz.prog 16 #[.pointer (some ⟨qb, 0, none⟩), .int .u8 op, .int .i64 a, .int .i64 b] w (RRes B qb bud row w (stepR bud pars L (opStep op a b) 3).1 (stepR bud pars L (opStep op a b) 3).2.1 pars (stepR bud pars L (opStep op a b) 3).2.2) := by
  have HO := Lib.hid (fun W => rtwo_any op hop W)
  have HM := Lib.hid hM
  obtain ⟨ra, rc, rfl, hrs⟩ := hM.rowSteps
  have hf := hrs.few
  clear hM hrs
  by_cases hc : fieldsN op = 3 ∧ 0 ≤ a ∧ a < L.length ∧ 0 ≤ b ∧ b < L.length
  · have e0 : stepR bud pars L (opStep op a b) 3 = putR bud L (opStep op a b) := by unfold stepR; exact if_pos (two_right.2 hc)
    rw [e0]
    obtain ⟨h4, h5, h6, h7, h8⟩ := hc
    have h5' : ¬ a < 0 := by omega
    have h6' : ¬ (L.length : Int) ≤ a := by omega
    have h7' : ¬ b < 0 := by omega
    have h8' : ¬ (L.length : Int) ≤ b := by omega
    rw [decide_eq_true h4] at HO
    have HP := Lib.hid (fun W (e : Ext w W) => rput_any B qb bud pars _ L (opStep op a b) _ W (HM.out.kept e) ⟨none, 0, 0, none, 0, 0, rfl, nilN _, nilN _, hop, by omega, by omega⟩)
    obtain ⟨R, hR⟩ : ∃ R, R = putR bud L (opStep op a b) := ⟨_, rfl⟩
    rw [← hR] at HP ⊢
    obtain ⟨i, er, L'⟩ := R
    simp only at HP ⊢
    clear e0 hR h4
    go_enter Tryz.func16, Tryz.ntmps16
    go_wp2_with fail
    refine (HO.out _).mono ?_
    rintro e w1 ⟨_, rfl, E1, rfl⟩
    have y2 := (HM.out.kept E1).c2
    go_wp2_with fail
    refine (HP.out _ E1).mono ?_
    rintro e w3 ⟨row', rfl, hM3, hv3⟩
    have H3 := Lib.hid (And.intro hM3 ((Mv.of_ext E1).trans hv3))
    clear hM3 hv3 y2 E1
    go_wp2
    go_ret2
    exact ⟨row', rfl, H3.out.1, H3.out.2⟩
  · have e0 : stepR bud pars L (opStep op a b) 3 = (0, 2, L) := by unfold stepR; exact if_neg (fun h => hc (two_right.1 h))
    rw [e0]
    clear e0
    by_cases h4 : fieldsN op = 3
    · rw [decide_eq_true h4] at HO
      by_cases h5 : a < 0
      · clear hc h4
        go_enter Tryz.func16, Tryz.ntmps16
        go_wp2_with fail
        refine (HO.out _).mono ?_
        rintro e w1 ⟨_, rfl, E1, rfl⟩
        go_wp2
        go_ret2
        exact rres_ext HM.out rfl E1
      · by_cases h6 : (L.length : Int) ≤ a
        · clear hc h4
          go_enter Tryz.func16, Tryz.ntmps16
          go_wp2_with fail
          refine (HO.out _).mono ?_
          rintro e w1 ⟨_, rfl, E1, rfl⟩
          have y2 := (HM.out.kept E1).c2
          go_wp2
          go_ret2
          exact rres_ext HM.out rfl E1
        · by_cases h7 : b < 0
          · clear hc h4
            go_enter Tryz.func16, Tryz.ntmps16
            go_wp2_with fail
            refine (HO.out _).mono ?_
            rintro e w1 ⟨_, rfl, E1, rfl⟩
            have y2 := (HM.out.kept E1).c2
            go_wp2
            go_ret2
            exact rres_ext HM.out rfl E1
          · have h8 : (L.length : Int) ≤ b := by omega
            clear hc h4
            go_enter Tryz.func16, Tryz.ntmps16
            go_wp2_with fail
            refine (HO.out _).mono ?_
            rintro e w1 ⟨_, rfl, E1, rfl⟩
            have y2 := (HM.out.kept E1).c2
            go_wp2
            go_ret2
            exact rres_ext HM.out rfl E1
    · rw [decide_eq_false h4] at HO
      clear hc h4
      go_enter Tryz.func16, Tryz.ntmps16
      go_wp2_with fail
      refine (HO.out _).mono ?_
      rintro e w1 ⟨_, rfl, E1, rfl⟩
      go_wp2
      go_ret2
      exact rres_ext HM.out rfl E1
end Go.Proofs.YtbncdghbnnefdaaGreat

namespace Go.Proofs.YtbncdghbnnefdaaGreat
open Go.RowKit

/-- What the reference's Tape answers. -/
def RTape (pars : Nat) (out : Int) (L : List Step) (T : List (ByteArray × Int)) (row tv : Value) (v : Value) : Prop :=
  (checkP pars out L T = 0 → v = .tuple #[.agg #[.int .i64 pars, .int .i64 out, row, tv], .int .i64 0]) ∧ (checkP pars out L T ≠ 0 → v = .tuple #[zeroT, .int .i64 2])
set_option linter.unusedSimpArgs false in
set_option maxRecDepth 100000 in
set_option maxHeartbeats 4000000 in
theorem rtape_any (B qb bud pars : Nat) (row : Value) (L : List Step) (out : Int) (a : Option Addr) (n c : Nat) (T : List (ByteArray × Int)) (w : World) (hM : RMk w B qb row bud pars L) (hT : Tells w a n c T) (hsm : SmL L) :
    Calls Tryz.prog 18 #[.pointer (some ⟨qb, 0, none⟩), .int .i64 out, .slice a n c] w (Post w fun v _ => RTape pars out L T row (.slice a n c) v) := by
  obtain ⟨ra, rc, rfl, hrs⟩ := hM.rowSteps
  have HC := Lib.hid (fun W (e : Ext w W) => rcheck_any pars out ra a L.length rc n c L T W (hrs.ext e) (hT.ext e) hsm)
  obtain ⟨q, hq⟩ : ∃ q, q = checkP pars out L T := ⟨_, rfl⟩
  rw [← hq] at HC
  have Hq := Lib.hid hq
  have hql := hM.lts.1
  have HM := Lib.hid hM
  have hfew := hrs.few
  clear hrs hT hsm hq hM
  go_enter Tryz.func18, Tryz.ntmps18
  go_wp2_with fail
  obtain ⟨zb, hzb⟩ : ∃ zb, zb = w.heap.size := ⟨_, rfl⟩
  obtain ⟨W1, hW1⟩ : ∃ W1, W1 = w.alloc (.cells #[.int .i64 0, .int .i64 0, .slice none 0 0, .slice none 0 0] 53) := ⟨_, rfl⟩
  have E1 : Ext w W1 := by rw [hW1]; exact Ext.of_alloc _ _
  have x0 : W1.cell? ⟨zb, 0, none⟩ = some (.int .i64 0) := by rw [hW1, hzb]; simp [go_sem]
  have x1 : W1.cell? ⟨zb, 1, none⟩ = some (.int .i64 0) := by rw [hW1, hzb]; simp [go_sem]
  have x2 : W1.cell? ⟨zb, 2, none⟩ = some (.slice none 0 0) := by rw [hW1, hzb]; simp [go_sem]
  have x3 : W1.cell? ⟨zb, 3, none⟩ = some (.slice none 0 0) := by rw [hW1, hzb]; simp [go_sem]
  have xf : ∀ k, W1.frozen? ⟨zb, k, none⟩ = false := by intro k; rw [hW1, hzb]; simp [go_sem]
  have hzl : zb < W1.heap.size := by rw [hW1, hzb]; simp
  have hwz : w.heap.size ≤ zb := by omega
  have y1 := (HM.out.kept E1).c1
  have y2 := (HM.out.kept E1).c2
  rw [← hW1, ← hzb]
  clear hW1 hzb
  refine wp_region_T (fun _ => True) (fun w' : World => w'.cell? ⟨qb, 1, none⟩ = some (.int .i64 pars) ∧ w'.cell? ⟨qb, 2, none⟩ = some (.slice ra L.length rc)) 99 13 (by rfl) (by kernel_rfl) ?_
  have hT0 : W1.drew.cell? ⟨qb, 1, none⟩ = some (.int .i64 pars) ∧ W1.drew.cell? ⟨qb, 2, none⟩ = some (.slice ra L.length rc) := ⟨y1, y2⟩
  refine wpAnyT_take' (i := 0) (some 9) (v := ?_) rfl rfl (by kernel_rfl) (by kernel_rfl) (by kernel_rfl) (by decide) (fun _ _ _ h => h) (Or.inl ⟨by rfl, ?_⟩) (fun _ => trivial) hT0 ?_
  rotate_left
  · (intro w hSw; (try dsimp only at hSw); go_simp); try with_reducible rfl
  try simp only [Act.put, List.setIfInBounds_toArray, List.set_cons_zero, List.set_cons_succ]
  refine wpAnyT_take' (i := 1) (some 10) (v := ?_) rfl rfl (by kernel_rfl) (by kernel_rfl) (by kernel_rfl) (by decide) (fun _ _ _ h => h) (Or.inl ⟨by rfl, ?_⟩) (fun _ => trivial) hT0 ?_
  rotate_left
  · (intro w hSw; (try dsimp only at hSw); go_simp); try with_reducible rfl
  try simp only [Act.put, List.setIfInBounds_toArray, List.set_cons_zero, List.set_cons_succ]
  refine wpAnyT_take' (i := 2) (some 11) (v := ?_) rfl rfl (by kernel_rfl) (by kernel_rfl) (by kernel_rfl) (by decide) (fun _ _ _ h => h) (Or.inl ⟨by rfl, ?_⟩) (fun _ => trivial) hT0 ?_
  rotate_left
  · (intro w hSw; (try dsimp only at hSw); go_simp); try with_reducible rfl
  try simp only [Act.put, List.setIfInBounds_toArray, List.set_cons_zero, List.set_cons_succ]
  refine wpAnyT_take' (i := 3) (some 12) (v := ?_) rfl rfl (by kernel_rfl) (by kernel_rfl) (by kernel_rfl) (by decide) (fun _ _ _ h => h) (Or.inl ⟨by rfl, ?_⟩) (fun _ => trivial) hT0 ?_
  rotate_left
  · (intro w hSw; (try dsimp only at hSw); go_simp); try with_reducible rfl
  try simp only [Act.put, List.setIfInBounds_toArray, List.set_cons_zero, List.set_cons_succ]
  refine wpAnyT_take' (i := 4) (some 13) (v := ?_) rfl rfl (by kernel_rfl) (by kernel_rfl) (by kernel_rfl) (by decide) (fun _ _ _ h => h) (Or.inl ⟨by rfl, ?_⟩) (fun _ => trivial) hT0 ?_
  rotate_left
  · (intro w hSw; (try dsimp only at hSw); go_simp); try with_reducible rfl
  try simp only [Act.put, List.setIfInBounds_toArray, List.set_cons_zero, List.set_cons_succ]
  refine wpAnyT_take' (i := 5) (some 14) (v := ?_) rfl rfl (by kernel_rfl) (by kernel_rfl) (by kernel_rfl) (by decide) (fun _ _ _ h => h) (Or.inl ⟨by rfl, ?_⟩) (fun _ => trivial) hT0 ?_
  rotate_left
  · (intro w hSw; (try dsimp only at hSw); go_simp); try with_reducible rfl
  try simp only [Act.put, List.setIfInBounds_toArray, List.set_cons_zero, List.set_cons_succ]
  refine wpAnyT_take' (i := 6) (some 15) (v := ?_) rfl rfl (by kernel_rfl) (by kernel_rfl) (by kernel_rfl) (by decide) (fun _ _ _ h => h) (Or.inl ⟨by rfl, ?_⟩) (fun _ => trivial) hT0 ?_
  rotate_left
  · (intro w hSw; (try dsimp only at hSw); go_simp); try with_reducible rfl
  try simp only [Act.put, List.setIfInBounds_toArray, List.set_cons_zero, List.set_cons_succ]
  refine wpAnyT_take' (i := 7) (some 16) (v := ?_) rfl rfl (by kernel_rfl) (by kernel_rfl) (by kernel_rfl) (by decide) (fun _ _ _ h => h) (Or.inl ⟨by rfl, ?_⟩) (fun _ => trivial) hT0 ?_
  rotate_left
  · (intro w hSw; (try dsimp only at hSw); go_simp); try with_reducible rfl
  try simp only [Act.put, List.setIfInBounds_toArray, List.set_cons_zero, List.set_cons_succ]
  refine wpAnyT_take' (i := 8) (some 17) (v := ?_) rfl rfl (by kernel_rfl) (by kernel_rfl) (by kernel_rfl) (by decide) (fun _ _ _ h => h) (Or.inl ⟨by rfl, ?_⟩) (fun _ => trivial) hT0 ?_
  rotate_left
  · (intro w hSw; (try dsimp only at hSw); go_simp); try with_reducible rfl
  try simp only [Act.put, List.setIfInBounds_toArray, List.set_cons_zero, List.set_cons_succ]
  refine wpAnyT_take' (i := 9) (some 18) (v := ?_) rfl rfl (by kernel_rfl) (by kernel_rfl) (by kernel_rfl) (by decide) (fun _ _ _ h => h) (Or.inl ⟨by rfl, ?_⟩) (fun _ => trivial) hT0 ?_
  rotate_left
  · (intro w hSw; (try dsimp only at hSw); go_simp); try with_reducible rfl
  try simp only [Act.put, List.setIfInBounds_toArray, List.set_cons_zero, List.set_cons_succ]
  refine wpAnyT_take' (i := 10) (some 19) (v := ?_) rfl rfl (by kernel_rfl) (by kernel_rfl) (by kernel_rfl) (by decide) (fun _ _ _ h => h) (Or.inl ⟨by rfl, ?_⟩) (fun _ => trivial) hT0 ?_
  rotate_left
  · (intro w hSw; (try dsimp only at hSw); go_simp); try with_reducible rfl
  try simp only [Act.put, List.setIfInBounds_toArray, List.set_cons_zero, List.set_cons_succ]
  refine wpAnyT_one (i := 11) (by kernel_rfl) rfl (fun K hK => ?_)
  go_simp
  have E2 : Ext W1 (W1.alloc (.cells #[.int .i64 0, .int .i64 0, .slice none 0 0, .slice none 0 0] 53)).drew := ((Ext.refl W1).alloc _).drew
  have hT1 : (W1.alloc (.cells #[.int .i64 0, .int .i64 0, .slice none 0 0, .slice none 0 0] 53)).drew.cell? ⟨qb, 1, none⟩ = some (.int .i64 pars) ∧ (W1.alloc (.cells #[.int .i64 0, .int .i64 0, .slice none 0 0, .slice none 0 0] 53)).drew.cell? ⟨qb, 2, none⟩ = some (.slice ra L.length rc) := ⟨E2.cell y1, E2.cell y2⟩
  refine hK _ _ (fun _ => trivial) hT1 ?_
  clear hK K
  try simp only [Act.put, List.setIfInBounds_toArray, List.set_cons_zero, List.set_cons_succ]
  refine wpAnyT_one (i := 12) (by kernel_rfl) rfl (fun K hK => ?_)
  go_simp
  have E3 : Ext W1 (W1.alloc (.cells #[.int .i64 pars, .int .i64 out, .slice ra L.length rc, .slice a n c] 53)).drew := ((Ext.refl W1).alloc _).drew
  have hT2 : (W1.alloc (.cells #[.int .i64 pars, .int .i64 out, .slice ra L.length rc, .slice a n c] 53)).drew.cell? ⟨qb, 1, none⟩ = some (.int .i64 pars) ∧ (W1.alloc (.cells #[.int .i64 pars, .int .i64 out, .slice ra L.length rc, .slice a n c] 53)).drew.cell? ⟨qb, 2, none⟩ = some (.slice ra L.length rc) := ⟨E3.cell y1, E3.cell y2⟩
  refine hK _ _ (fun _ => trivial) hT2 ?_
  clear hK K
  try simp only [Act.put, List.setIfInBounds_toArray, List.set_cons_zero, List.set_cons_succ]
  refine wpAnyT_done (by kernel_rfl) ?_ _
  try simp only [Act.put, List.setIfInBounds_toArray, List.set_cons_zero, List.set_cons_succ]
  clear hT0 hT1 hT2 E2
  obtain ⟨W3, hW3⟩ : ∃ W3, W3 = (W1.alloc (.cells #[.int .i64 pars, .int .i64 out, .slice ra L.length rc, .slice a n c] 53)).drew := ⟨_, rfl⟩
  obtain ⟨tb, htb⟩ : ∃ tb, tb = W1.heap.size := ⟨_, rfl⟩
  have z0 : W3.cell? ⟨tb, 0, none⟩ = some (.int .i64 pars) := by rw [hW3, htb]; simp [go_sem]
  have z1 : W3.cell? ⟨tb, 1, none⟩ = some (.int .i64 out) := by rw [hW3, htb]; simp [go_sem]
  have z2 : W3.cell? ⟨tb, 2, none⟩ = some (.slice ra L.length rc) := by rw [hW3, htb]; simp [go_sem]
  have z3 : W3.cell? ⟨tb, 3, none⟩ = some (.slice a n c) := by rw [hW3, htb]; simp [go_sem]
  have hzt : zb ≠ tb := by omega
  have E13 : Ext W1 W3 := by rw [hW3]; exact E3
  rw [← hW3, ← htb]
  clear hW3 htb E3 y1 y2
  go_wp2_with fail
  refine (HC.out _ (E1.trans E13)).mono ?_
  rintro e w4 ⟨_, rfl, E4, rfl⟩
  have E14 := E13.trans E4
  have F4' : Ext w w4 := E1.trans E14
  replace z0 := E4.cell z0
  replace z1 := E4.cell z1
  replace z2 := E4.cell z2
  replace z3 := E4.cell z3
  replace x0 := E14.cell x0
  replace x1 := E14.cell x1
  replace x2 := E14.cell x2
  replace x3 := E14.cell x3
  have f0 : w4.frozen? ⟨zb, 0, none⟩ = false := (Below.frozen (p := ⟨zb, 0, none⟩) E14 hzl).trans (xf 0)
  have f1 : w4.frozen? ⟨zb, 1, none⟩ = false := (Below.frozen (p := ⟨zb, 1, none⟩) E14 hzl).trans (xf 1)
  have f2 : w4.frozen? ⟨zb, 2, none⟩ = false := (Below.frozen (p := ⟨zb, 2, none⟩) E14 hzl).trans (xf 2)
  have f3 : w4.frozen? ⟨zb, 3, none⟩ = false := (Below.frozen (p := ⟨zb, 3, none⟩) E14 hzl).trans (xf 3)
  clear E1 E13 E4 E14 xf HC
  by_cases h0 : q = 0
  · subst h0
    go_wp2
    exact bodyPost_ret (v := .tuple #[.agg #[.int .i64 pars, .int .i64 out, .slice ra L.length rc, .slice a n c], .int .i64 0]) (by simp [results, Tryz.results18, go_sem, x0, x1, x2, x3]) rfl
      (Post.mk (Below.setCell (p := ⟨zb, 3, none⟩) (Below.setCell (p := ⟨zb, 2, none⟩) (Below.setCell (p := ⟨zb, 1, none⟩) (Below.setCell (p := ⟨zb, 0, none⟩) F4' hwz _) hwz _) hwz _) hwz _) ⟨fun _ => rfl, fun h => absurd Hq.out.symm h⟩)
  · have q0 : ¬ ((q : Int) = 0) := by omega
    have hn : checkP pars out L T ≠ 0 := by rw [← Hq.out]; exact h0
    have Hn := Lib.hid hn
    clear h0 hn
    go_wp2
    exact bodyPost_ret (v := .tuple #[zeroT, .int .i64 2]) (by simp [results, Tryz.results18, go_sem, x0, x1, x2, x3, zeroT]) rfl
      (Post.mk (Below.setCell (p := ⟨zb, 3, none⟩) (Below.setCell (p := ⟨zb, 2, none⟩) (Below.setCell (p := ⟨zb, 1, none⟩) (Below.setCell (p := ⟨zb, 0, none⟩) F4' hwz _) hwz _) hwz _) hwz _) ⟨fun h => absurd h Hn.out, fun _ => rfl⟩)
end Go.Proofs.YtbncdghbnnefdaaGreat
