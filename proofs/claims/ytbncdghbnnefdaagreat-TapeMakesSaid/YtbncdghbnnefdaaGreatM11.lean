/- Parts of the proof: contracts of the functions that the law reaches, and the arithmetic that they rest on; no condition beyond those that each theorem states. -/
import Derived.BigRegion
import Derived.Deep.RegionHeld3
import Derived.Test.YtbncdghbnnefdaaGreatM10

namespace Go.Proofs.YtbncdghbnnefdaaGreat
open Go.RowKit

/-- Step i of a row of cells. -/
def StepCells (w : World) (cells : List Value) (i : Nat) (s : Step) : Prop := ∃ v, IsStep w (.agg v) s ∧ (cells.drop (6 * i)).take 6 = v.toList
theorem StepCells.keep {w w' : World} {cells : List Value} {i : Nat} {s : Step} (h : StepCells w cells i s) (e : Keeps w w') : StepCells w' cells i s := by
  obtain ⟨v, h1, h2⟩ := h
  exact ⟨v, h1.keep e, h2⟩
theorem StepCells.append {w : World} {cells news : List Value} {i : Nat} {s : Step} (h : StepCells w cells i s) (hi : 6 * i + 6 ≤ cells.length) : StepCells w (cells ++ news) i s := by
  obtain ⟨v, h1, h2⟩ := h
  refine ⟨v, h1, ?_⟩
  rw [List.drop_append_of_le_length (by omega), List.take_append_of_le_length (by simp; omega)]
  exact h2
theorem StepCells.last {w : World} {cells : List Value} {v : Array Value} {i : Nat} {s : Step} (h : IsStep w (.agg v) s) (hi : cells.length = 6 * i) (hv : v.size = 6) : StepCells w (cells ++ v.toList) i s := by
  refine ⟨v, h, ?_⟩
  rw [← hi, List.drop_left, List.take_of_length_le (by simp; omega)]

/-- What the steps of a maker come to. -/
structure Good (bud pars : Nat) (L : List Step) : Prop where
  wf : ∀ s ∈ L, Wf s
  apart : Apart L
  right : ∀ (i : Nat) (s : Step), L[i]? = some s → rightP s i pars = true
  len : L.length ≤ bud
  bud0 : 1 ≤ bud
  bud1 : bud ≤ 20000
  pars : pars ≤ 200

/-- The maker, in memory. -/
structure Mk (w : World) (B pb mb : Nat) (row : Value) (bud pars gp : Nat) (L : List Step) : Prop where
  b1 : B ≤ pb
  b2 : B ≤ mb
  blk : w.heap[pb]? = some (.cells #[.int .i64 bud, .int .i64 pars, row, .map (some mb)] 72 (0, 0))
  map : w.heap[mb]? = some (.map (esOf L) L.length)
  steps : ∃ cells, OwnsU w B 78 6 row L.length cells ∧ ∀ (i : Nat) (s : Step), L[i]? = some s → StepCells w cells i s
  good : Good bud gp L

theorem Mk.pm {w : World} {B pb mb bud pars gp : Nat} {row : Value} {L : List Step} (h : Mk w B pb mb row bud pars gp L) : pb ≠ mb := by
  intro e
  have h1 := h.blk
  rw [e, h.map] at h1
  cases h1
theorem Mk.rp {w : World} {B pb mb bud pars gp : Nat} {row : Value} {L : List Step} (h : Mk w B pb mb row bud pars gp L) : row.ownBlock ≠ some pb ∧ row.ownBlock ≠ some mb := by
  obtain ⟨cells, ho, _⟩ := h.steps
  rcases ho.1.2 with ⟨rfl, _⟩ | ⟨g, cap, cur, rfl, _, hg, _⟩
  · constructor <;> (intro e; cases e)
  · constructor
    · intro e
      simp only [Value.ownBlock, Option.some.injEq] at e
      subst e
      rw [h.blk] at hg
      simp at hg
    · intro e
      simp only [Value.ownBlock, Option.some.injEq] at e
      subst e
      rw [h.map] at hg
      cases hg

/-- Between two worlds just the maker has turned: its block, its map, its row; and no limb. -/
structure Mv (pb mb : Nat) (row row' : Value) (w w' : World) : Prop where
  os : w'.os = w.os
  tape : w'.tape = w.tape
  output : w'.output = w.output
  size : w.heap.size ≤ w'.heap.size
  block : ∀ k, k < w.heap.size → k ≠ pb → k ≠ mb → row.ownBlock ≠ some k → w'.heap[k]? = w.heap[k]?
  row : row'.ownBlock = row.ownBlock ∨ ∃ g, row'.ownBlock = some g ∧ w.heap.size ≤ g
  keeps : Keeps w w'
theorem Mv.of_ext {pb mb : Nat} {row : Value} {w w' : World} (h : Ext w w') : Mv pb mb row row w w' :=
  ⟨Below.os h, Below.tape h, Below.output h, h.size, fun k hk _ _ _ => Below.block h k hk, .inl rfl, h.keeps⟩
theorem Mv.trans {pb mb : Nat} {r1 r2 r3 : Value} {a b c : World} (h : Mv pb mb r1 r2 a b) (k : Mv pb mb r2 r3 b c) : Mv pb mb r1 r3 a c := by
  refine ⟨k.os.trans h.os, k.tape.trans h.tape, k.output.trans h.output, Nat.le_trans h.size k.size, fun i hi h1 h2 h3 => ?_, ?_, h.keeps.trans k.keeps⟩
  · have hs := h.size
    rw [k.block i (by omega) h1 h2 ?_, h.block i hi h1 h2 h3]
    rcases h.row with e | ⟨g, e, hg⟩
    · rw [e]; exact h3
    · rw [e]
      intro e'
      simp at e'
      omega
  · rcases k.row with e | ⟨g, e, hg⟩
    · rw [e]; exact h.row
    · exact .inr ⟨g, e, Nat.le_trans h.size hg⟩
theorem Mv.below {pb mb B : Nat} {row row' : Value} {w w' : World} (h : Mv pb mb row row' w w') (h1 : B ≤ pb) (h2 : B ≤ mb) (h3 : ∀ k, row.ownBlock = some k → B ≤ k) (h4 : B ≤ w.heap.size) : Below B w w' :=
  ⟨h.os, h.tape, h.output, h.size, fun k hk => h.block k (by omega) (by omega) (by omega) (fun e => by have := h3 k e; omega)⟩
theorem Mv.cell {pb mb : Nat} {row row' : Value} {w w' : World} (h : Mv pb mb row row' w w') {p : Addr} {v : Value} (hv : w.cell? p = some v) (h1 : p.block ≠ pb) (h2 : p.block ≠ mb) (h3 : row.ownBlock ≠ some p.block) : w'.cell? p = some v := by
  rw [World.cell?_of_block (h.block p.block (World.block_lt_of_cell? w p hv) h1 h2 h3)]
  exact hv
/-- A maker stays where its own blocks are as they were. -/
theorem Mk.kept {w w' : World} {B pb mb bud pars gp : Nat} {row : Value} {L : List Step} (h : Mk w B pb mb row bud pars gp L) (e : Ext w w') : Mk w' B pb mb row bud pars gp L := by
  obtain ⟨cells, ho, hs⟩ := h.steps
  refine ⟨h.b1, h.b2, e.block h.blk, e.block h.map, ⟨cells, ho.kept fun k hk => ?_, fun i s hi => (hs i s hi).keep e.keeps⟩, h.good⟩
  exact Below.block e k (ho.lt k hk).2
theorem Mk.c0 {w : World} {B pb mb bud pars gp : Nat} {row : Value} {L : List Step} (h : Mk w B pb mb row bud pars gp L) : w.cell? ⟨pb, 0, none⟩ = some (.int .i64 bud) := by simp [World.cell?, h.blk]
theorem Mk.c1 {w : World} {B pb mb bud pars gp : Nat} {row : Value} {L : List Step} (h : Mk w B pb mb row bud pars gp L) : w.cell? ⟨pb, 1, none⟩ = some (.int .i64 pars) := by simp [World.cell?, h.blk]
theorem Mk.c2 {w : World} {B pb mb bud pars gp : Nat} {row : Value} {L : List Step} (h : Mk w B pb mb row bud pars gp L) : w.cell? ⟨pb, 2, none⟩ = some row := by simp [World.cell?, h.blk]
theorem Mk.c3 {w : World} {B pb mb bud pars gp : Nat} {row : Value} {L : List Step} (h : Mk w B pb mb row bud pars gp L) : w.cell? ⟨pb, 3, none⟩ = some (.map (some mb)) := by simp [World.cell?, h.blk]
theorem Mk.fr {w : World} {B pb mb bud pars gp : Nat} {row : Value} {L : List Step} (h : Mk w B pb mb row bud pars gp L) (o : Nat) : w.frozen? ⟨pb, o, none⟩ = false := by simp [World.frozen?, h.blk]
theorem Mk.row_form {w : World} {B pb mb bud pars gp : Nat} {row : Value} {L : List Step} (h : Mk w B pb mb row bud pars gp L) : ∃ a c, row = .slice a L.length c := by
  obtain ⟨cells, ho, _⟩ := h.steps
  rcases ho.1.2 with ⟨rfl, h0⟩ | ⟨g, cap, cur, rfl, _⟩
  · exact ⟨none, 0, by rw [h0]⟩
  · exact ⟨_, cap, rfl⟩

/-- The map's block holds just the steps. -/
def MapAt (mb : Nat) (L : List Step) (w : World) : Prop := w.heap[mb]? = some (.map (esOf L) L.length)
@[simp] theorem MapAt_drew (mb : Nat) (L : List Step) (w : World) : MapAt mb L w.drew = MapAt mb L w := rfl
@[simp] theorem MapAt_alloc {mb : Nat} {L : List Step} {w : World} (h : MapAt mb L w) (o : Obj) : MapAt mb L (w.alloc o) := (Ext.of_alloc w o).block h
@[simp] theorem MapAt_set {mb : Nat} {L : List Step} {w : World} (h : MapAt mb L w) (p : Addr) (v : Value) : MapAt mb L (w.setCell p v) := by
  unfold MapAt at *
  simp only [World.setCell, Array.getElem?_modify]
  by_cases e : p.block = mb
  · rw [if_pos e, h]; rfl
  · rw [if_neg e]; exact h
end Go.Proofs.YtbncdghbnnefdaaGreat

namespace Go.Proofs.YtbncdghbnnefdaaGreat
open Go.RowKit

/-- The step bears a normal number, or none. -/
def Nice (s : Step) : Prop := (s.op = 1 → normC s = true) ∧ (s.op ≠ 1 → noneC s = true)
theorem sg_sg (g : Bool) (m : Nat) : sg (sg g m) m = sg g m := by unfold sg; cases g <;> simp
theorem normC_spec {s : Step} (h : normC s = true) : val s.ys ≠ 0 ∧ sg s.neg (val s.xs) = s.neg ∧ s.xs = limbs (val s.xs) ∧ s.ys = limbs (val s.ys) ∧ val s.xs / Nat.gcd (val s.xs) (val s.ys) = val s.xs ∧ val s.ys / Nat.gcd (val s.xs) (val s.ys) = val s.ys := by
  unfold normC sameL at h
  simp only [Bool.and_eq_true, decide_eq_true_eq] at h
  obtain ⟨h1, h2, h3, h4⟩ := h
  have e1 := congrArg val h3
  have e2 := congrArg val h4
  rw [val_limbs] at e1 e2
  rw [e1] at h2 h3
  rw [e2] at h4
  exact ⟨h1, h2, h3.symm, h4.symm, e1, e2⟩

set_option maxRecDepth 100000 in
set_option maxHeartbeats 4000000 in
theorem put_old (B pb mb bud pars gp : Nat) (row : Value) (L : List Step) (s : Step) (v : Value) (i : Nat) (w : World) (hM : Mk w B pb mb row bud pars gp L) (hs : IsStep w v s) (hi : L[i]? = some s) (hn : Nice s) :
    Calls Tryz.prog 30 #[.pointer (some ⟨pb, 0, none⟩), v] w (Post w fun r _ => r = .tuple #[.int .i64 i, .int .i64 0]) := by
  obtain ⟨a1, n1, c1, a2, n2, c2, rfl, h1, h2, hop, hn1, hn2⟩ := hs
  have k3 := hM.c3
  have hpb := World.block_lt_of_cell? w _ k3
  simp at hpb
  have hA : MapAt mb L w := hM.map
  have hlk := fun W (h : MapAt mb L W) => look_hit (i := i) (s := s) (mb := mb) (n := L.length) hM.good.wf hM.good.apart hi W h
  unfold keyV at hlk
  by_cases h1' : s.op = 1
  · have hnc := normC_spec (hn.1 h1')
    obtain ⟨q1, q2, q3, q4, q5, q6⟩ := hnc
    have e1 : (((s.op : Nat) : Int) == 1) = true := by simp; omega
    obtain ⟨u, hu⟩ : ∃ u, u = txt (keyT s) := ⟨_, rfl⟩
    have hT := fun w' u1 u2 => ftext_any s.neg a1 a2 n1 c1 n2 c2 (val s.xs) (val s.ys) w' u1 u2 (h1.top hn1) (h2.top hn2) q1
    rw [q5, q6, q2] at hT
    have eT : fT s.neg (val s.xs) (val s.ys) = keyT s := by unfold fT keyT; rw [if_pos h1']
    rw [eT, ← hu] at hT
    rw [← hu] at hlk
    have HT := Lib.hid hT
    have Hlk := Lib.hid hlk
    have k1 : IsN w (.slice a1 n1 c1) (val s.xs) := IsN.of h1 (by omega)
    have k2 : IsN w (.slice a2 n2 c2) (val s.ys) := IsN.of h2 (by omega)
    clear hn hi h1' hlk hT eT hu q1 q2 q3 q4 q5 q6
    go_enter Tryz.func30, Tryz.ntmps30
    go_wp2_with fail
    refine (HT.out _ (k1.ext (by repeat (first | with_reducible exact Ext.refl _ | with_reducible assumption | (with_reducible refine Ext.alloc ?_ _) | (with_reducible refine Ext.drew ?_) | (with_reducible refine Ext.drewN ?_ _) | (with_reducible refine Ext.set ?_ (by first | (simp; done) | (simp; omega)) _) | (with_reducible refine Ext.trans ?_ (by with_reducible assumption))))) (k2.ext (by repeat (first | with_reducible exact Ext.refl _ | with_reducible assumption | (with_reducible refine Ext.alloc ?_ _) | (with_reducible refine Ext.drew ?_) | (with_reducible refine Ext.drewN ?_ _) | (with_reducible refine Ext.set ?_ (by first | (simp; done) | (simp; omega)) _) | (with_reducible refine Ext.trans ?_ (by with_reducible assumption)))))).mono ?_
    rintro e w1 ⟨_, rfl, E1, rfl⟩
    obtain ⟨hc, hf⟩ := E1.look
    have hz := E1.size
    simp at hz
    have k3' := E1.cell ((Ext.of_alloc _ _).cell ((Ext.of_alloc _ _).cell k3))
    have hA1 : MapAt mb L w1 := E1.block (MapAt_alloc (MapAt_alloc hA _) _)
    have hl := Hlk.out (w1.setCell ⟨w.heap.size + 1, 3, none⟩ (.string u)).drew (MapAt_set hA1 _ _)
    go_wp2
    go_region
    go_wp2
    go_ret2
    exact Post.mk (by repeat (first | with_reducible exact Ext.refl _ | with_reducible assumption | (with_reducible refine Ext.alloc ?_ _) | (with_reducible refine Ext.drew ?_) | (with_reducible refine Ext.drewN ?_ _) | (with_reducible refine Ext.set ?_ (by first | (simp; done) | (simp; omega)) _) | (with_reducible refine Ext.trans ?_ (by with_reducible assumption)))) rfl
  · have e1 : (((s.op : Nat) : Int) == 1) = false := by simp; omega
    have ek : txt (keyT s) = ⟨#[]⟩ := by unfold keyT; rw [if_neg h1']; rfl
    rw [ek] at hlk
    have hl := hlk ((w.alloc (.cells #[.int .u8 s.op, .int .i64 s.a, .int .i64 s.b, .bool s.neg, .slice a1 n1 c1, .slice a2 n2 c2] 78)).alloc (.cells #[.int .u8 s.op, .int .i64 s.a, .int .i64 s.b, .string ⟨#[]⟩] 98)).drew (MapAt_alloc (MapAt_alloc hA _) _)
    clear hn hi ek h1' hlk
    go_enter Tryz.func30, Tryz.ntmps30
    go_wp2
    go_region
    go_wp2
    go_ret2
    exact Post.mk (by repeat (first | with_reducible exact Ext.refl _ | with_reducible assumption | (with_reducible refine Ext.alloc ?_ _) | (with_reducible refine Ext.drew ?_) | (with_reducible refine Ext.drewN ?_ _) | (with_reducible refine Ext.set ?_ (by first | (simp; done) | (simp; omega)) _) | (with_reducible refine Ext.trans ?_ (by with_reducible assumption)))) rfl
end Go.Proofs.YtbncdghbnnefdaaGreat

namespace Go.Proofs.YtbncdghbnnefdaaGreat
open Go.RowKit

theorem info_node : (Tryz.prog.info? 78).map (fun i => (i.zero, i.size, i.bytes)) = some (some (.agg #[.int .u8 0, .int .i64 0, .int .i64 0, .bool false, .slice none 0 0, .slice none 0 0]), 6, 80) := by kernel_rfl

theorem cell_setBlock {w : World} {mb : Nat} {o : Obj} {p : Addr} (h : p.block ≠ mb) : (ChangeMaps.setBlock w mb o).cell? p = w.cell? p := by
  refine World.cell?_of_block ?_
  simp only [ChangeMaps.setBlock, Array.getElem?_setIfInBounds]
  rw [if_neg (fun e => h e.symm)]
/-- What put leaves behind: the row is longer, the map has the step. -/
theorem put_done {X w2 : World} {B pb mb bud pars gp g cap : Nat} {row : Value} {L : List Step} {s : Step} {v : Array Value} {cells : List Value} (hM : Mk X B pb mb row bud pars gp L)
    (hst : ∀ (i : Nat) (t : Step), L[i]? = some t → StepCells X cells i t) (hown : OwnsU X B 78 6 row L.length cells)
    (hown2 : OwnsU w2 B 78 6 (.slice (some ⟨g, 0, none⟩) (L.length + 1) cap) (L.length + 1) (cells ++ v.toList)) (hgrow : X.grownBy w2 row.ownBlock) (hlies : row.ownBlock = some g ∨ g = X.heap.size)
    (hs : IsStep X (.agg v) s) (hv : v.size = 6) (hg : Good bud gp (L ++ [s])) (o1 : Obj) :
    Mk (ChangeMaps.setBlock (ChangeMaps.setBlock (w2.setCell ⟨pb, 2, none⟩ (.slice (some ⟨g, 0, none⟩) (L.length + 1) cap)) mb o1) mb (.map (esOf (L ++ [s])) (L ++ [s]).length)) B pb mb (.slice (some ⟨g, 0, none⟩) (L.length + 1) cap) bud pars gp (L ++ [s]) ∧
    Mv pb mb row (.slice (some ⟨g, 0, none⟩) (L.length + 1) cap) X (ChangeMaps.setBlock (ChangeMaps.setBlock (w2.setCell ⟨pb, 2, none⟩ (.slice (some ⟨g, 0, none⟩) (L.length + 1) cap)) mb o1) mb (.map (esOf (L ++ [s])) (L ++ [s]).length)) := by
  obtain ⟨rp, rm⟩ := hM.rp
  have hpm := hM.pm
  have hpX : pb < X.heap.size := (Array.getElem?_eq_some_iff.1 hM.blk).1
  have hmX : mb < X.heap.size := (Array.getElem?_eq_some_iff.1 hM.map).1
  have hsz := hgrow.size
  have gp' : g ≠ pb := by
    rcases hlies with e | e
    · intro e'; rw [e, e'] at rp; exact rp rfl
    · omega
  have gm' : g ≠ mb := by
    rcases hlies with e | e
    · intro e'; rw [e, e'] at rm; exact rm rfl
    · omega
  have hP2 : w2.heap[pb]? = X.heap[pb]? := hgrow.block pb hpX (fun e => rp e.symm)
  have hM2 : w2.heap[mb]? = X.heap[mb]? := hgrow.block mb hmX (fun e => rm e.symm)
  obtain ⟨W, hW⟩ : ∃ W, W = ChangeMaps.setBlock (ChangeMaps.setBlock (w2.setCell ⟨pb, 2, none⟩ (.slice (some ⟨g, 0, none⟩) (L.length + 1) cap)) mb o1) mb (.map (esOf (L ++ [s])) (L ++ [s]).length) := ⟨_, rfl⟩
  rw [← hW]
  have hheap : ∀ k, k ≠ pb → k ≠ mb → W.heap[k]? = w2.heap[k]? := by
    intro k h1 h2
    rw [hW]
    simp only [ChangeMaps.setBlock, World.setCell, Array.getElem?_setIfInBounds, Array.getElem?_modify]
    rw [if_neg (fun e => h2 e.symm), if_neg (fun e => h2 e.symm), if_neg (fun e => h1 e.symm)]
  have hsize : W.heap.size = w2.heap.size := by rw [hW]; simp [ChangeMaps.setBlock, World.setCell]
  have hblk : W.heap[pb]? = some (.cells #[.int .i64 bud, .int .i64 pars, .slice (some ⟨g, 0, none⟩) (L.length + 1) cap, .map (some mb)] 72 (0, 0)) := by
    rw [hW]
    simp only [ChangeMaps.setBlock, World.setCell, Array.getElem?_setIfInBounds, Array.getElem?_modify]
    rw [if_neg (fun e => hpm e.symm), if_neg (fun e => hpm e.symm), if_pos trivial, hP2, hM.blk]
    rfl
  have hmap : W.heap[mb]? = some (.map (esOf (L ++ [s])) (L ++ [s]).length) := by
    rw [hW]
    simp only [ChangeMaps.setBlock, World.setCell, Array.getElem?_setIfInBounds]
    rw [if_pos trivial, if_pos (by simp; omega)]
  have hkeep2 : Keeps X w2 := hown.keeps hgrow
  have hkeep3 : Keeps w2 W := by
    intro p x hp
    have h1 : p.block ≠ pb := by
      intro e
      unfold World.cell? at hp
      rw [e, hP2, hM.blk] at hp
      simp only at hp
      split at hp
      · cases hp
      · rename_i hsp
        match p.off, hp with
        | 0, hp => simp at hp
        | 1, hp => simp at hp
        | 2, hp =>
          obtain ⟨a, c, e⟩ := hM.row_form
          rw [e] at hp
          simp at hp
        | 3, hp => simp at hp
        | k + 4, hp => simp at hp
    have h2 : p.block ≠ mb := by
      intro e
      unfold World.cell? at hp
      rw [e, hM2, hM.map] at hp
      cases hp
    rw [World.cell?_of_block (hheap p.block h1 h2)]
    exact hp
  have hkeep : Keeps X W := hkeep2.trans hkeep3
  refine ⟨⟨hM.b1, hM.b2, hblk, hmap, ⟨cells ++ v.toList, ?_, ?_⟩, hg⟩, ⟨?_, ?_, ?_, ?_, ?_, ?_, hkeep⟩⟩
  · rw [show (L ++ [s]).length = L.length + 1 by simp]
    exact hown2.kept fun k hk => by
      simp only [Value.ownBlock, Option.some.injEq] at hk
      subst hk
      exact hheap g gp' gm'
  · intro i t hi
    by_cases hlt : i < L.length
    · rw [List.getElem?_append_left hlt] at hi
      refine ((hst i t hi).append ?_).keep hkeep
      have := hown.1.1
      omega
    · have hlen : i = L.length := by
        have := (List.getElem?_eq_some_iff.1 hi).1
        simp at this
        omega
      subst hlen
      rw [List.getElem?_append_right (Nat.le_refl _)] at hi
      simp at hi
      subst hi
      exact (StepCells.last hs (by have := hown.1.1; omega) hv).keep hkeep
  · rw [hW]; exact hgrow.os
  · rw [hW]; exact hgrow.tape
  · rw [hW]; exact hgrow.output
  · rw [hsize]; exact hsz
  · intro k hk h1 h2 h3
    rw [hheap k h1 h2]
    exact hgrow.block k hk (fun e => h3 e.symm)
  · rcases hlies with e | e
    · exact .inl e.symm
    · exact .inr ⟨g, rfl, by omega⟩

end Go.Proofs.YtbncdghbnnefdaaGreat

namespace Go.Proofs.YtbncdghbnnefdaaGreat
open Go.RowKit

set_option maxRecDepth 100000 in
set_option maxHeartbeats 8000000 in
theorem put_new (B pb mb bud pars gp : Nat) (row : Value) (L : List Step) (s : Step) (v : Value) (w : World) (hM : Mk w B pb mb row bud pars gp L) (hs : IsStep w v s) (hwf : Wf s) (hnew : ∀ t ∈ L, keyV t ≠ keyV s) (hn : Nice s) (hroom : L.length < bud) (hg : Good bud gp (L ++ [s])) :
    Calls Tryz.prog 30 #[.pointer (some ⟨pb, 0, none⟩), v] w fun e w' => ∃ row', e = .returned (.tuple #[.int .i64 L.length, .int .i64 0]) ∧ Mk w' B pb mb row' bud pars gp (L ++ [s]) ∧ Mv pb mb row row' w w' := by
  obtain ⟨a1, n1, c1, a2, n2, c2, rfl, h1, h2, hop, hn1, hn2⟩ := hs
  obtain ⟨i0, hi0, hz0, hz1, hz2⟩ := info_parts info_node
  have k3 := hM.c3
  have k2 := hM.c2
  have k0 := hM.c0
  obtain ⟨ra, rc, rfl⟩ := hM.row_form
  have hpb := World.block_lt_of_cell? w _ k3
  simp at hpb
  have hA : MapAt mb L w := hM.map
  have hlk := fun W (h : MapAt mb L W) => look_miss (s := s) (mb := mb) (n := L.length) hM.good.wf hwf hnew W h
  unfold keyV at hlk
  have hbud := hM.good.bud1
  have hlt : ¬ ((bud : Nat) : Int) ≤ ((L.length : Nat) : Int) := by omega
  obtain ⟨nb, hnb⟩ : ∃ nb, nb = w.heap.size := ⟨_, rfl⟩
  obtain ⟨kb, hkb⟩ : ∃ kb, kb = w.heap.size + 1 := ⟨_, rfl⟩
  by_cases h1' : s.op = 1
  · have hnc := normC_spec (hn.1 h1')
    obtain ⟨y1, y2, y3, y4, y5, y6⟩ := hnc
    have e1 : (((s.op : Nat) : Int) == 1) = true := by simp; omega
    obtain ⟨u, hu⟩ : ∃ u, u = txt (keyT s) := ⟨_, rfl⟩
    have hT := fun w' u1 u2 => ftext_any s.neg a1 a2 n1 c1 n2 c2 (val s.xs) (val s.ys) w' u1 u2 (h1.top hn1) (h2.top hn2) y1
    rw [y5, y6, y2] at hT
    have eT : fT s.neg (val s.xs) (val s.ys) = keyT s := by unfold fT keyT; rw [if_pos h1']
    rw [eT, ← hu] at hT
    rw [← hu] at hlk
    have Ek := Lib.hid hu.symm
    have HT := Lib.hid hT
    have Hlk := Lib.hid hlk
    have k1 : IsN w (.slice a1 n1 c1) (val s.xs) := IsN.of h1 (by omega)
    have kk2 : IsN w (.slice a2 n2 c2) (val s.ys) := IsN.of h2 (by omega)
    have Hnb := Lib.hid hnb
    have Hkb := Lib.hid hkb
    have Hnew := Lib.hid hnew
    clear hn h1' hlk hT eT hu y1 y2 y3 y4 y5 y6 hnb hkb hnew
    go_enter Tryz.func30, Tryz.ntmps30
    go_wp2_with fail
    refine (HT.out _ (k1.ext (by repeat (first | with_reducible exact Ext.refl _ | with_reducible assumption | (with_reducible refine Ext.alloc ?_ _) | (with_reducible refine Ext.drew ?_) | (with_reducible refine Ext.drewN ?_ _) | (with_reducible refine Ext.set ?_ (by first | (simp; done) | (simp; omega)) _) | (with_reducible refine Ext.trans ?_ (by with_reducible assumption))))) (kk2.ext (by repeat (first | with_reducible exact Ext.refl _ | with_reducible assumption | (with_reducible refine Ext.alloc ?_ _) | (with_reducible refine Ext.drew ?_) | (with_reducible refine Ext.drewN ?_ _) | (with_reducible refine Ext.set ?_ (by first | (simp; done) | (simp; omega)) _) | (with_reducible refine Ext.trans ?_ (by with_reducible assumption)))))).mono ?_
    rintro e w9 ⟨_, rfl, E9, rfl⟩
    obtain ⟨hc, hf⟩ := E9.look
    have hz := E9.size
    simp at hz
    have k3' := E9.cell ((Ext.of_alloc _ _).cell ((Ext.of_alloc _ _).cell k3))
    have k2' := E9.cell ((Ext.of_alloc _ _).cell ((Ext.of_alloc _ _).cell k2))
    have k0' := E9.cell ((Ext.of_alloc _ _).cell ((Ext.of_alloc _ _).cell k0))
    have hA1 : MapAt mb L w9 := E9.block (MapAt_alloc (MapAt_alloc hA _) _)
    have hl := Hlk.out (w9.setCell ⟨w.heap.size + 1, 3, none⟩ (.string u)).drew (MapAt_set hA1 _ _)
    go_wp2
    go_region
    go_wp2
    go_region
    go_wp2
    clear hl
    obtain ⟨W0, hW0⟩ : ∃ W0, W0 = (w9.setCell ⟨w.heap.size + 1, 3, none⟩ (.string u)).drew.drew := ⟨_, rfl⟩
    have E0 : Ext w W0 := by rw [hW0]; exact (by repeat (first | with_reducible exact Ext.refl _ | with_reducible assumption | (with_reducible refine Ext.alloc ?_ _) | (with_reducible refine Ext.drew ?_) | (with_reducible refine Ext.drewN ?_ _) | (with_reducible refine Ext.set ?_ (by first | (simp; done) | (simp; omega)) _) | (with_reducible refine Ext.trans ?_ (by with_reducible assumption))))
    have hz0' : kb < W0.heap.size := by rw [hW0, Hkb.out]; simp; omega
    have q0 : W0.cell? ⟨nb, 0, none⟩ = some (.int .u8 s.op) := by rw [hW0, Hnb.out]; simp [go_sem, hc]
    have q1 : W0.cell? ⟨nb, 1, none⟩ = some (.int .i64 s.a) := by rw [hW0, Hnb.out]; simp [go_sem, hc]
    have q2 : W0.cell? ⟨nb, 2, none⟩ = some (.int .i64 s.b) := by rw [hW0, Hnb.out]; simp [go_sem, hc]
    have q3 : W0.cell? ⟨nb, 3, none⟩ = some (.bool s.neg) := by rw [hW0, Hnb.out]; simp [go_sem, hc]
    have q4 : W0.cell? ⟨nb, 4, none⟩ = some (.slice a1 n1 c1) := by rw [hW0, Hnb.out]; simp [go_sem, hc]
    have q5 : W0.cell? ⟨nb, 5, none⟩ = some (.slice a2 n2 c2) := by rw [hW0, Hnb.out]; simp [go_sem, hc]
    have p0 : W0.cell? ⟨kb, 0, none⟩ = some (.int .u8 s.op) := by rw [hW0, Hkb.out]; simp [go_sem, hc]
    have p1 : W0.cell? ⟨kb, 1, none⟩ = some (.int .i64 s.a) := by rw [hW0, Hkb.out]; simp [go_sem, hc]
    have p2 : W0.cell? ⟨kb, 2, none⟩ = some (.int .i64 s.b) := by rw [hW0, Hkb.out]; simp [go_sem, hc]
    have p3 : W0.cell? ⟨kb, 3, none⟩ = some (.string u) := by rw [hW0, Hkb.out]; simp [go_sem, hc]
    rw [← hW0, ← Hkb.out, ← Hnb.out]
    have hnk : nb < kb := by rw [Hnb.out, Hkb.out]; omega
    have hpn : pb < nb := by rw [Hnb.out]; exact hpb
    have hwn : w.heap.size ≤ nb := by rw [Hnb.out]; exact Nat.le_refl _
    clear hW0 Hnb Hkb
    have hnew := Hnew.out
    clear hc hf hz k3' k2' k0' hA1 Hnew Hlk HT k1 kk2 E9
    have M0 := hM.kept E0
    have r2 := E0.cell k2
    have r3 := E0.cell k3
    clear k0 k2 k3 hA

    obtain ⟨cells, hown, hst⟩ := M0.steps
    have hme := entry_miss (s := s) (mb := mb) (L := L) hM.good.wf hwf hnew
    unfold keyV at hme
    rw [Ek.out] at hme
    have hes := entry_fill (s := s) (mb := mb) (L := L)
    unfold keyV at hes
    rw [Ek.out] at hes
    have Hme := Lib.hid hme
    have Hes := Lib.hid hes
    have HownD := Lib.hid (hown.alloc (.cells #[.int .u8 s.op, .int .i64 s.a, .int .i64 s.b, .bool s.neg, .slice a1 n1 c1, .slice a2 n2 c2] 78)).drew
    obtain ⟨rp, rm⟩ := M0.rp
    have hpm := M0.pm
    have hrow := hown.lt
    have hw0 : B ≤ W0.heap.size := by have := M0.b1; have := World.block_lt_of_cell? W0 _ M0.c3; simp at this; omega
    have hnr : (Value.slice ra L.length rc).ownBlock ≠ some nb := fun e => by have := (hM.steps.choose_spec.1.lt nb e).2; omega
    have hkr : (Value.slice ra L.length rc).ownBlock ≠ some kb := fun e => by have := (hM.steps.choose_spec.1.lt kb e).2; omega
    have Hrp := Lib.hid rp
    have Hnr := Lib.hid hnr
    have Hkr := Lib.hid hkr
    have Hpm := Lib.hid hpm
    have Hrow := Lib.hid hrow
    have Hst := Lib.hid hst
    have hX : IsStep ((W0.alloc (.cells #[.int .u8 s.op, .int .i64 s.a, .int .i64 s.b, .bool s.neg, .slice a1 n1 c1, .slice a2 n2 c2] 78)).drew) (.agg #[.int .u8 s.op, .int .i64 s.a, .int .i64 s.b, .bool s.neg, .slice a1 n1 c1, .slice a2 n2 c2]) s :=
      ⟨a1, n1, c1, a2, n2, c2, rfl, h1.ext (by repeat (first | with_reducible exact Ext.refl _ | with_reducible assumption | (with_reducible refine Ext.alloc ?_ _) | (with_reducible refine Ext.drew ?_) | (with_reducible refine Ext.drewN ?_ _) | (with_reducible refine Ext.set ?_ (by first | (simp; done) | (simp; omega)) _) | (with_reducible refine Ext.trans ?_ (by with_reducible assumption)))), h2.ext (by repeat (first | with_reducible exact Ext.refl _ | with_reducible assumption | (with_reducible refine Ext.alloc ?_ _) | (with_reducible refine Ext.drew ?_) | (with_reducible refine Ext.drewN ?_ _) | (with_reducible refine Ext.set ?_ (by first | (simp; done) | (simp; omega)) _) | (with_reducible refine Ext.trans ?_ (by with_reducible assumption)))), hop, hn1, hn2⟩
    have HX := Lib.hid hX
    clear hme hes rp hnr hkr hpm hrow hst hX h1 h2 hnew hown

    refine wp_region_T (fun w' => w'.cell? ⟨pb, 2, none⟩ = some (.slice ra L.length rc)) (fun w' => w'.cell? ⟨pb, 3, none⟩ = some (.map (some mb)) ∧ w'.cell? ⟨nb, 0, none⟩ = some (.int .u8 s.op) ∧ w'.cell? ⟨nb, 1, none⟩ = some (.int .i64 s.a) ∧ w'.cell? ⟨nb, 2, none⟩ = some (.int .i64 s.b) ∧ w'.cell? ⟨nb, 3, none⟩ = some (.bool s.neg) ∧ w'.cell? ⟨nb, 4, none⟩ = some (.slice a1 n1 c1) ∧ w'.cell? ⟨nb, 5, none⟩ = some (.slice a2 n2 c2) ∧ w'.cell? ⟨kb, 0, none⟩ = some (.int .u8 s.op) ∧ w'.cell? ⟨kb, 1, none⟩ = some (.int .i64 s.a) ∧ w'.cell? ⟨kb, 2, none⟩ = some (.int .i64 s.b) ∧ w'.cell? ⟨kb, 3, none⟩ = some (.string u)) 16 20 (by rfl) (by kernel_rfl) ?_
    have hS0 : W0.drew.cell? ⟨pb, 2, none⟩ = some (.slice ra L.length rc) := r2
    have hT0 : (fun w' : World => w'.cell? ⟨pb, 3, none⟩ = some (.map (some mb)) ∧ w'.cell? ⟨nb, 0, none⟩ = some (.int .u8 s.op) ∧ w'.cell? ⟨nb, 1, none⟩ = some (.int .i64 s.a) ∧ w'.cell? ⟨nb, 2, none⟩ = some (.int .i64 s.b) ∧ w'.cell? ⟨nb, 3, none⟩ = some (.bool s.neg) ∧ w'.cell? ⟨nb, 4, none⟩ = some (.slice a1 n1 c1) ∧ w'.cell? ⟨nb, 5, none⟩ = some (.slice a2 n2 c2) ∧ w'.cell? ⟨kb, 0, none⟩ = some (.int .u8 s.op) ∧ w'.cell? ⟨kb, 1, none⟩ = some (.int .i64 s.a) ∧ w'.cell? ⟨kb, 2, none⟩ = some (.int .i64 s.b) ∧ w'.cell? ⟨kb, 3, none⟩ = some (.string u)) W0.drew := ⟨r3, q0, q1, q2, q3, q4, q5, p0, p1, p2, p3⟩
    refine wpAnyT_take' (i := 0) (some 50) (v := ?_) rfl rfl (by kernel_rfl) (by kernel_rfl) (by kernel_rfl) (by decide) (fun _ _ _ h => h) (Or.inl ⟨by rfl, ?_⟩) (fun _ => by assumption) (by assumption) ?_
    rotate_left
    · (intro w hSw; (try dsimp only at hSw); go_simp); try with_reducible rfl
    try simp only [Act.put, List.setIfInBounds_toArray, List.set_cons_zero, List.set_cons_succ]
    refine wpAnyT_take' (i := 1) (some 51) (v := ?_) rfl rfl (by kernel_rfl) (by kernel_rfl) (by kernel_rfl) (by decide) (fun _ _ _ h => h) (Or.inl ⟨by rfl, ?_⟩) (fun _ => by assumption) (by assumption) ?_
    rotate_left
    · (intro w hSw; (try dsimp only at hSw); go_simp); try with_reducible rfl
    try simp only [Act.put, List.setIfInBounds_toArray, List.set_cons_zero, List.set_cons_succ]
    refine wpAnyT_take' (i := 2) (some 52) (v := ?_) rfl rfl (by kernel_rfl) (by kernel_rfl) (by kernel_rfl) (by decide) (fun _ _ _ h => h) (Or.inl ⟨by rfl, ?_⟩) (fun _ => by assumption) (by assumption) ?_
    rotate_left
    · (intro w hSw; (try dsimp only at hSw); go_simp); try with_reducible rfl
    try simp only [Act.put, List.setIfInBounds_toArray, List.set_cons_zero, List.set_cons_succ]
    refine wpAnyT_take' (i := 3) (some 53) (v := ?_) rfl rfl (by kernel_rfl) (by kernel_rfl) (by kernel_rfl) (by decide) (fun _ _ _ h => h) (Or.inl ⟨by rfl, ?_⟩) (fun _ => by assumption) (by assumption) ?_
    rotate_left
    · (intro w hSw; (try dsimp only at hSw); go_simp); try with_reducible rfl
    try simp only [Act.put, List.setIfInBounds_toArray, List.set_cons_zero, List.set_cons_succ]
    refine wpAnyT_take' (i := 4) (some 54) (v := ?_) rfl rfl (by kernel_rfl) (by kernel_rfl) (by kernel_rfl) (by decide) (fun _ _ _ h => h) (Or.inl ⟨by rfl, ?_⟩) (fun _ => by assumption) (by assumption) ?_
    rotate_left
    · (intro w hSw; (try dsimp only at hSw); go_simp); try with_reducible rfl
    try simp only [Act.put, List.setIfInBounds_toArray, List.set_cons_zero, List.set_cons_succ]
    refine wpAnyT_take' (i := 5) (some 55) (v := ?_) rfl rfl (by kernel_rfl) (by kernel_rfl) (by kernel_rfl) (by decide) (fun _ _ _ h => h) (Or.inl ⟨by rfl, ?_⟩) (fun _ => by assumption) (by assumption) ?_
    rotate_left
    · (intro w hSw; (try dsimp only at hSw); go_simp); try with_reducible rfl
    try simp only [Act.put, List.setIfInBounds_toArray, List.set_cons_zero, List.set_cons_succ]
    refine wpAnyT_take' (i := 6) (some 56) (v := ?_) rfl rfl (by kernel_rfl) (by kernel_rfl) (by kernel_rfl) (by decide) (fun _ _ _ h => h) (Or.inl ⟨by rfl, ?_⟩) (fun _ => by assumption) (by assumption) ?_
    rotate_left
    · (intro w hSw; (try dsimp only at hSw); go_simp); try with_reducible rfl
    try simp only [Act.put, List.setIfInBounds_toArray, List.set_cons_zero, List.set_cons_succ]
    refine wpAnyT_take' (i := 7) (some 57) (v := ?_) rfl rfl (by kernel_rfl) (by kernel_rfl) (by kernel_rfl) (by decide) (fun _ _ _ h => h) (Or.inl ⟨by rfl, ?_⟩) (fun _ => by assumption) (by assumption) ?_
    rotate_left
    · (intro w hSw; (try dsimp only at hSw); go_simp); try with_reducible rfl
    try simp only [Act.put, List.setIfInBounds_toArray, List.set_cons_zero, List.set_cons_succ]
    refine wpAnyT_take' (i := 8) (some 58) (v := ?_) rfl rfl (by kernel_rfl) (by kernel_rfl) (by kernel_rfl) (by decide) (fun _ _ _ h => h) (Or.inl ⟨by rfl, ?_⟩) (fun _ => by assumption) (by assumption) ?_
    rotate_left
    · (intro w hSw; (try dsimp only at hSw); go_simp); try with_reducible rfl
    try simp only [Act.put, List.setIfInBounds_toArray, List.set_cons_zero, List.set_cons_succ]
    refine wpAnyT_take (i := 9) (some 59) (v := ?_) rfl rfl (by kernel_rfl) (by kernel_rfl) (by kernel_rfl) (by kernel_rfl) (by kernel_rfl) (fun _ _ _ h => h) (Or.inl ⟨by rfl, ?_⟩) (by assumption) (by assumption) ?_
    rotate_left
    · (intro w hSw; (try dsimp only at hSw); go_simp); try with_reducible rfl
    try simp only [Act.put, List.setIfInBounds_toArray, List.set_cons_zero, List.set_cons_succ]
    refine wpAnyT_take' (i := 10) (some 60) (v := ?_) rfl rfl (by kernel_rfl) (by kernel_rfl) (by kernel_rfl) (by decide) (fun _ _ _ h => h) (Or.inl ⟨by rfl, ?_⟩) (fun _ => by assumption) (by assumption) ?_
    rotate_left
    · (intro w hSw; (try dsimp only at hSw); go_simp); try with_reducible rfl
    try simp only [Act.put, List.setIfInBounds_toArray, List.set_cons_zero, List.set_cons_succ]
    refine wpAnyT_take' (i := 13) (some 63) (v := ?_) rfl rfl (by kernel_rfl) (by kernel_rfl) (by kernel_rfl) (by decide) (fun _ _ _ h => h) (Or.inl ⟨by rfl, ?_⟩) (fun _ => by assumption) (by assumption) ?_
    rotate_left
    · (intro w hSw; (try dsimp only at hSw); go_simp); try with_reducible rfl
    try simp only [Act.put, List.setIfInBounds_toArray, List.set_cons_zero, List.set_cons_succ]
    have EX : Ext W0 (W0.alloc (.cells #[.int .u8 s.op, .int .i64 s.a, .int .i64 s.b, .bool s.neg, .slice a1 n1 c1, .slice a2 n2 c2] 78)).drew := (Ext.of_alloc W0 _).drew
    refine wpAnyT_one (i := 11) (by kernel_rfl) rfl (fun K hK => ?_)
    go_simp
    refine hK _ _ (fun _ => EX.cell r2) ⟨EX.cell r3, EX.cell q0, EX.cell q1, EX.cell q2, EX.cell q3, EX.cell q4, EX.cell q5, EX.cell p0, EX.cell p1, EX.cell p2, EX.cell p3⟩ ?_
    clear hK K
    try simp only [Act.put, List.setIfInBounds_toArray, List.set_cons_zero, List.set_cons_succ]
    refine wpAnyT_one (i := 12) (by kernel_rfl) rfl (fun K hK => ?_)
    refine step_append_u _ (by rfl) _ _ _ (by rfl) B 78 i0 _ 6 80 Tryz.underlying50 hi0 hz0 hz1 hz2 rfl (by omega) (by simp [Value.cells, isU]) (.slice ra L.length rc) L.length cells (by rfl) HownD.out ⟨W0.heap.size, 0, none⟩ 1 1 [.int .u8 s.op, .int .i64 s.a, .int .i64 s.b, .bool s.neg, .slice a1 n1 c1, .slice a2 n2 c2] (by rfl) (by rfl) (World.news_of_block (cs := #[.int .u8 s.op, .int .i64 s.a, .int .i64 s.b, .bool s.neg, .slice a1 n1 c1, .slice a2 n2 c2]) (t := 78) (fr := (0, 0)) (heap_alloc_new W0 _)) (by simp [Value.oneCell']) (by simp [isU]) (by omega) (by unfold maxLen; omega) (by omega) (by simp; omega) (W0.heap.size + 1) (by simp) ?_
    intro g cap w1 hown1 hgrow hat
    have kp : ∀ (p : Addr) (u : Value), W0.cell? p = some u → some p.block ≠ (Value.slice ra L.length rc).ownBlock → w1.cell? p = some u := fun p u h1 h2 => hgrow.cell (EX.cell h1) h2
    have r3' := kp _ _ r3 (fun e => Hrp.out e.symm)
    have q0' := kp _ _ q0 (fun e => Hnr.out e.symm)
    have q1' := kp _ _ q1 (fun e => Hnr.out e.symm)
    have q2' := kp _ _ q2 (fun e => Hnr.out e.symm)
    have q3' := kp _ _ q3 (fun e => Hnr.out e.symm)
    have q4' := kp _ _ q4 (fun e => Hnr.out e.symm)
    have q5' := kp _ _ q5 (fun e => Hnr.out e.symm)
    have p0' := kp _ _ p0 (fun e => Hkr.out e.symm)
    have p1' := kp _ _ p1 (fun e => Hkr.out e.symm)
    have p2' := kp _ _ p2 (fun e => Hkr.out e.symm)
    have p3' := kp _ _ p3 (fun e => Hkr.out e.symm)
    have hfz : w1.frozen? ⟨pb, 2, none⟩ = false := by rw [hgrow.frozen_far _ (Nat.lt_of_lt_of_le (World.block_lt_of_cell? W0 _ r2) EX.size) (fun e => Hrp.out e.symm)]; exact (EX.frozen r2).trans (M0.fr 2)
    have r2' := kp _ _ r2 (fun e => Hrp.out e.symm)
    refine hK _ _ (fun _ => r2') ⟨r3', q0', q1', q2', q3', q4', q5', p0', p1', p2', p3'⟩ ?_
    clear hK K kp
    have hS1 : w1.cell? ⟨pb, 2, none⟩ = some (.slice ra L.length rc) := r2'
    have hT1 : w1.cell? ⟨pb, 3, none⟩ = some (.map (some mb)) ∧ w1.cell? ⟨nb, 0, none⟩ = some (.int .u8 s.op) ∧ w1.cell? ⟨nb, 1, none⟩ = some (.int .i64 s.a) ∧ w1.cell? ⟨nb, 2, none⟩ = some (.int .i64 s.b) ∧ w1.cell? ⟨nb, 3, none⟩ = some (.bool s.neg) ∧ w1.cell? ⟨nb, 4, none⟩ = some (.slice a1 n1 c1) ∧ w1.cell? ⟨nb, 5, none⟩ = some (.slice a2 n2 c2) ∧ w1.cell? ⟨kb, 0, none⟩ = some (.int .u8 s.op) ∧ w1.cell? ⟨kb, 1, none⟩ = some (.int .i64 s.a) ∧ w1.cell? ⟨kb, 2, none⟩ = some (.int .i64 s.b) ∧ w1.cell? ⟨kb, 3, none⟩ = some (.string u) := ⟨r3', q0', q1', q2', q3', q4', q5', p0', p1', p2', p3'⟩
    try simp only [Act.put, List.setIfInBounds_toArray, List.set_cons_zero, List.set_cons_succ]
    refine wpAnyT_take' (i := 14) (some 64) (v := ?_) rfl rfl (by kernel_rfl) (by kernel_rfl) (by kernel_rfl) (by decide) (fun _ _ _ h => h) (Or.inl ⟨by rfl, ?_⟩) (fun _ => hS1) hT1 ?_
    rotate_left
    · (intro w hSw; (try dsimp only at hSw); go_simp); try with_reducible rfl
    try simp only [Act.put, List.setIfInBounds_toArray, List.set_cons_zero, List.set_cons_succ]
    refine wpAnyT_take' (i := 15) (some 65) (v := ?_) rfl rfl (by kernel_rfl) (by kernel_rfl) (by kernel_rfl) (by decide) (fun _ _ _ h => h) (Or.inl ⟨by rfl, ?_⟩) (fun _ => hS1) hT1 ?_
    rotate_left
    · (intro w hSw; (try dsimp only at hSw); go_simp); try with_reducible rfl
    try simp only [Act.put, List.setIfInBounds_toArray, List.set_cons_zero, List.set_cons_succ]
    have kq : ∀ (p : Addr) (u x : Value), w1.cell? p = some u → p ≠ ⟨pb, 2, none⟩ → (w1.setCell ⟨pb, 2, none⟩ x).cell? p = some u := fun p u x h1 h2 => by rw [World.cell?_setCell_other _ _ _ _ (Ne.symm h2)]; exact h1
    have hmX : mb < (W0.alloc (.cells #[.int .u8 s.op, .int .i64 s.a, .int .i64 s.b, .bool s.neg, .slice a1 n1 c1, .slice a2 n2 c2] 78)).drew.heap.size := Nat.lt_of_lt_of_le (Array.getElem?_eq_some_iff.1 M0.map).1 EX.size
    have hmw : (w1.setCell ⟨pb, 2, none⟩ (.slice (some ⟨g, 0, none⟩) (L.length + 1) cap)).heap[mb]? = some (.map (esOf L) L.length) := MapAt_set (L := L) (mb := mb) (by unfold MapAt; rw [hgrow.block mb hmX (fun e => rm e.symm)]; exact EX.block M0.map) _ _
    have hme1 := Hme.out _ hmw
    have hes1 := Hes.out (ChangeMaps.setBlock (w1.setCell ⟨pb, 2, none⟩ (.slice (some ⟨g, 0, none⟩) (L.length + 1) cap)) mb (.map ((esOf L).push ⟨.agg #[.int .u8 s.op, .int .i64 s.a, .int .i64 s.b, .string u], .int .i64 0, L.length⟩) (L.length + 1))) (by simp only [ChangeMaps.setBlock, Array.getElem?_setIfInBounds]; rw [if_pos trivial, if_pos (Array.getElem?_eq_some_iff.1 hmw).1])
    have hnm : nb ≠ mb := by have := (Array.getElem?_eq_some_iff.1 hM.map).1; omega
    have hkm : kb ≠ mb := by have := (Array.getElem?_eq_some_iff.1 hM.map).1; omega
    have Hnm := Lib.hid hnm
    have Hkm := Lib.hid hkm
    clear hnm hkm hmw hmX
    have n1' : pb ≠ nb := by omega
    have n2' : pb ≠ kb := by omega
    have s3 := fun x => kq _ _ x r3' (by simp)
    have t0 := fun x => kq _ _ x q0' (by first | (simp; done) | (simp; omega))
    have t1 := fun x => kq _ _ x q1' (by first | (simp; done) | (simp; omega))
    have t2 := fun x => kq _ _ x q2' (by first | (simp; done) | (simp; omega))
    have t3 := fun x => kq _ _ x q3' (by first | (simp; done) | (simp; omega))
    have t4 := fun x => kq _ _ x q4' (by first | (simp; done) | (simp; omega))
    have t5 := fun x => kq _ _ x q5' (by first | (simp; done) | (simp; omega))
    have u0 := fun x => kq _ _ x p0' (by first | (simp; done) | (simp; omega))
    have u1 := fun x => kq _ _ x p1' (by first | (simp; done) | (simp; omega))
    have u2 := fun x => kq _ _ x p2' (by first | (simp; done) | (simp; omega))
    have u3 := fun x => kq _ _ x p3' (by first | (simp; done) | (simp; omega))
    refine wpAnyT_one (i := 16) (by kernel_rfl) rfl (fun K hK => ?_)
    go_simp
    refine hK _ _ (fun h => absurd h (by decide)) ⟨s3 _, t0 _, t1 _, t2 _, t3 _, t4 _, t5 _, u0 _, u1 _, u2 _, u3 _⟩ ?_
    clear hK K
    try simp only [Act.put, List.setIfInBounds_toArray, List.set_cons_zero, List.set_cons_succ]
    refine wpAnyT_one (i := 17) (by kernel_rfl) rfl (fun K hK => ?_)
    go_simp
    have kz : ∀ (p : Addr) (u : Value) (W : World) (o : Obj), W.cell? p = some u → p.block ≠ mb → (ChangeMaps.setBlock W mb o).cell? p = some u := fun p u W o h1 h2 => by rw [cell_setBlock h2]; exact h1
    have hT2 : ∀ W : World, W = ChangeMaps.setBlock (w1.setCell ⟨pb, 2, none⟩ (.slice (some ⟨g, 0, none⟩) (L.length + 1) cap)) mb (.map ((esOf L).push ⟨.agg #[.int .u8 s.op, .int .i64 s.a, .int .i64 s.b, .string u], .int .i64 0, L.length⟩) (L.length + 1)) → W.cell? ⟨pb, 3, none⟩ = some (.map (some mb)) ∧ W.cell? ⟨nb, 0, none⟩ = some (.int .u8 s.op) ∧ W.cell? ⟨nb, 1, none⟩ = some (.int .i64 s.a) ∧ W.cell? ⟨nb, 2, none⟩ = some (.int .i64 s.b) ∧ W.cell? ⟨nb, 3, none⟩ = some (.bool s.neg) ∧ W.cell? ⟨nb, 4, none⟩ = some (.slice a1 n1 c1) ∧ W.cell? ⟨nb, 5, none⟩ = some (.slice a2 n2 c2) ∧ W.cell? ⟨kb, 0, none⟩ = some (.int .u8 s.op) ∧ W.cell? ⟨kb, 1, none⟩ = some (.int .i64 s.a) ∧ W.cell? ⟨kb, 2, none⟩ = some (.int .i64 s.b) ∧ W.cell? ⟨kb, 3, none⟩ = some (.string u) := by
      rintro W rfl
      exact ⟨kz _ _ _ _ (s3 _) Hpm.out, kz _ _ _ _ (t0 _) Hnm.out, kz _ _ _ _ (t1 _) Hnm.out, kz _ _ _ _ (t2 _) Hnm.out, kz _ _ _ _ (t3 _) Hnm.out, kz _ _ _ _ (t4 _) Hnm.out, kz _ _ _ _ (t5 _) Hnm.out, kz _ _ _ _ (u0 _) Hkm.out, kz _ _ _ _ (u1 _) Hkm.out, kz _ _ _ _ (u2 _) Hkm.out, kz _ _ _ _ (u3 _) Hkm.out⟩
    have hT2' := hT2 _ rfl
    refine hK _ _ (fun h => absurd h (by decide)) hT2' ?_
    clear hK K s3 t0 t1 t2 t3 t4 t5 u0 u1 u2 u3 hT2 hT1 hT0
    try simp only [Act.put, List.setIfInBounds_toArray, List.set_cons_zero, List.set_cons_succ]
    refine wpAnyT_take' (i := 18) (some 67) (v := ?_) rfl rfl (by kernel_rfl) (by kernel_rfl) (by kernel_rfl) (by decide) (fun _ _ _ h => h) (Or.inl ⟨by rfl, ?_⟩) (fun h => absurd h (by decide)) hT2' ?_
    rotate_left
    · (intro w hSw; (try dsimp only at hSw); go_simp); try with_reducible rfl
    try simp only [Act.put, List.setIfInBounds_toArray, List.set_cons_zero, List.set_cons_succ]
    refine wpAnyT_one (i := 19) (by kernel_rfl) rfl (fun K hK => ?_)
    go_simp
    refine hK _ _ (fun h => absurd h (by decide)) ?_ ?_
    · obtain ⟨z0, z1, z2, z3, z4, z5, z6, z7, z8, z9, z10⟩ := hT2'
      exact ⟨kz _ _ _ _ z0 Hpm.out, kz _ _ _ _ z1 Hnm.out, kz _ _ _ _ z2 Hnm.out, kz _ _ _ _ z3 Hnm.out, kz _ _ _ _ z4 Hnm.out, kz _ _ _ _ z5 Hnm.out, kz _ _ _ _ z6 Hnm.out, kz _ _ _ _ z7 Hkm.out, kz _ _ _ _ z8 Hkm.out, kz _ _ _ _ z9 Hkm.out, kz _ _ _ _ z10 Hkm.out⟩
    clear hK K hT2'
    refine wpAnyT_done (by kernel_rfl) ?_ _
    try simp only [Act.put, List.setIfInBounds_toArray, List.set_cons_zero, List.set_cons_succ]
    clear hme1 hes1 kz kq
    go_wp2
    go_ret2
    have hdone := put_done (o1 := .map ((esOf L).push ⟨.agg #[.int .u8 s.op, .int .i64 s.a, .int .i64 s.b, .string u], .int .i64 0, L.length⟩) (L.length + 1)) (M0.kept EX) (fun i t h => (Hst.out i t h).keep EX.keeps) HownD.out hown1 hgrow (by simpa using hat) HX.out (by rfl) hg
    have el : (L ++ [s]).length = L.length + 1 := by simp
    rw [el] at hdone
    exact ⟨_, rfl, hdone.1, (Mv.of_ext (E0.trans EX)).trans hdone.2⟩
  · have e1 : (((s.op : Nat) : Int) == 1) = false := by simp; omega
    have ek : txt (keyT s) = ⟨#[]⟩ := by unfold keyT; rw [if_neg h1']; rfl
    rw [ek] at hlk
    have Ek := Lib.hid ek
    have hl := hlk ((w.alloc (.cells #[.int .u8 s.op, .int .i64 s.a, .int .i64 s.b, .bool s.neg, .slice a1 n1 c1, .slice a2 n2 c2] 78)).alloc (.cells #[.int .u8 s.op, .int .i64 s.a, .int .i64 s.b, .string ⟨#[]⟩] 98)).drew (MapAt_alloc (MapAt_alloc hA _) _)
    have Hnb := Lib.hid hnb
    have Hkb := Lib.hid hkb
    clear hn ek h1' hlk hnb hkb
    go_enter Tryz.func30, Tryz.ntmps30
    go_wp2
    go_region
    go_wp2
    go_region
    go_wp2
    clear hl
    obtain ⟨W0, hW0⟩ : ∃ W0, W0 = ((w.alloc (.cells #[.int .u8 s.op, .int .i64 s.a, .int .i64 s.b, .bool s.neg, .slice a1 n1 c1, .slice a2 n2 c2] 78)).alloc (.cells #[.int .u8 s.op, .int .i64 s.a, .int .i64 s.b, .string ⟨#[]⟩] 98)).drew.drew := ⟨_, rfl⟩
    have E0 : Ext w W0 := by rw [hW0]; exact (by repeat (first | with_reducible exact Ext.refl _ | with_reducible assumption | (with_reducible refine Ext.alloc ?_ _) | (with_reducible refine Ext.drew ?_) | (with_reducible refine Ext.drewN ?_ _) | (with_reducible refine Ext.set ?_ (by first | (simp; done) | (simp; omega)) _) | (with_reducible refine Ext.trans ?_ (by with_reducible assumption))))
    have hz0' : kb < W0.heap.size := by rw [hW0, Hkb.out]; simp
    have q0 : W0.cell? ⟨nb, 0, none⟩ = some (.int .u8 s.op) := by rw [hW0, Hnb.out]; simp [go_sem]
    have q1 : W0.cell? ⟨nb, 1, none⟩ = some (.int .i64 s.a) := by rw [hW0, Hnb.out]; simp [go_sem]
    have q2 : W0.cell? ⟨nb, 2, none⟩ = some (.int .i64 s.b) := by rw [hW0, Hnb.out]; simp [go_sem]
    have q3 : W0.cell? ⟨nb, 3, none⟩ = some (.bool s.neg) := by rw [hW0, Hnb.out]; simp [go_sem]
    have q4 : W0.cell? ⟨nb, 4, none⟩ = some (.slice a1 n1 c1) := by rw [hW0, Hnb.out]; simp [go_sem]
    have q5 : W0.cell? ⟨nb, 5, none⟩ = some (.slice a2 n2 c2) := by rw [hW0, Hnb.out]; simp [go_sem]
    have p0 : W0.cell? ⟨kb, 0, none⟩ = some (.int .u8 s.op) := by rw [hW0, Hkb.out]; simp [go_sem]
    have p1 : W0.cell? ⟨kb, 1, none⟩ = some (.int .i64 s.a) := by rw [hW0, Hkb.out]; simp [go_sem]
    have p2 : W0.cell? ⟨kb, 2, none⟩ = some (.int .i64 s.b) := by rw [hW0, Hkb.out]; simp [go_sem]
    have p3 : W0.cell? ⟨kb, 3, none⟩ = some (.string ⟨#[]⟩) := by rw [hW0, Hkb.out]; simp [go_sem]
    rw [← hW0, ← Hkb.out, ← Hnb.out]
    have hnk : nb < kb := by rw [Hnb.out, Hkb.out]; omega
    have hpn : pb < nb := by rw [Hnb.out]; exact hpb
    have hwn : w.heap.size ≤ nb := by rw [Hnb.out]; exact Nat.le_refl _
    clear hW0 Hnb Hkb
    have M0 := hM.kept E0
    have r2 := E0.cell k2
    have r3 := E0.cell k3
    clear k0 k2 k3 hA

    obtain ⟨cells, hown, hst⟩ := M0.steps
    have hme := entry_miss (s := s) (mb := mb) (L := L) hM.good.wf hwf hnew
    unfold keyV at hme
    rw [Ek.out] at hme
    have hes := entry_fill (s := s) (mb := mb) (L := L)
    unfold keyV at hes
    rw [Ek.out] at hes
    have Hme := Lib.hid hme
    have Hes := Lib.hid hes
    have HownD := Lib.hid (hown.alloc (.cells #[.int .u8 s.op, .int .i64 s.a, .int .i64 s.b, .bool s.neg, .slice a1 n1 c1, .slice a2 n2 c2] 78)).drew
    obtain ⟨rp, rm⟩ := M0.rp
    have hpm := M0.pm
    have hrow := hown.lt
    have hw0 : B ≤ W0.heap.size := by have := M0.b1; have := World.block_lt_of_cell? W0 _ M0.c3; simp at this; omega
    have hnr : (Value.slice ra L.length rc).ownBlock ≠ some nb := fun e => by have := (hM.steps.choose_spec.1.lt nb e).2; omega
    have hkr : (Value.slice ra L.length rc).ownBlock ≠ some kb := fun e => by have := (hM.steps.choose_spec.1.lt kb e).2; omega
    have Hrp := Lib.hid rp
    have Hnr := Lib.hid hnr
    have Hkr := Lib.hid hkr
    have Hpm := Lib.hid hpm
    have Hrow := Lib.hid hrow
    have Hst := Lib.hid hst
    have hX : IsStep ((W0.alloc (.cells #[.int .u8 s.op, .int .i64 s.a, .int .i64 s.b, .bool s.neg, .slice a1 n1 c1, .slice a2 n2 c2] 78)).drew) (.agg #[.int .u8 s.op, .int .i64 s.a, .int .i64 s.b, .bool s.neg, .slice a1 n1 c1, .slice a2 n2 c2]) s :=
      ⟨a1, n1, c1, a2, n2, c2, rfl, h1.ext (by repeat (first | with_reducible exact Ext.refl _ | with_reducible assumption | (with_reducible refine Ext.alloc ?_ _) | (with_reducible refine Ext.drew ?_) | (with_reducible refine Ext.drewN ?_ _) | (with_reducible refine Ext.set ?_ (by first | (simp; done) | (simp; omega)) _) | (with_reducible refine Ext.trans ?_ (by with_reducible assumption)))), h2.ext (by repeat (first | with_reducible exact Ext.refl _ | with_reducible assumption | (with_reducible refine Ext.alloc ?_ _) | (with_reducible refine Ext.drew ?_) | (with_reducible refine Ext.drewN ?_ _) | (with_reducible refine Ext.set ?_ (by first | (simp; done) | (simp; omega)) _) | (with_reducible refine Ext.trans ?_ (by with_reducible assumption)))), hop, hn1, hn2⟩
    have HX := Lib.hid hX
    clear hme hes rp hnr hkr hpm hrow hst hX h1 h2 hnew hown

    refine wp_region_T (fun w' => w'.cell? ⟨pb, 2, none⟩ = some (.slice ra L.length rc)) (fun w' => w'.cell? ⟨pb, 3, none⟩ = some (.map (some mb)) ∧ w'.cell? ⟨nb, 0, none⟩ = some (.int .u8 s.op) ∧ w'.cell? ⟨nb, 1, none⟩ = some (.int .i64 s.a) ∧ w'.cell? ⟨nb, 2, none⟩ = some (.int .i64 s.b) ∧ w'.cell? ⟨nb, 3, none⟩ = some (.bool s.neg) ∧ w'.cell? ⟨nb, 4, none⟩ = some (.slice a1 n1 c1) ∧ w'.cell? ⟨nb, 5, none⟩ = some (.slice a2 n2 c2) ∧ w'.cell? ⟨kb, 0, none⟩ = some (.int .u8 s.op) ∧ w'.cell? ⟨kb, 1, none⟩ = some (.int .i64 s.a) ∧ w'.cell? ⟨kb, 2, none⟩ = some (.int .i64 s.b) ∧ w'.cell? ⟨kb, 3, none⟩ = some (.string ⟨#[]⟩)) 16 20 (by rfl) (by kernel_rfl) ?_
    have hS0 : W0.drew.cell? ⟨pb, 2, none⟩ = some (.slice ra L.length rc) := r2
    have hT0 : (fun w' : World => w'.cell? ⟨pb, 3, none⟩ = some (.map (some mb)) ∧ w'.cell? ⟨nb, 0, none⟩ = some (.int .u8 s.op) ∧ w'.cell? ⟨nb, 1, none⟩ = some (.int .i64 s.a) ∧ w'.cell? ⟨nb, 2, none⟩ = some (.int .i64 s.b) ∧ w'.cell? ⟨nb, 3, none⟩ = some (.bool s.neg) ∧ w'.cell? ⟨nb, 4, none⟩ = some (.slice a1 n1 c1) ∧ w'.cell? ⟨nb, 5, none⟩ = some (.slice a2 n2 c2) ∧ w'.cell? ⟨kb, 0, none⟩ = some (.int .u8 s.op) ∧ w'.cell? ⟨kb, 1, none⟩ = some (.int .i64 s.a) ∧ w'.cell? ⟨kb, 2, none⟩ = some (.int .i64 s.b) ∧ w'.cell? ⟨kb, 3, none⟩ = some (.string ⟨#[]⟩)) W0.drew := ⟨r3, q0, q1, q2, q3, q4, q5, p0, p1, p2, p3⟩
    refine wpAnyT_take' (i := 0) (some 50) (v := ?_) rfl rfl (by kernel_rfl) (by kernel_rfl) (by kernel_rfl) (by decide) (fun _ _ _ h => h) (Or.inl ⟨by rfl, ?_⟩) (fun _ => by assumption) (by assumption) ?_
    rotate_left
    · (intro w hSw; (try dsimp only at hSw); go_simp); try with_reducible rfl
    try simp only [Act.put, List.setIfInBounds_toArray, List.set_cons_zero, List.set_cons_succ]
    refine wpAnyT_take' (i := 1) (some 51) (v := ?_) rfl rfl (by kernel_rfl) (by kernel_rfl) (by kernel_rfl) (by decide) (fun _ _ _ h => h) (Or.inl ⟨by rfl, ?_⟩) (fun _ => by assumption) (by assumption) ?_
    rotate_left
    · (intro w hSw; (try dsimp only at hSw); go_simp); try with_reducible rfl
    try simp only [Act.put, List.setIfInBounds_toArray, List.set_cons_zero, List.set_cons_succ]
    refine wpAnyT_take' (i := 2) (some 52) (v := ?_) rfl rfl (by kernel_rfl) (by kernel_rfl) (by kernel_rfl) (by decide) (fun _ _ _ h => h) (Or.inl ⟨by rfl, ?_⟩) (fun _ => by assumption) (by assumption) ?_
    rotate_left
    · (intro w hSw; (try dsimp only at hSw); go_simp); try with_reducible rfl
    try simp only [Act.put, List.setIfInBounds_toArray, List.set_cons_zero, List.set_cons_succ]
    refine wpAnyT_take' (i := 3) (some 53) (v := ?_) rfl rfl (by kernel_rfl) (by kernel_rfl) (by kernel_rfl) (by decide) (fun _ _ _ h => h) (Or.inl ⟨by rfl, ?_⟩) (fun _ => by assumption) (by assumption) ?_
    rotate_left
    · (intro w hSw; (try dsimp only at hSw); go_simp); try with_reducible rfl
    try simp only [Act.put, List.setIfInBounds_toArray, List.set_cons_zero, List.set_cons_succ]
    refine wpAnyT_take' (i := 4) (some 54) (v := ?_) rfl rfl (by kernel_rfl) (by kernel_rfl) (by kernel_rfl) (by decide) (fun _ _ _ h => h) (Or.inl ⟨by rfl, ?_⟩) (fun _ => by assumption) (by assumption) ?_
    rotate_left
    · (intro w hSw; (try dsimp only at hSw); go_simp); try with_reducible rfl
    try simp only [Act.put, List.setIfInBounds_toArray, List.set_cons_zero, List.set_cons_succ]
    refine wpAnyT_take' (i := 5) (some 55) (v := ?_) rfl rfl (by kernel_rfl) (by kernel_rfl) (by kernel_rfl) (by decide) (fun _ _ _ h => h) (Or.inl ⟨by rfl, ?_⟩) (fun _ => by assumption) (by assumption) ?_
    rotate_left
    · (intro w hSw; (try dsimp only at hSw); go_simp); try with_reducible rfl
    try simp only [Act.put, List.setIfInBounds_toArray, List.set_cons_zero, List.set_cons_succ]
    refine wpAnyT_take' (i := 6) (some 56) (v := ?_) rfl rfl (by kernel_rfl) (by kernel_rfl) (by kernel_rfl) (by decide) (fun _ _ _ h => h) (Or.inl ⟨by rfl, ?_⟩) (fun _ => by assumption) (by assumption) ?_
    rotate_left
    · (intro w hSw; (try dsimp only at hSw); go_simp); try with_reducible rfl
    try simp only [Act.put, List.setIfInBounds_toArray, List.set_cons_zero, List.set_cons_succ]
    refine wpAnyT_take' (i := 7) (some 57) (v := ?_) rfl rfl (by kernel_rfl) (by kernel_rfl) (by kernel_rfl) (by decide) (fun _ _ _ h => h) (Or.inl ⟨by rfl, ?_⟩) (fun _ => by assumption) (by assumption) ?_
    rotate_left
    · (intro w hSw; (try dsimp only at hSw); go_simp); try with_reducible rfl
    try simp only [Act.put, List.setIfInBounds_toArray, List.set_cons_zero, List.set_cons_succ]
    refine wpAnyT_take' (i := 8) (some 58) (v := ?_) rfl rfl (by kernel_rfl) (by kernel_rfl) (by kernel_rfl) (by decide) (fun _ _ _ h => h) (Or.inl ⟨by rfl, ?_⟩) (fun _ => by assumption) (by assumption) ?_
    rotate_left
    · (intro w hSw; (try dsimp only at hSw); go_simp); try with_reducible rfl
    try simp only [Act.put, List.setIfInBounds_toArray, List.set_cons_zero, List.set_cons_succ]
    refine wpAnyT_take (i := 9) (some 59) (v := ?_) rfl rfl (by kernel_rfl) (by kernel_rfl) (by kernel_rfl) (by kernel_rfl) (by kernel_rfl) (fun _ _ _ h => h) (Or.inl ⟨by rfl, ?_⟩) (by assumption) (by assumption) ?_
    rotate_left
    · (intro w hSw; (try dsimp only at hSw); go_simp); try with_reducible rfl
    try simp only [Act.put, List.setIfInBounds_toArray, List.set_cons_zero, List.set_cons_succ]
    refine wpAnyT_take' (i := 10) (some 60) (v := ?_) rfl rfl (by kernel_rfl) (by kernel_rfl) (by kernel_rfl) (by decide) (fun _ _ _ h => h) (Or.inl ⟨by rfl, ?_⟩) (fun _ => by assumption) (by assumption) ?_
    rotate_left
    · (intro w hSw; (try dsimp only at hSw); go_simp); try with_reducible rfl
    try simp only [Act.put, List.setIfInBounds_toArray, List.set_cons_zero, List.set_cons_succ]
    refine wpAnyT_take' (i := 13) (some 63) (v := ?_) rfl rfl (by kernel_rfl) (by kernel_rfl) (by kernel_rfl) (by decide) (fun _ _ _ h => h) (Or.inl ⟨by rfl, ?_⟩) (fun _ => by assumption) (by assumption) ?_
    rotate_left
    · (intro w hSw; (try dsimp only at hSw); go_simp); try with_reducible rfl
    try simp only [Act.put, List.setIfInBounds_toArray, List.set_cons_zero, List.set_cons_succ]
    have EX : Ext W0 (W0.alloc (.cells #[.int .u8 s.op, .int .i64 s.a, .int .i64 s.b, .bool s.neg, .slice a1 n1 c1, .slice a2 n2 c2] 78)).drew := (Ext.of_alloc W0 _).drew
    refine wpAnyT_one (i := 11) (by kernel_rfl) rfl (fun K hK => ?_)
    go_simp
    refine hK _ _ (fun _ => EX.cell r2) ⟨EX.cell r3, EX.cell q0, EX.cell q1, EX.cell q2, EX.cell q3, EX.cell q4, EX.cell q5, EX.cell p0, EX.cell p1, EX.cell p2, EX.cell p3⟩ ?_
    clear hK K
    try simp only [Act.put, List.setIfInBounds_toArray, List.set_cons_zero, List.set_cons_succ]
    refine wpAnyT_one (i := 12) (by kernel_rfl) rfl (fun K hK => ?_)
    refine step_append_u _ (by rfl) _ _ _ (by rfl) B 78 i0 _ 6 80 Tryz.underlying50 hi0 hz0 hz1 hz2 rfl (by omega) (by simp [Value.cells, isU]) (.slice ra L.length rc) L.length cells (by rfl) HownD.out ⟨W0.heap.size, 0, none⟩ 1 1 [.int .u8 s.op, .int .i64 s.a, .int .i64 s.b, .bool s.neg, .slice a1 n1 c1, .slice a2 n2 c2] (by rfl) (by rfl) (World.news_of_block (cs := #[.int .u8 s.op, .int .i64 s.a, .int .i64 s.b, .bool s.neg, .slice a1 n1 c1, .slice a2 n2 c2]) (t := 78) (fr := (0, 0)) (heap_alloc_new W0 _)) (by simp [Value.oneCell']) (by simp [isU]) (by omega) (by unfold maxLen; omega) (by omega) (by simp; omega) (W0.heap.size + 1) (by simp) ?_
    intro g cap w1 hown1 hgrow hat
    have kp : ∀ (p : Addr) (u : Value), W0.cell? p = some u → some p.block ≠ (Value.slice ra L.length rc).ownBlock → w1.cell? p = some u := fun p u h1 h2 => hgrow.cell (EX.cell h1) h2
    have r3' := kp _ _ r3 (fun e => Hrp.out e.symm)
    have q0' := kp _ _ q0 (fun e => Hnr.out e.symm)
    have q1' := kp _ _ q1 (fun e => Hnr.out e.symm)
    have q2' := kp _ _ q2 (fun e => Hnr.out e.symm)
    have q3' := kp _ _ q3 (fun e => Hnr.out e.symm)
    have q4' := kp _ _ q4 (fun e => Hnr.out e.symm)
    have q5' := kp _ _ q5 (fun e => Hnr.out e.symm)
    have p0' := kp _ _ p0 (fun e => Hkr.out e.symm)
    have p1' := kp _ _ p1 (fun e => Hkr.out e.symm)
    have p2' := kp _ _ p2 (fun e => Hkr.out e.symm)
    have p3' := kp _ _ p3 (fun e => Hkr.out e.symm)
    have hfz : w1.frozen? ⟨pb, 2, none⟩ = false := by rw [hgrow.frozen_far _ (Nat.lt_of_lt_of_le (World.block_lt_of_cell? W0 _ r2) EX.size) (fun e => Hrp.out e.symm)]; exact (EX.frozen r2).trans (M0.fr 2)
    have r2' := kp _ _ r2 (fun e => Hrp.out e.symm)
    refine hK _ _ (fun _ => r2') ⟨r3', q0', q1', q2', q3', q4', q5', p0', p1', p2', p3'⟩ ?_
    clear hK K kp
    have hS1 : w1.cell? ⟨pb, 2, none⟩ = some (.slice ra L.length rc) := r2'
    have hT1 : w1.cell? ⟨pb, 3, none⟩ = some (.map (some mb)) ∧ w1.cell? ⟨nb, 0, none⟩ = some (.int .u8 s.op) ∧ w1.cell? ⟨nb, 1, none⟩ = some (.int .i64 s.a) ∧ w1.cell? ⟨nb, 2, none⟩ = some (.int .i64 s.b) ∧ w1.cell? ⟨nb, 3, none⟩ = some (.bool s.neg) ∧ w1.cell? ⟨nb, 4, none⟩ = some (.slice a1 n1 c1) ∧ w1.cell? ⟨nb, 5, none⟩ = some (.slice a2 n2 c2) ∧ w1.cell? ⟨kb, 0, none⟩ = some (.int .u8 s.op) ∧ w1.cell? ⟨kb, 1, none⟩ = some (.int .i64 s.a) ∧ w1.cell? ⟨kb, 2, none⟩ = some (.int .i64 s.b) ∧ w1.cell? ⟨kb, 3, none⟩ = some (.string ⟨#[]⟩) := ⟨r3', q0', q1', q2', q3', q4', q5', p0', p1', p2', p3'⟩
    try simp only [Act.put, List.setIfInBounds_toArray, List.set_cons_zero, List.set_cons_succ]
    refine wpAnyT_take' (i := 14) (some 64) (v := ?_) rfl rfl (by kernel_rfl) (by kernel_rfl) (by kernel_rfl) (by decide) (fun _ _ _ h => h) (Or.inl ⟨by rfl, ?_⟩) (fun _ => hS1) hT1 ?_
    rotate_left
    · (intro w hSw; (try dsimp only at hSw); go_simp); try with_reducible rfl
    try simp only [Act.put, List.setIfInBounds_toArray, List.set_cons_zero, List.set_cons_succ]
    refine wpAnyT_take' (i := 15) (some 65) (v := ?_) rfl rfl (by kernel_rfl) (by kernel_rfl) (by kernel_rfl) (by decide) (fun _ _ _ h => h) (Or.inl ⟨by rfl, ?_⟩) (fun _ => hS1) hT1 ?_
    rotate_left
    · (intro w hSw; (try dsimp only at hSw); go_simp); try with_reducible rfl
    try simp only [Act.put, List.setIfInBounds_toArray, List.set_cons_zero, List.set_cons_succ]
    have kq : ∀ (p : Addr) (u x : Value), w1.cell? p = some u → p ≠ ⟨pb, 2, none⟩ → (w1.setCell ⟨pb, 2, none⟩ x).cell? p = some u := fun p u x h1 h2 => by rw [World.cell?_setCell_other _ _ _ _ (Ne.symm h2)]; exact h1
    have hmX : mb < (W0.alloc (.cells #[.int .u8 s.op, .int .i64 s.a, .int .i64 s.b, .bool s.neg, .slice a1 n1 c1, .slice a2 n2 c2] 78)).drew.heap.size := Nat.lt_of_lt_of_le (Array.getElem?_eq_some_iff.1 M0.map).1 EX.size
    have hmw : (w1.setCell ⟨pb, 2, none⟩ (.slice (some ⟨g, 0, none⟩) (L.length + 1) cap)).heap[mb]? = some (.map (esOf L) L.length) := MapAt_set (L := L) (mb := mb) (by unfold MapAt; rw [hgrow.block mb hmX (fun e => rm e.symm)]; exact EX.block M0.map) _ _
    have hme1 := Hme.out _ hmw
    have hes1 := Hes.out (ChangeMaps.setBlock (w1.setCell ⟨pb, 2, none⟩ (.slice (some ⟨g, 0, none⟩) (L.length + 1) cap)) mb (.map ((esOf L).push ⟨.agg #[.int .u8 s.op, .int .i64 s.a, .int .i64 s.b, .string ⟨#[]⟩], .int .i64 0, L.length⟩) (L.length + 1))) (by simp only [ChangeMaps.setBlock, Array.getElem?_setIfInBounds]; rw [if_pos trivial, if_pos (Array.getElem?_eq_some_iff.1 hmw).1])
    have hnm : nb ≠ mb := by have := (Array.getElem?_eq_some_iff.1 hM.map).1; omega
    have hkm : kb ≠ mb := by have := (Array.getElem?_eq_some_iff.1 hM.map).1; omega
    have Hnm := Lib.hid hnm
    have Hkm := Lib.hid hkm
    clear hnm hkm hmw hmX
    have n1' : pb ≠ nb := by omega
    have n2' : pb ≠ kb := by omega
    have s3 := fun x => kq _ _ x r3' (by simp)
    have t0 := fun x => kq _ _ x q0' (by first | (simp; done) | (simp; omega))
    have t1 := fun x => kq _ _ x q1' (by first | (simp; done) | (simp; omega))
    have t2 := fun x => kq _ _ x q2' (by first | (simp; done) | (simp; omega))
    have t3 := fun x => kq _ _ x q3' (by first | (simp; done) | (simp; omega))
    have t4 := fun x => kq _ _ x q4' (by first | (simp; done) | (simp; omega))
    have t5 := fun x => kq _ _ x q5' (by first | (simp; done) | (simp; omega))
    have u0 := fun x => kq _ _ x p0' (by first | (simp; done) | (simp; omega))
    have u1 := fun x => kq _ _ x p1' (by first | (simp; done) | (simp; omega))
    have u2 := fun x => kq _ _ x p2' (by first | (simp; done) | (simp; omega))
    have u3 := fun x => kq _ _ x p3' (by first | (simp; done) | (simp; omega))
    refine wpAnyT_one (i := 16) (by kernel_rfl) rfl (fun K hK => ?_)
    go_simp
    refine hK _ _ (fun h => absurd h (by decide)) ⟨s3 _, t0 _, t1 _, t2 _, t3 _, t4 _, t5 _, u0 _, u1 _, u2 _, u3 _⟩ ?_
    clear hK K
    try simp only [Act.put, List.setIfInBounds_toArray, List.set_cons_zero, List.set_cons_succ]
    refine wpAnyT_one (i := 17) (by kernel_rfl) rfl (fun K hK => ?_)
    go_simp
    have kz : ∀ (p : Addr) (u : Value) (W : World) (o : Obj), W.cell? p = some u → p.block ≠ mb → (ChangeMaps.setBlock W mb o).cell? p = some u := fun p u W o h1 h2 => by rw [cell_setBlock h2]; exact h1
    have hT2 : ∀ W : World, W = ChangeMaps.setBlock (w1.setCell ⟨pb, 2, none⟩ (.slice (some ⟨g, 0, none⟩) (L.length + 1) cap)) mb (.map ((esOf L).push ⟨.agg #[.int .u8 s.op, .int .i64 s.a, .int .i64 s.b, .string ⟨#[]⟩], .int .i64 0, L.length⟩) (L.length + 1)) → W.cell? ⟨pb, 3, none⟩ = some (.map (some mb)) ∧ W.cell? ⟨nb, 0, none⟩ = some (.int .u8 s.op) ∧ W.cell? ⟨nb, 1, none⟩ = some (.int .i64 s.a) ∧ W.cell? ⟨nb, 2, none⟩ = some (.int .i64 s.b) ∧ W.cell? ⟨nb, 3, none⟩ = some (.bool s.neg) ∧ W.cell? ⟨nb, 4, none⟩ = some (.slice a1 n1 c1) ∧ W.cell? ⟨nb, 5, none⟩ = some (.slice a2 n2 c2) ∧ W.cell? ⟨kb, 0, none⟩ = some (.int .u8 s.op) ∧ W.cell? ⟨kb, 1, none⟩ = some (.int .i64 s.a) ∧ W.cell? ⟨kb, 2, none⟩ = some (.int .i64 s.b) ∧ W.cell? ⟨kb, 3, none⟩ = some (.string ⟨#[]⟩) := by
      rintro W rfl
      exact ⟨kz _ _ _ _ (s3 _) Hpm.out, kz _ _ _ _ (t0 _) Hnm.out, kz _ _ _ _ (t1 _) Hnm.out, kz _ _ _ _ (t2 _) Hnm.out, kz _ _ _ _ (t3 _) Hnm.out, kz _ _ _ _ (t4 _) Hnm.out, kz _ _ _ _ (t5 _) Hnm.out, kz _ _ _ _ (u0 _) Hkm.out, kz _ _ _ _ (u1 _) Hkm.out, kz _ _ _ _ (u2 _) Hkm.out, kz _ _ _ _ (u3 _) Hkm.out⟩
    have hT2' := hT2 _ rfl
    refine hK _ _ (fun h => absurd h (by decide)) hT2' ?_
    clear hK K s3 t0 t1 t2 t3 t4 t5 u0 u1 u2 u3 hT2 hT1 hT0
    try simp only [Act.put, List.setIfInBounds_toArray, List.set_cons_zero, List.set_cons_succ]
    refine wpAnyT_take' (i := 18) (some 67) (v := ?_) rfl rfl (by kernel_rfl) (by kernel_rfl) (by kernel_rfl) (by decide) (fun _ _ _ h => h) (Or.inl ⟨by rfl, ?_⟩) (fun h => absurd h (by decide)) hT2' ?_
    rotate_left
    · (intro w hSw; (try dsimp only at hSw); go_simp); try with_reducible rfl
    try simp only [Act.put, List.setIfInBounds_toArray, List.set_cons_zero, List.set_cons_succ]
    refine wpAnyT_one (i := 19) (by kernel_rfl) rfl (fun K hK => ?_)
    go_simp
    refine hK _ _ (fun h => absurd h (by decide)) ?_ ?_
    · obtain ⟨z0, z1, z2, z3, z4, z5, z6, z7, z8, z9, z10⟩ := hT2'
      exact ⟨kz _ _ _ _ z0 Hpm.out, kz _ _ _ _ z1 Hnm.out, kz _ _ _ _ z2 Hnm.out, kz _ _ _ _ z3 Hnm.out, kz _ _ _ _ z4 Hnm.out, kz _ _ _ _ z5 Hnm.out, kz _ _ _ _ z6 Hnm.out, kz _ _ _ _ z7 Hkm.out, kz _ _ _ _ z8 Hkm.out, kz _ _ _ _ z9 Hkm.out, kz _ _ _ _ z10 Hkm.out⟩
    clear hK K hT2'
    refine wpAnyT_done (by kernel_rfl) ?_ _
    try simp only [Act.put, List.setIfInBounds_toArray, List.set_cons_zero, List.set_cons_succ]
    clear hme1 hes1 kz kq
    go_wp2
    go_ret2
    have hdone := put_done (o1 := .map ((esOf L).push ⟨.agg #[.int .u8 s.op, .int .i64 s.a, .int .i64 s.b, .string ⟨#[]⟩], .int .i64 0, L.length⟩) (L.length + 1)) (M0.kept EX) (fun i t h => (Hst.out i t h).keep EX.keeps) HownD.out hown1 hgrow (by simpa using hat) HX.out (by rfl) hg
    have el : (L ++ [s]).length = L.length + 1 := by simp
    rw [el] at hdone
    exact ⟨_, rfl, hdone.1, (Mv.of_ext (E0.trans EX)).trans hdone.2⟩
end Go.Proofs.YtbncdghbnnefdaaGreat
