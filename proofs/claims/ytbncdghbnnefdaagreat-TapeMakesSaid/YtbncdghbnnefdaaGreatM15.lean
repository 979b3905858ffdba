/- Parts of the proof: contracts of the functions that the law reaches, and the arithmetic that they rest on; no condition beyond those that each theorem states. -/
import Derived.OpenShut
import Derived.Lib.SmallJoins
import Derived.Test.YtbncdghbnnefdaaGreatM5
import Derived.Test.YtbncdghbnnefdaaGreatM14

namespace Go.Proofs.YtbncdghbnnefdaaGreat
open Go.RowKit

theorem Mk.mono {w : World} {B B' pb mb bud pars gp : Nat} {row : Value} {L : List Step} (h : Mk w B pb mb row bud pars gp L) (hb : B' ≤ B) : Mk w B' pb mb row bud pars gp L := by
  obtain ⟨cells, ho, hs⟩ := h.steps
  exact ⟨Nat.le_trans hb h.b1, Nat.le_trans hb h.b2, h.blk, h.map, ⟨cells, ho.mono hb, hs⟩, h.good⟩
theorem Mk.lts {w : World} {B pb mb bud pars gp : Nat} {row : Value} {L : List Step} (h : Mk w B pb mb row bud pars gp L) : pb < w.heap.size ∧ mb < w.heap.size ∧ ∀ k, row.ownBlock = some k → B ≤ k ∧ k < w.heap.size := by
  obtain ⟨cells, ho, hs⟩ := h.steps
  exact ⟨(Array.getElem?_eq_some_iff.1 h.blk).1, (Array.getElem?_eq_some_iff.1 h.map).1, fun k hk => ho.lt k hk⟩
/-- The blocks of two makers are apart. -/
def Far (p1 m1 : Nat) (r1 : Value) (p2 m2 : Nat) (r2 : Value) : Prop :=
  p1 ≠ p2 ∧ p1 ≠ m2 ∧ m1 ≠ p2 ∧ m1 ≠ m2 ∧ r1.ownBlock ≠ some p2 ∧ r1.ownBlock ≠ some m2 ∧ r2.ownBlock ≠ some p1 ∧ r2.ownBlock ≠ some m1 ∧ ∀ k, r1.ownBlock = some k → r2.ownBlock ≠ some k
theorem Far.symm {p1 m1 : Nat} {r1 : Value} {p2 m2 : Nat} {r2 : Value} (h : Far p1 m1 r1 p2 m2 r2) : Far p2 m2 r2 p1 m1 r1 := by
  obtain ⟨a, b, c, d, e, f, g, i, j⟩ := h
  exact ⟨a.symm, c.symm, b.symm, d.symm, g, i, e, f, fun k h1 h2 => j k h2 h1⟩
theorem Mk.far {w w' : World} {B p1 m1 p2 m2 bud pars gp : Nat} {r1 r1' r2 : Value} {L : List Step} (h : Mk w B p2 m2 r2 bud pars gp L) (hm : Mv p1 m1 r1 r1' w w') (hf : Far p1 m1 r1 p2 m2 r2) : Mk w' B p2 m2 r2 bud pars gp L := by
  obtain ⟨a, b, c, d, e, f, g, i, j⟩ := hf
  obtain ⟨l1, l2, l3⟩ := h.lts
  obtain ⟨cells, ho, hs⟩ := h.steps
  refine ⟨h.b1, h.b2, ?_, ?_, ⟨cells, ho.kept fun k hk => hm.block k (l3 k hk).2 (fun e => g (by rw [hk, e])) (fun e => i (by rw [hk, e])) (fun e => j k e hk), fun n s hn => (hs n s hn).keep hm.keeps⟩, h.good⟩
  · rw [hm.block p2 l1 a.symm c.symm e]; exact h.blk
  · rw [hm.block m2 l2 b.symm d.symm f]; exact h.map
/-- Two makers, in memory that the call has made. -/
structure Pair (w0 w : World) (p1 m1 : Nat) (r1 : Value) (b1 k1 : Nat) (L1 : List Step) (p2 m2 : Nat) (r2 : Value) (b2 k2 : Nat) (L2 : List Step) : Prop where
  ext : Ext w0 w
  one : Mk w w0.heap.size p1 m1 r1 b1 k1 k1 L1
  two : Mk w w0.heap.size p2 m2 r2 b2 k2 k2 L2
  far : Far p1 m1 r1 p2 m2 r2
theorem Pair.symm {w0 w : World} {p1 m1 b1 k1 p2 m2 b2 k2 : Nat} {r1 r2 : Value} {L1 L2 : List Step} (h : Pair w0 w p1 m1 r1 b1 k1 L1 p2 m2 r2 b2 k2 L2) : Pair w0 w p2 m2 r2 b2 k2 L2 p1 m1 r1 b1 k1 L1 := ⟨h.ext, h.two, h.one, h.far.symm⟩
theorem Pair.more {w0 w w' : World} {p1 m1 b1 k1 p2 m2 b2 k2 : Nat} {r1 r2 : Value} {L1 L2 : List Step} (h : Pair w0 w p1 m1 r1 b1 k1 L1 p2 m2 r2 b2 k2 L2) (e : Ext w w') : Pair w0 w' p1 m1 r1 b1 k1 L1 p2 m2 r2 b2 k2 L2 := ⟨h.ext.trans e, h.one.kept e, h.two.kept e, h.far⟩
theorem Pair.left {w0 w w' : World} {p1 m1 b1 k1 p2 m2 b2 k2 i er k1' : Nat} {r1 r2 : Value} {L1 L2 L1' : List Step} {e : Ending} (h : Pair w0 w p1 m1 r1 b1 k1 L1 p2 m2 r2 b2 k2 L2) (hr : MkRes w0.heap.size p1 m1 b1 r1 w i er k1' L1' e w') :
    ∃ r1', e = .returned (.tuple #[.int .i64 i, .int .i64 er]) ∧ Pair w0 w' p1 m1 r1' b1 k1' L1' p2 m2 r2 b2 k2 L2 := by
  obtain ⟨r1', he, hM, hv⟩ := hr
  obtain ⟨l1, l2, l3⟩ := h.one.lts
  obtain ⟨s1, s2, s3⟩ := h.two.lts
  refine ⟨r1', he, ⟨?_, hM, h.two.far hv h.far, ?_⟩⟩
  · refine ⟨hv.os.trans h.ext.os, hv.tape.trans h.ext.tape, hv.output.trans h.ext.output, Nat.le_trans h.ext.size hv.size, fun k hk => ?_⟩
    have := h.ext.size
    rw [hv.block k (by omega) (by have := h.one.b1; omega) (by have := h.one.b2; omega) (fun e => by have := (l3 k e).1; omega)]
    exact Below.block h.ext k hk
  · obtain ⟨a, b, c, d, e, f, g, i, j⟩ := h.far
    rcases hv.row with e' | ⟨x, e', hx⟩
    · exact ⟨a, b, c, d, by rw [e']; exact e, by rw [e']; exact f, g, i, fun k hk => j k (by rw [← e']; exact hk)⟩
    · refine ⟨a, b, c, d, by rw [e']; intro e; cases e; omega, by rw [e']; intro e; cases e; omega, g, i, fun k hk hk2 => ?_⟩
      rw [e'] at hk
      cases hk
      have := (s3 _ hk2).2
      omega
end Go.Proofs.YtbncdghbnnefdaaGreat

namespace Go.Proofs.YtbncdghbnnefdaaGreat
open Go.RowKit

theorem put_new' {bud : Nat} {L : List Step} {s : Step} (h : s ∉ L) (hb : L.length < bud) : putR bud L s = (L.length, 0, L ++ [s]) := by
  unfold putR
  cases hf : findS L s with
  | some i => exact absurd (List.mem_of_getElem? (findS_some hf)) h
  | none => simp only; rw [if_neg (by omega)]
theorem put_full' {bud : Nat} {L : List Step} {s : Step} (h : s ∉ L) (hb : bud ≤ L.length) : putR bud L s = (0, 171, L) := by
  unfold putR
  cases hf : findS L s with
  | some i => exact absurd (List.mem_of_getElem? (findS_some hf)) h
  | none => simp only; rw [if_pos hb]
def hL1 : List Step := [parStep 0]
def hL2 : List Step := [parStep 0, numStep false 2 1]
def hL3 : List Step := [parStep 0, numStep false 2 1, opStep 5 0 1]
def hN1 : List Step := [numStep false 1 1]
theorem op_ne {s t : Step} (h : s.op ≠ t.op) : s ≠ t := fun e => h (by rw [e])
theorem head_par : parR 100 0 [] = (0, 0, 1, hL1) := by
  unfold parR
  rw [if_neg (by omega), put_new' (by simp) (by simp)]
  rfl
theorem head_numt : putR 100 hL1 (numStep false 2 1) = (1, 0, hL2) := by
  rw [put_new' (by simp only [hL1, List.mem_singleton]; exact op_ne (by decide)) (by decide)]
  rfl
theorem head_two : stepR 100 1 hL2 (opStep 5 0 1) 3 = (2, 0, hL3) := by
  unfold stepR
  rw [if_pos ⟨by decide, by decide⟩, put_new' (by simp only [hL2, List.mem_cons, List.not_mem_nil, or_false]; rintro (e | e) <;> exact op_ne (by decide) e) (by decide)]
  rfl
theorem head_two' : stepR 100 1 hL3 (opStep 5 0 1) 3 = (2, 0, hL3) := by
  unfold stepR
  rw [if_pos ⟨by decide, by decide⟩]
  unfold putR
  have : findS hL3 (opStep 5 0 1) = some 2 := by
    unfold findS hL3
    have h1 : sameS (parStep 0) (opStep 5 0 1) = false := by rfl
    have h2 : sameS (numStep false 2 1) (opStep 5 0 1) = false := by simp [sameS, numStep, opStep]
    have h3 : sameS (opStep 5 0 1) (opStep 5 0 1) = true := (sameS_iff _ _).2 rfl
    simp [List.findIdx?_cons, h1, h2, h3]
  rw [this]
theorem head_one : stepR 100 1 hL3 (opStep 8 9 0) 4 = (0, 2, hL3) := by
  unfold stepR
  rw [if_neg (by rintro ⟨_, h⟩; exact absurd h (by decide))]
theorem head_one' : stepR 100 1 hL3 (opStep 3 0 0) 4 = (0, 2, hL3) := by
  unfold stepR
  rw [if_neg (by rintro ⟨h, _⟩; exact absurd h (by decide))]
theorem head_n1 : putR 1 [] (numStep false 1 1) = (0, 0, hN1) := by
  rw [put_new' (by simp) (by simp)]
  rfl
theorem limbs_ne : limbs (2 / Nat.gcd 2 1) ≠ limbs (1 / Nat.gcd 1 1) := fun e => by
  have := congrArg val e
  rw [val_limbs, val_limbs] at this
  revert this
  decide
theorem num_ne : numStep false 2 1 ≠ numStep false 1 1 := fun e => limbs_ne (congrArg Step.xs e)
theorem head_n2 : putR 1 hN1 (numStep false 2 1) = (0, 171, hN1) := by
  rw [put_full' (by simp only [hN1, List.mem_singleton]; exact num_ne) (by decide)]
theorem head_n3 : putR 1 hN1 (numStep false 1 1) = (0, 0, hN1) := by
  unfold putR
  have : findS hN1 (numStep false 1 1) = some 0 := by
    unfold findS hN1
    simp [List.findIdx?_cons, (sameS_iff (numStep false 1 1) (numStep false 1 1)).2 rfl]
  rw [this]
theorem head_tape : checkP 1 2 hL3 [(⟨#[120]⟩, 0)] = 0 := by
  unfold checkP
  refine if_pos ⟨by decide, (allR_iff _ _).2 fun i s hi => ?_, by decide⟩
  match i, hi with
  | 0, hi => cases hi; exact parStep_right 0 1 _ (by omega)
  | 1, hi => cases hi; exact numStep_right false (by omega) _ _
  | 2, hi => cases hi; decide
  | i + 3, hi => simp [hL3] at hi
end Go.Proofs.YtbncdghbnnefdaaGreat

namespace Go.Proofs.YtbncdghbnnefdaaGreat
open Go.RowKit

set_option maxRecDepth 100000 in
set_option maxHeartbeats 8000000 in
theorem head17 (w : World) : Calls Tryz.prog 8 #[] w (Post w fun v _ => v = .bool true) := by
  go_enter Tryz.func8, Tryz.ntmps8
  go_wp2_with fail
  refine (new_yes 100 _ (by omega) (by omega)).mono ?_
  rintro e w1 ⟨p1, m1, rfl, E1, x1, x2, M1⟩
  go_wp2_with fail
  refine (new_yes 1 _ (by omega) (by omega)).mono ?_
  rintro e w2 ⟨p2, m2, rfl, E2, y1, y2, M2⟩
  obtain ⟨l1, l2, _⟩ := M1.lts
  have P0 : Pair w w2 p1 m1 (.slice none 0 0) 100 0 [] p2 m2 (.slice none 0 0) 1 0 [] :=
    ⟨E1.trans E2, M1.kept E2, M2.mono E1.size, by omega, by omega, by omega, by omega, by simp [Value.ownBlock], by simp [Value.ownBlock], by simp [Value.ownBlock], by simp [Value.ownBlock], by simp [Value.ownBlock]⟩
  clear M1 M2 E1 E2 x1 x2 y1 y2 l1 l2
  go_wp2_with fail
  refine (new_no 0 _ (by omega)).mono ?_
  rintro e w3 ⟨_, rfl, E3, rfl⟩
  have P1 := P0.more E3
  clear P0 E3
  go_wp2_with fail
  refine (par_any _ _ _ _ _ _ _ _ P1.one).mono ?_
  rintro e w4 hr
  rw [head_par] at hr
  obtain ⟨r1, rfl, P2⟩ := P1.left hr
  clear hr P1
  go_wp2_with fail
  refine (fof_any 2 (by omega) _).mono ?_
  rintro e w5 ⟨_, rfl, E5, a1, n1, c1, a2, n2, c2, rfl, u1, u2⟩
  have P3 := P2.more E5
  clear P2 E5
  go_wp2_with fail
  refine (num_yes _ _ _ _ _ _ _ false a1 a2 n1 c1 n2 c2 2 1 _ P3.one u1.is u2.is u1.lt u2.lt (by omega)).mono ?_
  rintro e w6 hr
  rw [head_numt] at hr
  obtain ⟨r2, rfl, P4⟩ := P3.left hr
  clear hr P3 u1 u2
  go_wp2_with fail
  refine (two_any _ _ _ _ _ _ _ 5 0 1 _ P4.one (by omega) rfl rfl).mono ?_
  rintro e w7 hr
  rw [head_two] at hr
  obtain ⟨r3, rfl, P5⟩ := P4.left hr
  clear hr P4
  go_wp2_with fail
  refine (two_any _ _ _ _ _ _ _ 5 0 1 _ P5.one (by omega) rfl rfl).mono ?_
  rintro e w8 hr
  rw [head_two'] at hr
  obtain ⟨r4, rfl, P6⟩ := P5.left hr
  clear hr P5
  go_wp2_with fail
  refine (one_any _ _ _ _ _ _ _ 8 9 _ P6.one (by omega) rfl).mono ?_
  rintro e w9 hr
  rw [head_one] at hr
  obtain ⟨r5, rfl, P7⟩ := P6.left hr
  clear hr P6
  go_wp2_with fail
  refine (one_any _ _ _ _ _ _ _ 3 0 _ P7.one (by omega) rfl).mono ?_
  rintro e w10 hr
  rw [head_one'] at hr
  obtain ⟨r6, rfl, P8⟩ := P7.left hr
  clear hr P7
  go_wp2_with fail
  refine (fof_any 1 (by omega) _).mono ?_
  rintro e w11 ⟨_, rfl, E5, a1, n1, c1, a2, n2, c2, rfl, u1, u2⟩
  have P9 := P8.more E5
  clear P8 E5
  go_wp2_with fail
  refine (num_yes _ _ _ _ _ _ _ false a1 a2 n1 c1 n2 c2 1 1 _ P9.two u1.is u2.is u1.lt u2.lt (by omega)).mono ?_
  rintro e w12 hr
  rw [head_n1] at hr
  obtain ⟨r7, rfl, P10⟩ := P9.symm.left hr
  replace P10 := P10.symm
  clear hr P9 u1 u2
  go_wp2_with fail
  refine (fof_any 2 (by omega) _).mono ?_
  rintro e w13 ⟨_, rfl, E5, a1, n1, c1, a2, n2, c2, rfl, u1, u2⟩
  have P11 := P10.more E5
  clear P10 E5
  go_wp2_with fail
  refine (num_yes _ _ _ _ _ _ _ false a1 a2 n1 c1 n2 c2 2 1 _ P11.two u1.is u2.is u1.lt u2.lt (by omega)).mono ?_
  rintro e w14 hr
  rw [head_n2] at hr
  obtain ⟨r8, rfl, P12⟩ := P11.symm.left hr
  replace P12 := P12.symm
  clear hr P11 u1 u2
  go_wp2_with fail
  refine (fof_any 1 (by omega) _).mono ?_
  rintro e w15 ⟨_, rfl, E5, a1, n1, c1, a2, n2, c2, rfl, u1, u2⟩
  have P13 := P12.more E5
  clear P12 E5
  go_wp2_with fail
  refine (num_yes _ _ _ _ _ _ _ false a1 a2 n1 c1 n2 c2 1 1 _ P13.two u1.is u2.is u1.lt u2.lt (by omega)).mono ?_
  rintro e w16 hr
  rw [head_n3] at hr
  obtain ⟨r9, rfl, P14⟩ := P13.symm.left hr
  replace P14 := P14.symm
  clear hr P13 u1 u2
  go_wp2_with fail
  have EX : Ext w16 (w16.alloc (.cells #[.string ⟨#[120]⟩, .int .i64 0] 57)) := Ext.of_alloc _ _
  have hT : Tells (w16.alloc (.cells #[.string ⟨#[120]⟩, .int .i64 0] 57)) (some ⟨w16.heap.size, 0, none⟩) 1 1 [(⟨#[120]⟩, 0)] :=
    ⟨rfl, by omega, .inr ⟨w16.heap.size, 0, rfl, fun i t ht => by
      match i, ht with
      | 0, ht => cases ht; exact ⟨by simp [go_sem], by simp [go_sem]⟩
      | i + 1, ht => simp at ht⟩⟩
  refine (tape_yes _ _ _ _ _ _ _ 2 _ _ _ _ _ (P14.one.kept EX) hT).mono ?_
  rintro e w17 ⟨v, rfl, E17, hres, _⟩
  obtain ⟨rv, tv, cells, rfl, hrow, htell⟩ := hres head_tape
  have PF := P14.more (EX.trans E17)
  have hfew := P14.one.fewL
  obtain ⟨ar, cr, rfl, hS⟩ := hrow.rowSteps hfew (by decide)
  obtain ⟨at', ct, rfl, hTl⟩ := htell.tells (by decide)
  have HS := Lib.hid hS
  have HTl := Lib.hid hTl
  have HPF := Lib.hid PF
  have h3 : hL3.length = 3 := rfl
  have h1 : [((⟨#[120]⟩, 0) : ByteArray × Int)].length = 1 := rfl
  rw [h3] at HS
  rw [h1] at HTl
  rw [h3, h1]
  clear hT hS hTl PF hfew hrow htell hres EX E17 P14 h3 h1
  go_wp2_with fail
  have EX : Ext w17 (w17.alloc (.cells #[.int .i64 1, .int .i64 2, .slice ar 3 cr, .slice at' 1 ct] 53)) := Ext.of_alloc _ _
  have HC := check_any 1 2 ar at' 3 cr 1 ct hL3 [(⟨#[120]⟩, 0)] _ (HS.out.ext EX) (HTl.out.ext EX)
  rw [head_tape] at HC
  refine HC.mono ?_
  rintro e w18 ⟨_, rfl, E18, rfl⟩
  have HP2 := Lib.hid (HPF.out.more (EX.trans E18))
  clear HC HS HTl HPF EX E18
  go_wp2_with fail
  have HC := check_any 0 0 none none 0 0 0 0 [] [] w18 ⟨rfl, by omega, .inl rfl⟩ ⟨rfl, by omega, .inl rfl⟩
  rw [show checkP 0 0 [] [] = 170 from by decide] at HC
  refine HC.mono ?_
  rintro e w19 ⟨_, rfl, E19, rfl⟩
  clear HC
  go_wp2_with fail
  refine (len_yes (HP2.out.one.kept E19)).mono ?_
  rintro e w20 ⟨rfl, rfl⟩
  have h3 : hL3.length = 3 := rfl
  rw [h3]
  go_wp2
  go_ret
  exact Post.mk (HP2.out.ext.trans E19) rfl
end Go.Proofs.YtbncdghbnnefdaaGreat

namespace Go.Proofs.YtbncdghbnnefdaaGreat
open Go.ChangeShapes Go.WideShapes Go.ChangeAt Go.RowKit Go.Deep

theorem list7 {α : Type} {l : List α} (h : l.length = 7) : ∃ c0 c1 c2 c3 c4 c5 c6, l = [c0, c1, c2, c3, c4, c5, c6] := by
  match l, h with
  | [c0, c1, c2, c3, c4, c5, c6], _ => exact ⟨c0, c1, c2, c3, c4, c5, c6, rfl⟩
theorem list5 {α : Type} {l : List α} (h : l.length = 5) : ∃ c0 c1 c2 c3 c4, l = [c0, c1, c2, c3, c4] := by
  match l, h with
  | [c0, c1, c2, c3, c4], _ => exact ⟨c0, c1, c2, c3, c4, rfl⟩
theorem list2 {α : Type} {l : List α} (h : l.length = 2) : ∃ c0 c1, l = [c0, c1] := by
  match l, h with
  | [c0, c1], _ => exact ⟨c0, c1, rfl⟩
theorem open_call {H : Type} {enc : TypeId × Value → H} {w : World} {base : Nat} {spare : Nat → Bool} {held : Bool} {fuel : Nat} {cs : List Value} {x : DataW H × List MemPlace}
    (h : DataW.trod enc Tryz.prog w base spare held fuel 37 cs = some x) :
    ∃ c0 c1 c2 c3 c4 c5 c6 n m l y0 y1 y2 y3 y4 y5 y6, cs = [c0, c1, c2, c3, c4, c5, c6] ∧ DataW.trod enc Tryz.prog w base spare held n 5 [c0] = some y0 ∧ DataW.trod enc Tryz.prog w base spare held n 5 [c1] = some y1 ∧ DataW.trod enc Tryz.prog w base spare held n 3 [c2] = some y2 ∧
      DataW.trod enc Tryz.prog w base spare held n 3 [c3] = some y3 ∧ DataW.trod enc Tryz.prog w base spare held l 4 [c4] = some y4 ∧ DataW.trod enc Tryz.prog w base spare held l 31 [c5] = some y5 ∧ DataW.trod enc Tryz.prog w base spare held m 31 [c6] = some y6 := by
  obtain ⟨xs, n, _, _, hl, hx, hf⟩ := DataW.trod_struct Tryz.underlying37 h
  have hl7 : cs.length = 7 := hl.trans (by kernel_rfl)
  obtain ⟨c0, c1, c2, c3, c4, c5, c6, rfl⟩ := list7 hl7
  obtain ⟨x0, x1, x2, x3, x4, rfl⟩ := list5 hx
  have h0 : DataW.trod enc Tryz.prog w base spare held n 5 (([c0, c1, c2, c3, c4, c5, c6].drop 0).take (Tryz.prog.cellsOf 5)) = some x0 := hf 0 _ rfl
  have h1 : DataW.trod enc Tryz.prog w base spare held n 5 (([c0, c1, c2, c3, c4, c5, c6].drop 1).take (Tryz.prog.cellsOf 5)) = some x1 := hf 1 _ rfl
  have h2 : DataW.trod enc Tryz.prog w base spare held n 3 (([c0, c1, c2, c3, c4, c5, c6].drop 2).take (Tryz.prog.cellsOf 3)) = some x2 := hf 2 _ rfl
  have h3 : DataW.trod enc Tryz.prog w base spare held n 3 (([c0, c1, c2, c3, c4, c5, c6].drop 3).take (Tryz.prog.cellsOf 3)) = some x3 := hf 3 _ rfl
  have h4 : DataW.trod enc Tryz.prog w base spare held n 35 (([c0, c1, c2, c3, c4, c5, c6].drop 4).take (Tryz.prog.cellsOf 35)) = some x4 := hf 4 _ rfl
  rw [show Tryz.prog.cellsOf 5 = 1 by kernel_rfl] at h0 h1
  rw [show Tryz.prog.cellsOf 3 = 1 by kernel_rfl] at h2 h3
  rw [show Tryz.prog.cellsOf 35 = 3 by kernel_rfl] at h4
  obtain ⟨xs, m, _, _, _, hx, hf⟩ := DataW.trod_struct Tryz.underlying35 h4
  obtain ⟨x5, x6, rfl⟩ := list2 hx
  have h5 : DataW.trod enc Tryz.prog w base spare held m 33 (([c4, c5, c6].drop 0).take (Tryz.prog.cellsOf 33)) = some x5 := hf 0 _ rfl
  have h6 : DataW.trod enc Tryz.prog w base spare held m 31 (([c4, c5, c6].drop 2).take (Tryz.prog.cellsOf 31)) = some x6 := hf 1 _ rfl
  rw [show Tryz.prog.cellsOf 33 = 2 by kernel_rfl] at h5
  rw [show Tryz.prog.cellsOf 31 = 1 by kernel_rfl] at h6
  obtain ⟨xs, l, _, _, _, hx, hf⟩ := DataW.trod_struct Tryz.underlying33 h5
  obtain ⟨x7, x8, rfl⟩ := list2 hx
  have h7 : DataW.trod enc Tryz.prog w base spare held l 4 (([c4, c5].drop 0).take (Tryz.prog.cellsOf 4)) = some x7 := hf 0 _ rfl
  have h8 : DataW.trod enc Tryz.prog w base spare held l 31 (([c4, c5].drop 1).take (Tryz.prog.cellsOf 31)) = some x8 := hf 1 _ rfl
  rw [show Tryz.prog.cellsOf 4 = 1 by kernel_rfl] at h7
  rw [show Tryz.prog.cellsOf 31 = 1 by kernel_rfl] at h8
  exact ⟨c0, c1, c2, c3, c4, c5, c6, n, m, l, _, _, _, _, _, _, _, rfl, h0, h1, h2, h3, h7, h8, h6⟩
end Go.Proofs.YtbncdghbnnefdaaGreat

namespace Go.Proofs.YtbncdghbnnefdaaGreat
open Go.ChangeShapes Go.WideShapes Go.ChangeAt Go.RowKit Go.Deep

theorem raw_of {H : Type} {enc : TypeId × Value → H} {w : World} {base : Nat} {held : Bool} {fuel : Nat} {c : Value} {y : DataW H × List MemPlace}
    (h : DataW.trod enc Tryz.prog w base (fun _ => true) held fuel 31 [c] = some y) : ∃ a n k z, c = .slice a n k ∧ Raw w a n k z := by
  rcases open_ints Tryz.underlying31 Tryz.underlying94 (by kernel_rfl) h with ⟨hcs, _⟩ | ⟨x, l, k, zs, hcs, _, hl, hm, hz, _, hcell, hwz⟩
  · obtain rfl : c = .slice none 0 0 := by simpa using hcs
    exact ⟨_, _, _, [], rfl, .inl ⟨rfl, rfl, rfl, rfl⟩⟩
  · obtain rfl : c = .slice (some x) l k := by simpa using hcs
    exact ⟨_, _, _, zs, rfl, .inr ⟨_, rfl, hl, hm, by simpa using hz, hcell, hwz⟩⟩
theorem call_value {H : Type} {enc : TypeId × Value → H} {w : World} {base : Nat} {held : Bool} {fuel : Nat} {cs : List Value} {x : DataW H × List MemPlace}
    (h : DataW.trod enc Tryz.prog w base (fun _ => true) held fuel 37 cs = some x) :
    ∃ (p q A B : Int) (g : Bool) (a1 : Option Addr) (n1 k1 : Nat) (z1 : List Int) (a2 : Option Addr) (n2 k2 : Nat) (z2 : List Int), cs = [.int .u8 p, .int .u8 q, .int .i64 A, .int .i64 B, .bool g, .slice a1 n1 k1, .slice a2 n2 k2] ∧
      (Lit.int .u8 p).wf = true ∧ (Lit.int .u8 q).wf = true ∧ (Lit.int .i64 A).wf = true ∧ (Lit.int .i64 B).wf = true ∧ Raw w a1 n1 k1 z1 ∧ Raw w a2 n2 k2 z2 := by
  obtain ⟨c0, c1, c2, c3, c4, c5, c6, n, m, l, y0, y1, y2, y3, y4, y5, y6, rfl, h0, h1, h2, h3, h4, h5, h6⟩ := open_call h
  obtain ⟨p, e0, _, w0⟩ := DataW.trod_int Tryz.underlying5 h0
  obtain ⟨q, e1, _, w1⟩ := DataW.trod_int Tryz.underlying5 h1
  obtain ⟨A, e2, _, w2⟩ := DataW.trod_int Tryz.underlying3 h2
  obtain ⟨B, e3, _, w3⟩ := DataW.trod_int Tryz.underlying3 h3
  obtain ⟨g, e4, _⟩ := DataW.trod_bool Tryz.underlying4 h4
  obtain ⟨a1, n1, k1, z1, rfl, r1⟩ := raw_of h5
  obtain ⟨a2, n2, k2, z2, rfl, r2⟩ := raw_of h6
  simp only [List.cons.injEq, and_true] at e0 e1 e2 e3 e4
  subst e0 e1 e2 e3 e4
  exact ⟨p, q, A, B, g, a1, n1, k1, z1, a2, n2, k2, z2, rfl, w0, w1, w2, w3, r1, r2⟩
end Go.Proofs.YtbncdghbnnefdaaGreat
