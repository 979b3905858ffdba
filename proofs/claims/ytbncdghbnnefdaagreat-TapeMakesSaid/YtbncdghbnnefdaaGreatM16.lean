/- Parts of the proof: contracts of the functions that the law reaches, and the arithmetic that they rest on; no condition beyond those that each theorem states. -/
import Derived.Deep.Slices
import Derived.Test.YtbncdghbnnefdaaGreatM15

namespace Go.Proofs.YtbncdghbnnefdaaGreat
open Go.RowKit

theorem small06 (g : Bool) (a1 a2 : Option Addr) (n1 c1 n2 c2 : Nat) (w : World) :
    Calls Tryz.prog 7 #[.agg #[.bool g, .slice a1 n1 c1, .slice a2 n2 c2]] w (Post w fun v _ => v = .bool (decide (n1 ≤ 3) && decide (n2 ≤ 3))) := by
  by_cases h1 : n1 ≤ 3
  · by_cases h2 : n2 ≤ 3
    · have k1 : ((n1 : Nat) : Int) ≤ 3 := by omega
      have k2 : ((n2 : Nat) : Int) ≤ 3 := by omega
      rw [decide_eq_true h1, decide_eq_true h2]
      go_enter Tryz.func7, Tryz.ntmps7
      go_wp2
      go_ret
      exact Post.mk (by repeat (first | with_reducible exact Ext.refl _ | with_reducible assumption | (with_reducible refine Ext.alloc ?_ _) | (with_reducible refine Ext.drew ?_) | (with_reducible refine Ext.drewN ?_ _) | (with_reducible refine Ext.set ?_ (by first | (simp; done) | (simp; omega)) _) | (with_reducible refine Ext.trans ?_ (by with_reducible assumption)))) rfl
    · have k1 : ((n1 : Nat) : Int) ≤ 3 := by omega
      have k2 : ¬ ((n2 : Nat) : Int) ≤ 3 := by omega
      rw [decide_eq_true h1, decide_eq_false h2]
      go_enter Tryz.func7, Tryz.ntmps7
      go_wp2
      go_ret
      exact Post.mk (by repeat (first | with_reducible exact Ext.refl _ | with_reducible assumption | (with_reducible refine Ext.alloc ?_ _) | (with_reducible refine Ext.drew ?_) | (with_reducible refine Ext.drewN ?_ _) | (with_reducible refine Ext.set ?_ (by first | (simp; done) | (simp; omega)) _) | (with_reducible refine Ext.trans ?_ (by with_reducible assumption)))) rfl
  · have k1 : ¬ ((n1 : Nat) : Int) ≤ 3 := by omega
    rw [decide_eq_false h1]
    go_enter Tryz.func7, Tryz.ntmps7
    go_wp2
    go_ret
    exact Post.mk (by repeat (first | with_reducible exact Ext.refl _ | with_reducible assumption | (with_reducible refine Ext.alloc ?_ _) | (with_reducible refine Ext.drew ?_) | (with_reducible refine Ext.drewN ?_ _) | (with_reducible refine Ext.set ?_ (by first | (simp; done) | (simp; omega)) _) | (with_reducible refine Ext.trans ?_ (by with_reducible assumption)))) rfl
end Go.Proofs.YtbncdghbnnefdaaGreat

namespace Go.Proofs.YtbncdghbnnefdaaGreat
open Go.RowKit

theorem find_new {L : List Step} {s : Step} (h : s ∈ L) : ∃ i, findS L s = some i ∧ i < L.length := by
  cases hf : findS L s with
  | none => exact absurd h (findS_none hf)
  | some i => exact ⟨i, rfl, (List.getElem?_eq_some_iff.1 (findS_some hf)).1⟩
theorem put_ok {bud : Nat} {L : List Step} {s : Step} (h : (putR bud L s).2.1 = 0) : (putR bud L s).1 < (putR bud L s).2.2.length := by
  unfold putR at *
  cases hf : findS L s with
  | some i => exact (List.getElem?_eq_some_iff.1 (findS_some hf)).1
  | none =>
    rw [hf] at h
    simp only at h ⊢
    split at h
    · cases h
    · rename_i hb
      rw [if_neg hb]; simp
theorem put_err {bud : Nat} {L : List Step} {s : Step} (h : (putR bud L s).2.1 ≠ 0) : (putR bud L s).2.2 = L := by
  unfold putR at *
  cases hf : findS L s with
  | some i => rfl
  | none =>
    rw [hf] at h
    simp only at h ⊢
    split at h
    · rename_i hb
      rw [if_pos hb]
    · exact absurd rfl h
theorem put_again (bud : Nat) (L : List Step) (s : Step) : (putR bud (putR bud L s).2.2 s).2.2 = (putR bud L s).2.2 := by
  by_cases h : s ∈ L
  · obtain ⟨i, hf, _⟩ := find_new h
    have e : (putR bud L s).2.2 = L := by unfold putR; rw [hf]
    rw [e, e]
  · by_cases hb : bud ≤ L.length
    · rw [put_full' h hb]
      show (putR bud L s).2.2 = L
      rw [put_full' h hb]
    · rw [put_new' h (by omega)]
      show (putR bud (L ++ [s]) s).2.2 = L ++ [s]
      obtain ⟨i, hf, _⟩ := find_new (L := L ++ [s]) (s := s) (by simp)
      unfold putR; rw [hf]
theorem step_ok {bud pars : Nat} {L : List Step} {s : Step} {k : Nat} (h : (stepR bud pars L s k).2.1 = 0) : (stepR bud pars L s k).1 < (stepR bud pars L s k).2.2.length := by
  unfold stepR at *
  split at h
  · rename_i hc; rw [if_pos hc]; exact put_ok h
  · cases h
theorem step_err {bud pars : Nat} {L : List Step} {s : Step} {k : Nat} (h : (stepR bud pars L s k).2.1 ≠ 0) : (stepR bud pars L s k).2.2 = L := by
  unfold stepR at *
  split at h
  · rename_i hc; rw [if_pos hc]; exact put_err h
  · rename_i hc; rw [if_neg hc]
theorem step_again (bud pars : Nat) (L : List Step) (s : Step) (k : Nat) : (stepR bud pars (stepR bud pars L s k).2.2 s k).2.2 = (stepR bud pars L s k).2.2 := by
  by_cases hc : fieldsN s.op = k ∧ rightP s L.length pars = true
  · have e : stepR bud pars L s k = putR bud L s := by unfold stepR; rw [if_pos hc]
    rw [e]
    by_cases hd : fieldsN s.op = k ∧ rightP s (putR bud L s).2.2.length pars = true
    · have e2 : stepR bud pars (putR bud L s).2.2 s k = putR bud (putR bud L s).2.2 s := by unfold stepR; rw [if_pos hd]
      rw [e2, put_again]
    · unfold stepR; rw [if_neg hd]
  · have e : stepR bud pars L s k = (0, 2, L) := by unfold stepR; rw [if_neg hc]
    rw [e]; show (stepR bud pars L s k).2.2 = L; rw [e]
/-- Num's answer. -/
def numR (bud : Nat) (L : List Step) (g : Bool) (n d : Nat) : Nat × Nat × List Step := if d = 0 then (0, 2, L) else putR bud L (numStep g n d)
theorem num_ok {bud : Nat} {L : List Step} {g : Bool} {n d : Nat} (h : (numR bud L g n d).2.1 = 0) : (numR bud L g n d).1 < (numR bud L g n d).2.2.length := by
  unfold numR at *
  split at h
  · cases h
  · rename_i hc; rw [if_neg hc]; exact put_ok h
theorem num_err {bud : Nat} {L : List Step} {g : Bool} {n d : Nat} (h : (numR bud L g n d).2.1 ≠ 0) : (numR bud L g n d).2.2 = L := by
  unfold numR at *
  split at h
  · rename_i hc; rw [if_pos hc]
  · rename_i hc; rw [if_neg hc]; exact put_err h
theorem num_again (bud : Nat) (L : List Step) (g : Bool) (n d : Nat) : (numR bud (numR bud L g n d).2.2 g n d).2.2 = (numR bud L g n d).2.2 := by
  by_cases hd : d = 0
  · have e : ∀ M, numR bud M g n d = (0, 2, M) := fun M => by unfold numR; rw [if_pos hd]
    rw [e, e]
  · have e : ∀ M, numR bud M g n d = putR bud M (numStep g n d) := fun M => by unfold numR; rw [if_neg hd]
    rw [e, e, put_again]

/-- One maker, in memory that the call has made. -/
structure Solo (w0 w : World) (p1 m1 : Nat) (r1 : Value) (b1 k1 : Nat) (L1 : List Step) : Prop where
  ext : Ext w0 w
  one : Mk w w0.heap.size p1 m1 r1 b1 k1 k1 L1
theorem Solo.more {w0 w w' : World} {p1 m1 b1 k1 : Nat} {r1 : Value} {L1 : List Step} (h : Solo w0 w p1 m1 r1 b1 k1 L1) (e : Ext w w') : Solo w0 w' p1 m1 r1 b1 k1 L1 := ⟨h.ext.trans e, h.one.kept e⟩
theorem Solo.turn {w0 w w' : World} {p1 m1 b1 k1 k1' : Nat} {r1 r1' : Value} {L1 L1' : List Step} (h : Solo w0 w p1 m1 r1 b1 k1 L1) (hM : Mk w' w0.heap.size p1 m1 r1' b1 k1' k1' L1') (hv : Mv p1 m1 r1 r1' w w') : Solo w0 w' p1 m1 r1' b1 k1' L1' := by
  obtain ⟨l1, l2, l3⟩ := h.one.lts
  refine ⟨⟨hv.os.trans h.ext.os, hv.tape.trans h.ext.tape, hv.output.trans h.ext.output, Nat.le_trans h.ext.size hv.size, fun k hk => ?_⟩, hM⟩
  have := h.ext.size
  rw [hv.block k (by omega) (by have := h.one.b1; omega) (by have := h.one.b2; omega) (fun e => by have := (l3 k e).1; omega)]
  exact Below.block h.ext k hk
theorem Solo.left {w0 w w' : World} {p1 m1 b1 k1 i er k1' : Nat} {r1 : Value} {L1 L1' : List Step} {e : Ending} (h : Solo w0 w p1 m1 r1 b1 k1 L1) (hr : MkRes w0.heap.size p1 m1 b1 r1 w i er k1' L1' e w') :
    ∃ r1', e = .returned (.tuple #[.int .i64 i, .int .i64 er]) ∧ Solo w0 w' p1 m1 r1' b1 k1' L1' ∧ Mv p1 m1 r1 r1' w w' := by
  obtain ⟨r1', he, hM, hv⟩ := hr
  exact ⟨r1', he, h.turn hM hv, hv⟩

theorem Raw.ext {w w' : World} {a : Option Addr} {len cap : Nat} {zs : List Int} (h : Raw w a len cap zs) (e : Ext w w') : Raw w' a len cap zs := by
  rcases h with h | ⟨x, h1, h2, h3, h4, h5, h6⟩
  · exact .inl h
  · exact .inr ⟨x, h1, h2, h3, h4, fun i hi => e.cell (h5 i hi), h6⟩
/-- Seven cells from here on are a Call. -/
def AskAt (w : World) (b o : Nat) : Prop := ∃ (p q : Nat) (A B : Int) (g : Bool) (a1 : Option Addr) (n1 c1 : Nat) (z1 : List Int) (a2 : Option Addr) (n2 c2 : Nat) (z2 : List Int),
  p < 256 ∧ q < 256 ∧ (Lit.int .i64 A).wf = true ∧ (Lit.int .i64 B).wf = true ∧ Raw w a1 n1 c1 z1 ∧ Raw w a2 n2 c2 z2 ∧
  w.cell? ⟨b, o, none⟩ = some (.int .u8 p) ∧ w.cell? ⟨b, o + 1, none⟩ = some (.int .u8 q) ∧ w.cell? ⟨b, o + 2, none⟩ = some (.int .i64 A) ∧ w.cell? ⟨b, o + 3, none⟩ = some (.int .i64 B) ∧
  w.cell? ⟨b, o + 4, none⟩ = some (.bool g) ∧ w.cell? ⟨b, o + 5, none⟩ = some (.slice a1 n1 c1) ∧ w.cell? ⟨b, o + 6, none⟩ = some (.slice a2 n2 c2)
theorem AskAt.ext {w w' : World} {b o : Nat} (h : AskAt w b o) (e : Ext w w') : AskAt w' b o := by
  obtain ⟨p, q, A, B, g, a1, n1, c1, z1, a2, n2, c2, z2, h1, h2, h3, h4, h5, h6, k0, k1, k2, k3, k4, k5, k6⟩ := h
  exact ⟨p, q, A, B, g, a1, n1, c1, z1, a2, n2, c2, z2, h1, h2, h3, h4, h5.ext e, h6.ext e, e.cell k0, e.cell k1, e.cell k2, e.cell k3, e.cell k4, e.cell k5, e.cell k6⟩
/-- The slice (a, n, c) reads as Calls. -/
structure Asks (w : World) (a : Option Addr) (n : Nat) : Prop where
  few : n ≤ maxLen
  at_ : n = 0 ∨ ∃ b off, a = some ⟨b, off, none⟩ ∧ ∀ i, i < n → AskAt w b (off + i * 7)
theorem Asks.ext {w w' : World} {a : Option Addr} {n : Nat} (h : Asks w a n) (e : Ext w w') : Asks w' a n := ⟨h.few, h.at_.imp id fun ⟨b, off, ha, hc⟩ => ⟨b, off, ha, fun i hi => (hc i hi).ext e⟩⟩
theorem Asks.at {w : World} {a : Option Addr} {n : Nat} (h : Asks w a n) {i : Nat} (hi : i < n) : ∃ b off, a = some ⟨b, off, none⟩ ∧ AskAt w b (off + i * 7) := by
  rcases h.at_ with h0 | ⟨b, off, ha, hc⟩
  · omega
  · exact ⟨b, off, ha, hc i hi⟩
theorem lt_top6 {m : Nat} (h : m < B64 ^ 6) : m < Top := top_of h (by omega)
end Go.Proofs.YtbncdghbnnefdaaGreat

namespace Go.Proofs.YtbncdghbnnefdaaGreat
open Go.RowKit

theorem mkres_ext {B pb mb bud pars : Nat} {row : Value} {L : List Step} {w w' : World} {i er : Nat} {e : Ending} (h : Mk w B pb mb row bud pars pars L) (he : e = .returned (.tuple #[.int .i64 i, .int .i64 er])) (x : Ext w w') :
    MkRes B pb mb bud row w i er pars L e w' := ⟨row, he, h.kept x, Mv.of_ext x⟩
theorem num_all (B pb mb bud pars : Nat) (row : Value) (L : List Step) (g : Bool) (a1 a2 : Option Addr) (n1 c1 n2 c2 n d : Nat) (w : World) (hM : Mk w B pb mb row bud pars pars L)
    (h1 : IsN w (.slice a1 n1 c1) n) (h2 : IsN w (.slice a2 n2 c2) d) (ht1 : n < Top) (ht2 : d < Top) :
    Calls Tryz.prog 9 #[.pointer (some ⟨pb, 0, none⟩), .agg #[.bool g, .slice a1 n1 c1, .slice a2 n2 c2]] w
      (MkRes B pb mb bud row w (numR bud L g n d).1 (numR bud L g n d).2.1 pars (numR bud L g n d).2.2) := by
  by_cases hd : d = 0
  · subst hd
    refine (num_zero B pb mb bud pars row L g a1 a2 n1 c1 n2 c2 n w hM h1 h2 ht1).mono ?_
    rintro e w' ⟨_, rfl, E, rfl⟩
    have e0 : numR bud L g n 0 = (0, 2, L) := by unfold numR; rw [if_pos rfl]
    rw [e0]
    exact mkres_ext hM rfl E
  · have e0 : numR bud L g n d = putR bud L (numStep g n d) := by unfold numR; rw [if_neg hd]
    rw [e0]
    exact num_yes B pb mb bud pars row L g a1 a2 n1 c1 n2 c2 n d w hM h1 h2 ht1 ht2 hd

/-- A block apart from the maker's. -/
structure Has (w : World) (pb mb : Nat) (row : Value) (xb : Nat) (o : Obj) : Prop where
  blk : w.heap[xb]? = some o
  n1 : xb ≠ pb
  n2 : xb ≠ mb
  n3 : row.ownBlock ≠ some xb
theorem Has.lt {w : World} {pb mb xb : Nat} {row : Value} {o : Obj} (h : Has w pb mb row xb o) : xb < w.heap.size := (Array.getElem?_eq_some_iff.1 h.blk).1
theorem Has.ext {w w' : World} {pb mb xb : Nat} {row : Value} {o : Obj} (h : Has w pb mb row xb o) (e : Ext w w') : Has w' pb mb row xb o := ⟨e.block h.blk, h.n1, h.n2, h.n3⟩
theorem Has.mv {w w' : World} {pb mb xb : Nat} {row row' : Value} {o : Obj} (h : Has w pb mb row xb o) (m : Mv pb mb row row' w w') : Has w' pb mb row' xb o := by
  have hl := h.lt
  refine ⟨?_, h.n1, h.n2, ?_⟩
  · rw [m.block xb hl h.n1 h.n2 h.n3]; exact h.blk
  · rcases m.row with e | ⟨g, e, hg⟩
    · rw [e]; exact h.n3
    · rw [e]; intro h'; cases h'; omega
theorem Has.cell {w : World} {pb mb xb : Nat} {row : Value} {xs : Array Value} {t : TypeId} {fr : Nat × Nat} (h : Has w pb mb row xb (.cells xs t fr)) {k : Nat} {v : Value} (hk : xs[k]? = some v) : w.cell? ⟨xb, k, none⟩ = some v := by
  simp only [World.cell?, h.blk]
  simpa using hk
/-- What there is behind the call that a Call asks for. -/
def nextL (bud pars : Nat) (L : List Step) (what op : Nat) (A B : Int) (g : Bool) (n d : Nat) : List Step :=
  if what % 8 = 0 ∨ what % 8 = 1 then (numR bud L g n d).2.2
  else if what % 8 = 3 ∨ what % 8 = 4 then (stepR bud pars L (opStep op A 0) 4).2.2
  else if what % 8 = 5 ∨ what % 8 = 6 then (stepR bud pars L (opStep op A B) 3).2.2
  else L
theorem next_num {bud pars : Nat} {L : List Step} {what op : Nat} {A B : Int} {g : Bool} {n d : Nat} (h : what % 8 = 0 ∨ what % 8 = 1) : nextL bud pars L what op A B g n d = (numR bud L g n d).2.2 := by
  unfold nextL; rw [if_pos h]
theorem next_one {bud pars : Nat} {L : List Step} {what op : Nat} {A B : Int} {g : Bool} {n d : Nat} (h : what % 8 = 3 ∨ what % 8 = 4) : nextL bud pars L what op A B g n d = (stepR bud pars L (opStep op A 0) 4).2.2 := by
  unfold nextL; rw [if_neg (by omega), if_pos h]
theorem next_two {bud pars : Nat} {L : List Step} {what op : Nat} {A B : Int} {g : Bool} {n d : Nat} (h : what % 8 = 5 ∨ what % 8 = 6) : nextL bud pars L what op A B g n d = (stepR bud pars L (opStep op A B) 3).2.2 := by
  unfold nextL; rw [if_neg (by omega), if_neg (by omega), if_pos h]
theorem next_par {bud pars : Nat} {L : List Step} {what op : Nat} {A B : Int} {g : Bool} {n d : Nat} (h : what % 8 = 2 ∨ what % 8 = 7) : nextL bud pars L what op A B g n d = L := by
  unfold nextL; rw [if_neg (by omega), if_neg (by omega), if_neg (by omega)]
/-- One step of a row of steps. -/
theorem Steps.one {w : World} {a : Option Addr} {n c : Nat} {L : List Step} (h : Steps w a n c L) {i : Nat} (hi : i < n) : ∃ b off s, a = some ⟨b, off, none⟩ ∧ L[i]? = some s ∧ ∀ c', Steps w (some ⟨b, off + i * 6, none⟩) 1 c' [s] := by
  obtain ⟨b, off, s, ha, hs, hc⟩ := h.at hi
  refine ⟨b, off, s, ha, hs, fun c' => ⟨rfl, by omega, .inr ⟨b, off + i * 6, rfl, fun k t hk => ?_⟩⟩⟩
  match k, hk with
  | 0, hk => cases hk; rw [Nat.zero_mul, Nat.add_zero]; exact hc
  | k + 1, hk => simp at hk
theorem tells_nil (w : World) : Tells w none 0 0 [] := ⟨rfl, by omega, .inl rfl⟩
/-- What a maker makes may be. -/
theorem good_check {bud pars : Nat} {L : List Step} (h : Good bud pars L) (hl : L.length ≠ 0) : checkP pars ((L.length : Nat) - 1 : Int) L [] = 0 := by
  unfold checkP
  have := h.len
  have := h.bud1
  have := h.pars
  rw [if_pos]
  refine ⟨?_, (allR_iff _ _).2 h.right, (allT_iff _ _).2 fun i t ht => by cases ht⟩
  unfold headOk
  omega
theorem apart_sameR {L : List Step} (h : Apart L) {i k : Nat} {s t : Step} (hs : L[i]? = some s) (ht : L[k]? = some t) (hik : k < i) : sameR [s] [t] = false := by
  cases hh : sameR [s] [t] with
  | false => rfl
  | true =>
    have e := (sameR_iff _ _).1 hh
    cases e
    have := h _ _ _ _ hs ht rfl
    omega
theorem sameP_one {L : List Step} (h : Apart L) {i k : Nat} {s t : Step} (hs : L[i]? = some s) (ht : L[k]? = some t) (hik : k < i) : sameP 0 0 [s] [] 0 0 [t] [] = false := by
  unfold sameP
  rw [apart_sameR h hs ht hik]
  rfl
theorem sameP_self (p o : Int) (L : List Step) (T : List (ByteArray × Int)) : sameP p o L T p o L T = true := by
  unfold sameP
  rw [(sameR_iff L L).2 rfl]
  simp [sameT]
end Go.Proofs.YtbncdghbnnefdaaGreat

namespace Go.Proofs.YtbncdghbnnefdaaGreat
open Go.ChangeShapes Go.WideShapes Go.ChangeAt Go.RowKit Go.Deep

theorem u8_nat {n : Int} (h : (Lit.int .u8 n).wf = true) : ∃ m : Nat, n = m ∧ m < 256 := by
  have := h
  simp [Lit.wf, IntKind.min, IntKind.max, IntKind.bits, IntKind.signed] at this
  exact ⟨n.toNat, by omega, by omega⟩
theorem cell_spot {w : World} {a : Addr} {v : Value} (h : w.cell? a = some v) : a = ⟨a.block, a.off, none⟩ := by
  obtain ⟨b, o, s⟩ := a
  cases s with
  | none => rfl
  | some k =>
    unfold World.cell? at h
    split at h
    · simp at h
    · cases h
theorem asks_of {H : Type} {enc : TypeId × Value → H} {w : World} {held : Bool} {fuel : Nat} {c : Value} {x : DataW H × List MemPlace}
    (h : DataW.trod enc Tryz.prog w 0 (fun _ => true) held fuel 22 [c] = some x) : ∃ a n k, c = .slice a n k ∧ Asks w a n := by
  rcases open_slice Tryz.underlying22 h with ⟨hcs, _⟩ | ⟨a, len, cap, m, n, D, Pl, hcs, _, hl, hm, hmm, _, hx⟩
  · obtain rfl : c = .slice none 0 0 := by simpa using hcs
    exact ⟨_, _, _, rfl, Nat.zero_le _, .inl rfl⟩
  · obtain rfl : c = .slice (some a) len cap := by simpa using hcs
    refine ⟨_, _, _, rfl, Nat.le_trans hl hm, ?_⟩
    rw [if_pos rfl] at hmm
    by_cases h0 : len = 0
    · exact .inl h0
    · have key : ∀ i, i < len → ∃ cs', w.cells? 0 (a.add (i * 7)) 7 = some cs' ∧ DataW.trod enc Tryz.prog w 0 (fun _ => true) held n 37 cs' = some (D i, Pl i) := by
        intro i hi
        have := hx i (by omega)
        rw [show Tryz.prog.cellsOf 37 = 7 by kernel_rfl] at this
        exact this
      obtain ⟨b, off, sp⟩ := a
      obtain rfl : sp = none := by
        obtain ⟨cs', h1, h2⟩ := key 0 (by omega)
        obtain ⟨_, hlen, hc⟩ := World.cells?_some h1
        have := hc 0 (by omega)
        rw [List.getElem?_eq_getElem (by omega)] at this
        simp only [Nat.zero_mul, Addr.add, if_true] at this
        have := congrArg Addr.spot (cell_spot this)
        simpa using this
      refine .inr ⟨b, off, rfl, fun i hi => ?_⟩
      obtain ⟨cs', h1, h2⟩ := key i hi
      obtain ⟨p, q, A, B, g, a1, n1, k1, z1, a2, n2, k2, z2, rfl, w0, w1, w2, w3, r1, r2⟩ := call_value h2
      obtain ⟨p, rfl, hp⟩ := u8_nat w0
      obtain ⟨q, rfl, hq⟩ := u8_nat w1
      obtain ⟨_, hlen, hc⟩ := World.cells?_some h1
      have cell : ∀ j v, [.int .u8 p, .int .u8 q, .int .i64 A, .int .i64 B, .bool g, .slice a1 n1 k1, .slice a2 n2 k2][j]? = some v → w.cell? ⟨b, off + i * 7 + j, none⟩ = some v := by
        intro j v hj
        have hj7 := (List.getElem?_eq_some_iff.1 hj).1
        have := hc j (by simpa using hj7)
        rw [hj, add_add, Go.WideShapes.add_plain] at this
        rw [← this]
        congr 2
        omega
      exact ⟨p, q, A, B, g, a1, n1, k1, z1, a2, n2, k2, z2, hp, hq, w2, w3, r1, r2, cell 0 _ rfl, cell 1 _ rfl, cell 2 _ rfl, cell 3 _ rfl, cell 4 _ rfl, cell 5 _ rfl, cell 6 _ rfl⟩
end Go.Proofs.YtbncdghbnnefdaaGreat
