/- Parts of the proof: contracts of the functions that the law reaches, and the arithmetic that they rest on; no condition beyond those that each theorem states. -/
import Derived.Deep.Slices
import Derived.Test.YtbncdghbnnefdaaM15

namespace Go.Proofs.Ytbncdghbnnefdaa
open Go.RowKit

theorem small06 (g : Bool) (a1 a2 : Option Addr) (n1 c1 n2 c2 : Nat) (w : World) :
    Calls Try.prog 9 #[.agg #[.bool g, .slice a1 n1 c1, .slice a2 n2 c2]] w (Post w fun v _ => v = .bool (decide (n1 ≤ 3) && decide (n2 ≤ 3))) := by
  by_cases h1 : n1 ≤ 3
  · by_cases h2 : n2 ≤ 3
    · have k1 : ((n1 : Nat) : Int) ≤ 3 := by omega
      have k2 : ((n2 : Nat) : Int) ≤ 3 := by omega
      rw [decide_eq_true h1, decide_eq_true h2]
      go_enter Try.func9, Try.ntmps9
      go_wp2
      go_ret
      exact Post.mk (by repeat (first | with_reducible exact Ext.refl _ | with_reducible assumption | (with_reducible refine Ext.alloc ?_ _) | (with_reducible refine Ext.drew ?_) | (with_reducible refine Ext.drewN ?_ _) | (with_reducible refine Ext.set ?_ (by first | (simp; done) | (simp; omega)) _) | (with_reducible refine Ext.trans ?_ (by with_reducible assumption)))) rfl
    · have k1 : ((n1 : Nat) : Int) ≤ 3 := by omega
      have k2 : ¬ ((n2 : Nat) : Int) ≤ 3 := by omega
      rw [decide_eq_true h1, decide_eq_false h2]
      go_enter Try.func9, Try.ntmps9
      go_wp2
      go_ret
      exact Post.mk (by repeat (first | with_reducible exact Ext.refl _ | with_reducible assumption | (with_reducible refine Ext.alloc ?_ _) | (with_reducible refine Ext.drew ?_) | (with_reducible refine Ext.drewN ?_ _) | (with_reducible refine Ext.set ?_ (by first | (simp; done) | (simp; omega)) _) | (with_reducible refine Ext.trans ?_ (by with_reducible assumption)))) rfl
  · have k1 : ¬ ((n1 : Nat) : Int) ≤ 3 := by omega
    rw [decide_eq_false h1]
    go_enter Try.func9, Try.ntmps9
    go_wp2
    go_ret
    exact Post.mk (by repeat (first | with_reducible exact Ext.refl _ | with_reducible assumption | (with_reducible refine Ext.alloc ?_ _) | (with_reducible refine Ext.drew ?_) | (with_reducible refine Ext.drewN ?_ _) | (with_reducible refine Ext.set ?_ (by first | (simp; done) | (simp; omega)) _) | (with_reducible refine Ext.trans ?_ (by with_reducible assumption)))) rfl
set_option maxRecDepth 100000 in
set_option maxHeartbeats 8000000 in
theorem none_any (what op : Nat) (A B : Int) (g : Bool) (a1 a2 : Option Addr) (n1 c1 n2 c2 : Nat) (w : World) :
    Calls Try.prog 4 #[.agg #[.int .u8 what, .int .u8 op, .int .i64 A, .int .i64 B, .bool g, .slice a1 n1 c1, .slice a2 n2 c2]] w (Post w fun v _ => v = .bool true) := by
  obtain ⟨r, hr⟩ : ∃ r, r = (decide (n1 ≤ 3) && decide (n2 ≤ 3)) := ⟨_, rfl⟩
  have HS := Lib.hid (fun W => small06 g a1 a2 n1 c1 n2 c2 W)
  rw [← hr] at HS
  clear hr
  cases r
  · go_enter Try.func4, Try.ntmps4
    go_wp2_with fail
    refine (HS.out _).mono ?_
    rintro e w1 ⟨_, rfl, E1, rfl⟩
    go_wp2_with fail
    refine (head17 _).mono ?_
    rintro e w2 ⟨_, rfl, E2, rfl⟩
    go_wp2
    go_ret
    exact Post.mk (by repeat (first | with_reducible exact Ext.refl _ | with_reducible assumption | (with_reducible refine Ext.alloc ?_ _) | (with_reducible refine Ext.drew ?_) | (with_reducible refine Ext.drewN ?_ _) | (with_reducible refine Ext.set ?_ (by first | (simp; done) | (simp; omega)) _) | (with_reducible refine Ext.trans ?_ (by with_reducible assumption)))) rfl
  · go_enter Try.func4, Try.ntmps4
    go_wp2_with fail
    refine (HS.out _).mono ?_
    rintro e w1 ⟨_, rfl, E1, rfl⟩
    clear HS
    go_wp2_with fail
    obtain ⟨ab, hab⟩ : ∃ ab, ab = w.heap.size := ⟨_, rfl⟩
    obtain ⟨W0, hW0⟩ : ∃ W0, W0 = (w1.alloc (.cells #[.int .i64 0, .int .i64 0, .slice none 0 0, .map none] 54)).alloc (.cells #[.pointer none, .pointer (some ⟨w1.heap.size, 0, none⟩)] 23) := ⟨_, rfl⟩
    obtain ⟨zb, hzb⟩ : ∃ zb, zb = w1.heap.size := ⟨_, rfl⟩
    have EW : Ext w1 W0 := by rw [hW0]; exact (by repeat (first | with_reducible exact Ext.refl _ | with_reducible assumption | (with_reducible refine Ext.alloc ?_ _) | (with_reducible refine Ext.drew ?_) | (with_reducible refine Ext.drewN ?_ _) | (with_reducible refine Ext.set ?_ (by first | (simp; done) | (simp; omega)) _) | (with_reducible refine Ext.trans ?_ (by with_reducible assumption))))
    have EA : Ext w W0 := by rw [hW0]; exact (by repeat (first | with_reducible exact Ext.refl _ | with_reducible assumption | (with_reducible refine Ext.alloc ?_ _) | (with_reducible refine Ext.drew ?_) | (with_reducible refine Ext.drewN ?_ _) | (with_reducible refine Ext.set ?_ (by first | (simp; done) | (simp; omega)) _) | (with_reducible refine Ext.trans ?_ (by with_reducible assumption))))
    have c1' : W0.cell? ⟨ab, 1, none⟩ = some (.int .u8 op) := EW.cell (E1.cell (by rw [hab]; simp [go_sem]))
    have c2' : W0.cell? ⟨ab, 2, none⟩ = some (.int .i64 A) := EW.cell (E1.cell (by rw [hab]; simp [go_sem]))
    have c3' : W0.cell? ⟨ab, 3, none⟩ = some (.int .i64 B) := EW.cell (E1.cell (by rw [hab]; simp [go_sem]))
    have c4' : W0.cell? ⟨ab, 4, none⟩ = some (.bool g) := EW.cell (E1.cell (by rw [hab]; simp [go_sem]))
    have c5' : W0.cell? ⟨ab, 5, none⟩ = some (.slice a1 n1 c1) := EW.cell (E1.cell (by rw [hab]; simp [go_sem]))
    have c6' : W0.cell? ⟨ab, 6, none⟩ = some (.slice a2 n2 c2) := EW.cell (E1.cell (by rw [hab]; simp [go_sem]))
    have l0 : W0.cell? ⟨zb + 1, 0, none⟩ = some (.pointer none) := by rw [hW0, hzb]; simp [go_sem]
    have l1 : W0.cell? ⟨zb + 1, 1, none⟩ = some (.pointer (some ⟨zb, 0, none⟩)) := by rw [hW0, hzb]; simp [go_sem]
    have z3 : W0.cell? ⟨zb, 3, none⟩ = some (.map none) := by rw [hW0, hzb]; simp [go_sem]
    rw [← hW0, ← hzb, ← hab]
    clear hW0 hzb hab E1 EW
    go_loopw [5] (fun k wr => ∃ j : Nat, j ≤ 2 ∧ k = .int .i64 j ∧ Ext W0 wr) (fun k _ => 2 - (intOf k).toNat)
    case atStart => exact ⟨0, by omega, rfl, Ext.refl _⟩
    case round =>
      obtain ⟨j, hj, rfl, hext⟩ := hrel
      by_cases hlt : j < 2
      · have hm : ∃ p, wr.cell? ⟨zb + 1, j, none⟩ = some (.pointer p) ∧ NoMk wr p := by
          match j, hlt with
          | 0, _ => exact ⟨none, hext.cell l0, .inl rfl⟩
          | 1, _ => exact ⟨_, hext.cell l1, .inr ⟨zb, rfl, hext.cell z3⟩⟩
        obtain ⟨p, hp, hno⟩ := hm
        have hlt' : ((j : Nat) : Int) < 2 := by omega
        have d1 := hext.cell c1'
        have d2 := hext.cell c2'
        have d3 := hext.cell c3'
        have d4 := hext.cell c4'
        have d5 := hext.cell c5'
        have d6 := hext.cell c6'
        have HN := Lib.hid hno
        clear hno
        go_wp2_with fail
        refine (num_no HN.out g a1 a2 n1 c1 n2 c2).mono ?_
        rintro e w3 ⟨_, rfl, E, rfl⟩
        replace d1 := E.cell d1
        replace d2 := E.cell d2
        replace d3 := E.cell d3
        replace d4 := E.cell d4
        replace d5 := E.cell d5
        replace d6 := E.cell d6
        replace HN := Lib.hid (HN.out.ext E)
        replace hext := hext.trans E
        replace hp := E.cell hp
        clear E
        go_wp2_with fail
        refine (par_no HN.out).mono ?_
        rintro e w4 ⟨_, rfl, E, rfl⟩
        replace d1 := E.cell d1
        replace d2 := E.cell d2
        replace d3 := E.cell d3
        replace d4 := E.cell d4
        replace d5 := E.cell d5
        replace d6 := E.cell d6
        replace HN := Lib.hid (HN.out.ext E)
        replace hext := hext.trans E
        replace hp := E.cell hp
        clear E
        go_wp2_with fail
        refine (one_no HN.out op A).mono ?_
        rintro e w5 ⟨_, rfl, E, rfl⟩
        replace d1 := E.cell d1
        replace d2 := E.cell d2
        replace d3 := E.cell d3
        replace d4 := E.cell d4
        replace d5 := E.cell d5
        replace d6 := E.cell d6
        replace HN := Lib.hid (HN.out.ext E)
        replace hext := hext.trans E
        replace hp := E.cell hp
        clear E
        go_wp2_with fail
        refine (two_no HN.out op A B).mono ?_
        rintro e w6 ⟨_, rfl, E, rfl⟩
        replace d1 := E.cell d1
        replace d2 := E.cell d2
        replace d3 := E.cell d3
        replace d4 := E.cell d4
        replace d5 := E.cell d5
        replace d6 := E.cell d6
        replace HN := Lib.hid (HN.out.ext E)
        replace hext := hext.trans E
        replace hp := E.cell hp
        clear E
        go_wp2_with fail
        have HT := tape_no HN.out A none 0 0
        unfold zeroT at HT
        refine HT.mono ?_
        rintro e w7 ⟨_, rfl, E, rfl⟩
        replace d1 := E.cell d1
        replace d2 := E.cell d2
        replace d3 := E.cell d3
        replace d4 := E.cell d4
        replace d5 := E.cell d5
        replace d6 := E.cell d6
        replace HN := Lib.hid (HN.out.ext E)
        replace hext := hext.trans E
        replace hp := E.cell hp
        clear E
        clear HT
        go_wp2_with fail
        have EZ : Ext w7 (w7.alloc (.cells #[.int .i64 0, .int .i64 0, .slice none 0 0, .slice none 0 0] 46)) := Ext.of_alloc _ _
        refine (len_no (HN.out.ext EZ)).mono ?_
        rintro e w8 ⟨rfl, rfl⟩
        clear EZ
        go_wp2_with fail
        have hZ : ∀ W : World, IsTape W (.agg #[.int .i64 0, .int .i64 0, .slice none 0 0, .slice none 0 0]) 0 0 [] [] := fun W => ⟨none, 0, 0, none, 0, 0, rfl, ⟨rfl, by omega, .inl rfl⟩, ⟨rfl, by omega, .inl rfl⟩⟩
        have HE := tsame_any _ _ 0 0 0 0 [] [] [] [] _ (hZ (w7.alloc (.cells #[.int .i64 0, .int .i64 0, .slice none 0 0, .slice none 0 0] 46))) (hZ _)
        rw [show sameP 0 0 [] [] 0 0 [] [] = true from by decide] at HE
        refine HE.mono ?_
        rintro e w9 ⟨_, rfl, E9, rfl⟩
        clear HE
        have hext9 := (hext.alloc (.cells #[.int .i64 0, .int .i64 0, .slice none 0 0, .slice none 0 0] 46)).trans E9
        clear hext E9 d1 d2 d3 d4 d5 d6 hp
        go_wp2
        exact ⟨⟨j + 1, by omega, by go_num, hext9⟩, by simp [intOf]; omega⟩
      · have hlt' : ¬ ((j : Nat) : Int) < 2 := by omega
        go_wp2_with fail
        refine (head17 _).mono ?_
        rintro e w2 ⟨_, rfl, E2, rfl⟩
        go_wp2
        go_ret
        exact Post.mk (by repeat (first | with_reducible exact Ext.refl _ | with_reducible assumption | (with_reducible refine Ext.alloc ?_ _) | (with_reducible refine Ext.drew ?_) | (with_reducible refine Ext.drewN ?_ _) | (with_reducible refine Ext.set ?_ (by first | (simp; done) | (simp; omega)) _) | (with_reducible refine Ext.trans ?_ (by with_reducible assumption)))) rfl
end Go.Proofs.Ytbncdghbnnefdaa

namespace Go.Proofs.Ytbncdghbnnefdaa
open Go.RowKit

theorem find_new {L : List Step} {s : Step} (h : s ∈ L) : ∃ i, findS L s = some i ∧ i < L.length := by
  cases hf : findS L s with
  | none => exact absurd h (findS_none hf)
  | some i => exact ⟨i, rfl, (List.getElem?_eq_some_iff.1 (findS_some hf)).1⟩
theorem put_ok {bud : Nat} {L : List Step} {s : Step} (h : (putR bud L s).2.1 = 0) : (putR bud L s).1 < (putR bud L s).2.2.length := by
  unfold putR at *
  cases hf : findS L s with
  | some i => exact (List.getElem?_eq_some_iff.1 (findS_some hf)).1
  | none =>
    rw [hf] at h
    simp only at h ⊢
    split at h
    · cases h
    · rename_i hb
      rw [if_neg hb]; simp
theorem put_err {bud : Nat} {L : List Step} {s : Step} (h : (putR bud L s).2.1 ≠ 0) : (putR bud L s).2.2 = L := by
  unfold putR at *
  cases hf : findS L s with
  | some i => rfl
  | none =>
    rw [hf] at h
    simp only at h ⊢
    split at h
    · rename_i hb
      rw [if_pos hb]
    · exact absurd rfl h
theorem put_again (bud : Nat) (L : List Step) (s : Step) : (putR bud (putR bud L s).2.2 s).2.2 = (putR bud L s).2.2 := by
  by_cases h : s ∈ L
  · obtain ⟨i, hf, _⟩ := find_new h
    have e : (putR bud L s).2.2 = L := by unfold putR; rw [hf]
    rw [e, e]
  · by_cases hb : bud ≤ L.length
    · rw [put_full' h hb]
      show (putR bud L s).2.2 = L
      rw [put_full' h hb]
    · rw [put_new' h (by omega)]
      show (putR bud (L ++ [s]) s).2.2 = L ++ [s]
      obtain ⟨i, hf, _⟩ := find_new (L := L ++ [s]) (s := s) (by simp)
      unfold putR; rw [hf]
theorem step_ok {bud pars : Nat} {L : List Step} {s : Step} {k : Nat} (h : (stepR bud pars L s k).2.1 = 0) : (stepR bud pars L s k).1 < (stepR bud pars L s k).2.2.length := by
  unfold stepR at *
  split at h
  · rename_i hc; rw [if_pos hc]; exact put_ok h
  · cases h
theorem step_err {bud pars : Nat} {L : List Step} {s : Step} {k : Nat} (h : (stepR bud pars L s k).2.1 ≠ 0) : (stepR bud pars L s k).2.2 = L := by
  unfold stepR at *
  split at h
  · rename_i hc; rw [if_pos hc]; exact put_err h
  · rename_i hc; rw [if_neg hc]
theorem step_again (bud pars : Nat) (L : List Step) (s : Step) (k : Nat) : (stepR bud pars (stepR bud pars L s k).2.2 s k).2.2 = (stepR bud pars L s k).2.2 := by
  by_cases hc : fieldsN s.op = k ∧ rightP s L.length pars = true
  · have e : stepR bud pars L s k = putR bud L s := by unfold stepR; rw [if_pos hc]
    rw [e]
    by_cases hd : fieldsN s.op = k ∧ rightP s (putR bud L s).2.2.length pars = true
    · have e2 : stepR bud pars (putR bud L s).2.2 s k = putR bud (putR bud L s).2.2 s := by unfold stepR; rw [if_pos hd]
      rw [e2, put_again]
    · unfold stepR; rw [if_neg hd]
  · have e : stepR bud pars L s k = (0, 2, L) := by unfold stepR; rw [if_neg hc]
    rw [e]; show (stepR bud pars L s k).2.2 = L; rw [e]
/-- Num's answer. -/
def numR (bud : Nat) (L : List Step) (g : Bool) (n d : Nat) : Nat × Nat × List Step := if d = 0 then (0, 2, L) else putR bud L (numStep g n d)
theorem num_ok {bud : Nat} {L : List Step} {g : Bool} {n d : Nat} (h : (numR bud L g n d).2.1 = 0) : (numR bud L g n d).1 < (numR bud L g n d).2.2.length := by
  unfold numR at *
  split at h
  · cases h
  · rename_i hc; rw [if_neg hc]; exact put_ok h
theorem num_err {bud : Nat} {L : List Step} {g : Bool} {n d : Nat} (h : (numR bud L g n d).2.1 ≠ 0) : (numR bud L g n d).2.2 = L := by
  unfold numR at *
  split at h
  · rename_i hc; rw [if_pos hc]
  · rename_i hc; rw [if_neg hc]; exact put_err h
theorem num_again (bud : Nat) (L : List Step) (g : Bool) (n d : Nat) : (numR bud (numR bud L g n d).2.2 g n d).2.2 = (numR bud L g n d).2.2 := by
  by_cases hd : d = 0
  · have e : ∀ M, numR bud M g n d = (0, 2, M) := fun M => by unfold numR; rw [if_pos hd]
    rw [e, e]
  · have e : ∀ M, numR bud M g n d = putR bud M (numStep g n d) := fun M => by unfold numR; rw [if_neg hd]
    rw [e, e, put_again]

/-- One maker, in memory that the call has made. -/
structure Solo (w0 w : World) (p1 m1 : Nat) (r1 : Value) (b1 k1 : Nat) (L1 : List Step) : Prop where
  ext : Ext w0 w
  one : Mk w w0.heap.size p1 m1 r1 b1 k1 k1 L1
theorem Solo.more {w0 w w' : World} {p1 m1 b1 k1 : Nat} {r1 : Value} {L1 : List Step} (h : Solo w0 w p1 m1 r1 b1 k1 L1) (e : Ext w w') : Solo w0 w' p1 m1 r1 b1 k1 L1 := ⟨h.ext.trans e, h.one.kept e⟩
theorem Solo.turn {w0 w w' : World} {p1 m1 b1 k1 k1' : Nat} {r1 r1' : Value} {L1 L1' : List Step} (h : Solo w0 w p1 m1 r1 b1 k1 L1) (hM : Mk w' w0.heap.size p1 m1 r1' b1 k1' k1' L1') (hv : Mv p1 m1 r1 r1' w w') : Solo w0 w' p1 m1 r1' b1 k1' L1' := by
  obtain ⟨l1, l2, l3⟩ := h.one.lts
  refine ⟨⟨hv.os.trans h.ext.os, hv.tape.trans h.ext.tape, hv.output.trans h.ext.output, Nat.le_trans h.ext.size hv.size, fun k hk => ?_⟩, hM⟩
  have := h.ext.size
  rw [hv.block k (by omega) (by have := h.one.b1; omega) (by have := h.one.b2; omega) (fun e => by have := (l3 k e).1; omega)]
  exact Below.block h.ext k hk
theorem Solo.left {w0 w w' : World} {p1 m1 b1 k1 i er k1' : Nat} {r1 : Value} {L1 L1' : List Step} {e : Ending} (h : Solo w0 w p1 m1 r1 b1 k1 L1) (hr : MkRes w0.heap.size p1 m1 b1 r1 w i er k1' L1' e w') :
    ∃ r1', e = .returned (.tuple #[.int .i64 i, .int .i64 er]) ∧ Solo w0 w' p1 m1 r1' b1 k1' L1' ∧ Mv p1 m1 r1 r1' w w' := by
  obtain ⟨r1', he, hM, hv⟩ := hr
  exact ⟨r1', he, h.turn hM hv, hv⟩

theorem Raw.ext {w w' : World} {a : Option Addr} {len cap : Nat} {zs : List Int} (h : Raw w a len cap zs) (e : Ext w w') : Raw w' a len cap zs := by
  rcases h with h | ⟨x, h1, h2, h3, h4, h5, h6⟩
  · exact .inl h
  · exact .inr ⟨x, h1, h2, h3, h4, fun i hi => e.cell (h5 i hi), h6⟩
/-- Seven cells from here on are a Call. -/
def AskAt (w : World) (b o : Nat) : Prop := ∃ (p q : Nat) (A B : Int) (g : Bool) (a1 : Option Addr) (n1 c1 : Nat) (z1 : List Int) (a2 : Option Addr) (n2 c2 : Nat) (z2 : List Int),
  p < 256 ∧ q < 256 ∧ (Lit.int .i64 A).wf = true ∧ (Lit.int .i64 B).wf = true ∧ Raw w a1 n1 c1 z1 ∧ Raw w a2 n2 c2 z2 ∧
  w.cell? ⟨b, o, none⟩ = some (.int .u8 p) ∧ w.cell? ⟨b, o + 1, none⟩ = some (.int .u8 q) ∧ w.cell? ⟨b, o + 2, none⟩ = some (.int .i64 A) ∧ w.cell? ⟨b, o + 3, none⟩ = some (.int .i64 B) ∧
  w.cell? ⟨b, o + 4, none⟩ = some (.bool g) ∧ w.cell? ⟨b, o + 5, none⟩ = some (.slice a1 n1 c1) ∧ w.cell? ⟨b, o + 6, none⟩ = some (.slice a2 n2 c2)
theorem AskAt.ext {w w' : World} {b o : Nat} (h : AskAt w b o) (e : Ext w w') : AskAt w' b o := by
  obtain ⟨p, q, A, B, g, a1, n1, c1, z1, a2, n2, c2, z2, h1, h2, h3, h4, h5, h6, k0, k1, k2, k3, k4, k5, k6⟩ := h
  exact ⟨p, q, A, B, g, a1, n1, c1, z1, a2, n2, c2, z2, h1, h2, h3, h4, h5.ext e, h6.ext e, e.cell k0, e.cell k1, e.cell k2, e.cell k3, e.cell k4, e.cell k5, e.cell k6⟩
/-- The slice (a, n, c) reads as Calls. -/
structure Asks (w : World) (a : Option Addr) (n : Nat) : Prop where
  few : n ≤ maxLen
  at_ : n = 0 ∨ ∃ b off, a = some ⟨b, off, none⟩ ∧ ∀ i, i < n → AskAt w b (off + i * 7)
theorem Asks.ext {w w' : World} {a : Option Addr} {n : Nat} (h : Asks w a n) (e : Ext w w') : Asks w' a n := ⟨h.few, h.at_.imp id fun ⟨b, off, ha, hc⟩ => ⟨b, off, ha, fun i hi => (hc i hi).ext e⟩⟩
theorem Asks.at {w : World} {a : Option Addr} {n : Nat} (h : Asks w a n) {i : Nat} (hi : i < n) : ∃ b off, a = some ⟨b, off, none⟩ ∧ AskAt w b (off + i * 7) := by
  rcases h.at_ with h0 | ⟨b, off, ha, hc⟩
  · omega
  · exact ⟨b, off, ha, hc i hi⟩
theorem lt_top6 {m : Nat} (h : m < B64 ^ 6) : m < Top := top_of h (by omega)
end Go.Proofs.Ytbncdghbnnefdaa

namespace Go.Proofs.Ytbncdghbnnefdaa
open Go.RowKit

theorem mkres_ext {B pb mb bud pars : Nat} {row : Value} {L : List Step} {w w' : World} {i er : Nat} {e : Ending} (h : Mk w B pb mb row bud pars pars L) (he : e = .returned (.tuple #[.int .i64 i, .int .i64 er])) (x : Ext w w') :
    MkRes B pb mb bud row w i er pars L e w' := ⟨row, he, h.kept x, Mv.of_ext x⟩
theorem num_all (B pb mb bud pars : Nat) (row : Value) (L : List Step) (g : Bool) (a1 a2 : Option Addr) (n1 c1 n2 c2 n d : Nat) (w : World) (hM : Mk w B pb mb row bud pars pars L)
    (h1 : IsN w (.slice a1 n1 c1) n) (h2 : IsN w (.slice a2 n2 c2) d) (ht1 : n < Top) (ht2 : d < Top) :
    Calls Try.prog 11 #[.pointer (some ⟨pb, 0, none⟩), .agg #[.bool g, .slice a1 n1 c1, .slice a2 n2 c2]] w
      (MkRes B pb mb bud row w (numR bud L g n d).1 (numR bud L g n d).2.1 pars (numR bud L g n d).2.2) := by
  by_cases hd : d = 0
  · subst hd
    refine (num_zero B pb mb bud pars row L g a1 a2 n1 c1 n2 c2 n w hM h1 h2 ht1).mono ?_
    rintro e w' ⟨_, rfl, E, rfl⟩
    have e0 : numR bud L g n 0 = (0, 2, L) := by unfold numR; rw [if_pos rfl]
    rw [e0]
    exact mkres_ext hM rfl E
  · have e0 : numR bud L g n d = putR bud L (numStep g n d) := by unfold numR; rw [if_neg hd]
    rw [e0]
    exact num_yes B pb mb bud pars row L g a1 a2 n1 c1 n2 c2 n d w hM h1 h2 ht1 ht2 hd

/-- A block apart from the maker's. -/
structure Has (w : World) (pb mb : Nat) (row : Value) (xb : Nat) (o : Obj) : Prop where
  blk : w.heap[xb]? = some o
  n1 : xb ≠ pb
  n2 : xb ≠ mb
  n3 : row.ownBlock ≠ some xb
theorem Has.lt {w : World} {pb mb xb : Nat} {row : Value} {o : Obj} (h : Has w pb mb row xb o) : xb < w.heap.size := (Array.getElem?_eq_some_iff.1 h.blk).1
theorem Has.ext {w w' : World} {pb mb xb : Nat} {row : Value} {o : Obj} (h : Has w pb mb row xb o) (e : Ext w w') : Has w' pb mb row xb o := ⟨e.block h.blk, h.n1, h.n2, h.n3⟩
theorem Has.mv {w w' : World} {pb mb xb : Nat} {row row' : Value} {o : Obj} (h : Has w pb mb row xb o) (m : Mv pb mb row row' w w') : Has w' pb mb row' xb o := by
  have hl := h.lt
  refine ⟨?_, h.n1, h.n2, ?_⟩
  · rw [m.block xb hl h.n1 h.n2 h.n3]; exact h.blk
  · rcases m.row with e | ⟨g, e, hg⟩
    · rw [e]; exact h.n3
    · rw [e]; intro h'; cases h'; omega
theorem Has.cell {w : World} {pb mb xb : Nat} {row : Value} {xs : Array Value} {t : TypeId} {fr : Nat × Nat} (h : Has w pb mb row xb (.cells xs t fr)) {k : Nat} {v : Value} (hk : xs[k]? = some v) : w.cell? ⟨xb, k, none⟩ = some v := by
  simp only [World.cell?, h.blk]
  simpa using hk
/-- What there is behind the call that a Call asks for. -/
def nextL (bud pars : Nat) (L : List Step) (what op : Nat) (A B : Int) (g : Bool) (n d : Nat) : List Step :=
  if what % 8 = 0 ∨ what % 8 = 1 then (numR bud L g n d).2.2
  else if what % 8 = 3 ∨ what % 8 = 4 then (stepR bud pars L (opStep op A 0) 4).2.2
  else if what % 8 = 5 ∨ what % 8 = 6 then (stepR bud pars L (opStep op A B) 3).2.2
  else L
theorem next_num {bud pars : Nat} {L : List Step} {what op : Nat} {A B : Int} {g : Bool} {n d : Nat} (h : what % 8 = 0 ∨ what % 8 = 1) : nextL bud pars L what op A B g n d = (numR bud L g n d).2.2 := by
  unfold nextL; rw [if_pos h]
theorem next_one {bud pars : Nat} {L : List Step} {what op : Nat} {A B : Int} {g : Bool} {n d : Nat} (h : what % 8 = 3 ∨ what % 8 = 4) : nextL bud pars L what op A B g n d = (stepR bud pars L (opStep op A 0) 4).2.2 := by
  unfold nextL; rw [if_neg (by omega), if_pos h]
theorem next_two {bud pars : Nat} {L : List Step} {what op : Nat} {A B : Int} {g : Bool} {n d : Nat} (h : what % 8 = 5 ∨ what % 8 = 6) : nextL bud pars L what op A B g n d = (stepR bud pars L (opStep op A B) 3).2.2 := by
  unfold nextL; rw [if_neg (by omega), if_neg (by omega), if_pos h]
theorem next_par {bud pars : Nat} {L : List Step} {what op : Nat} {A B : Int} {g : Bool} {n d : Nat} (h : what % 8 = 2 ∨ what % 8 = 7) : nextL bud pars L what op A B g n d = L := by
  unfold nextL; rw [if_neg (by omega), if_neg (by omega), if_neg (by omega)]
/-- One step of a row of steps. -/
theorem Steps.one {w : World} {a : Option Addr} {n c : Nat} {L : List Step} (h : Steps w a n c L) {i : Nat} (hi : i < n) : ∃ b off s, a = some ⟨b, off, none⟩ ∧ L[i]? = some s ∧ ∀ c', Steps w (some ⟨b, off + i * 6, none⟩) 1 c' [s] := by
  obtain ⟨b, off, s, ha, hs, hc⟩ := h.at hi
  refine ⟨b, off, s, ha, hs, fun c' => ⟨rfl, by omega, .inr ⟨b, off + i * 6, rfl, fun k t hk => ?_⟩⟩⟩
  match k, hk with
  | 0, hk => cases hk; rw [Nat.zero_mul, Nat.add_zero]; exact hc
  | k + 1, hk => simp at hk
theorem tells_nil (w : World) : Tells w none 0 0 [] := ⟨rfl, by omega, .inl rfl⟩
/-- What a maker makes may be. -/
theorem good_check {bud pars : Nat} {L : List Step} (h : Good bud pars L) (hl : L.length ≠ 0) : checkP pars ((L.length : Nat) - 1 : Int) L [] = 0 := by
  unfold checkP
  have := h.len
  have := h.bud1
  have := h.pars
  rw [if_pos]
  refine ⟨?_, (allR_iff _ _).2 h.right, (allT_iff _ _).2 fun i t ht => by cases ht⟩
  unfold headOk
  omega
theorem apart_sameR {L : List Step} (h : Apart L) {i k : Nat} {s t : Step} (hs : L[i]? = some s) (ht : L[k]? = some t) (hik : k < i) : sameR [s] [t] = false := by
  cases hh : sameR [s] [t] with
  | false => rfl
  | true =>
    have e := (sameR_iff _ _).1 hh
    cases e
    have := h _ _ _ _ hs ht rfl
    omega
theorem sameP_one {L : List Step} (h : Apart L) {i k : Nat} {s t : Step} (hs : L[i]? = some s) (ht : L[k]? = some t) (hik : k < i) : sameP 0 0 [s] [] 0 0 [t] [] = false := by
  unfold sameP
  rw [apart_sameR h hs ht hik]
  rfl
theorem sameP_self (p o : Int) (L : List Step) (T : List (ByteArray × Int)) : sameP p o L T p o L T = true := by
  unfold sameP
  rw [(sameR_iff L L).2 rfl]
  simp [sameT]
end Go.Proofs.Ytbncdghbnnefdaa

namespace Go.Proofs.Ytbncdghbnnefdaa
open Go.RowKit

theorem cell_set_some {w : World} {p q : Addr} {u x : Value} (h : w.cell? q = some x) : ∃ y, (w.setCell p u).cell? q = some y := by
  by_cases e : p = q
  · subst e
    exact ⟨u, World.cell?_setCell_same w p u h⟩
  · exact ⟨x, by rw [World.cell?_setCell_other _ _ _ _ e]; exact h⟩
theorem cells_at {cells : List Value} {i : Nat} {u : List Value} (h : (cells.drop (6 * i)).take 6 = u) {j : Nat} (hj : j < 6) : cells[6 * i + j]? = u[j]? := by
  rw [← h, List.getElem?_take_of_lt hj, List.getElem?_drop]
/-- The row of a tape that is written: its block, and each step's limbs, lie from N0 on and ahead of lim. -/
structure Wr (w : World) (N0 lim g n : Nat) : Prop where
  cellA : ∀ i, i < n → ∃ x, w.cell? ⟨g, i * 6 + 1, none⟩ = some x
  limbs : ∀ i, i < n → ∃ ai ni ci, w.cell? ⟨g, i * 6 + 4, none⟩ = some (.slice ai ni ci) ∧ ni ≤ 2048 ∧ (ni = 0 ∨ ∃ gi, ai = some ⟨gi, 0, none⟩ ∧ gi ≠ g ∧ N0 ≤ gi ∧ gi < lim ∧ (∀ k, w.frozen? ⟨gi, k, none⟩ = false) ∧ ∀ k, k < ni → ∃ x, w.cell? ⟨gi, k, none⟩ = some x)
  fr : ∀ k, w.frozen? ⟨g, k, none⟩ = false
theorem Wr.set {w : World} {N0 lim g n : Nat} (h : Wr w N0 lim g n) {p : Addr} {u : Value} (hp : p.block = g → ∃ i, p = ⟨g, i * 6 + 1, none⟩) : Wr (w.setCell p u) N0 lim g n := by
  refine ⟨fun i hi => ?_, fun i hi => ?_, fun k => by rw [World.frozen?_setCell]; exact h.fr k⟩
  · obtain ⟨x, hx⟩ := h.cellA i hi
    exact cell_set_some hx
  · obtain ⟨ai, ni, ci, h1, h2, h3⟩ := h.limbs i hi
    refine ⟨ai, ni, ci, ?_, h2, h3.imp id fun ⟨gi, k1, k2, k3, k4, k5, k6⟩ => ⟨gi, k1, k2, k3, k4, fun k => by rw [World.frozen?_setCell]; exact k5 k, fun k hk => ?_⟩⟩
    · rw [World.cell?_setCell_other]
      · exact h1
      · intro e
        obtain ⟨i', hi'⟩ := hp (by rw [e])
        rw [e] at hi'
        have := congrArg Addr.off hi'
        simp only at this
        omega
    · obtain ⟨x, hx⟩ := k6 k hk
      exact cell_set_some hx
theorem Wr.of {w : World} {B : Nat} {v : Value} {L : List Step} {cells : List Value} (h : ORow w B v L cells) (hf : ∀ s ∈ L, Few s) (hl : L ≠ []) :
    ∃ g c, v = .slice (some ⟨g, 0, none⟩) L.length c ∧ B ≤ g ∧ g < w.heap.size ∧ Wr w B w.heap.size g L.length := by
  have hne : cells ≠ [] := by
    intro e
    have := h.own.1.1
    rw [e] at this
    simp only [List.length_nil] at this
    exact hl (List.eq_nil_of_length_eq_zero (by omega))
  obtain ⟨a, c, rfl⟩ := h.form
  have hrow := h.own.1
  rcases h.own.1.2 with ⟨_, h0⟩ | ⟨g, cap, cur, hv, hb, hg, h1, h2, h3, h4⟩
  · exact absurd (List.eq_nil_of_length_eq_zero h0) hl
  · cases hv
    obtain ⟨g', hg', hb', hc⟩ := ownsRow_cell hrow hne
    cases hg'
    refine ⟨g, _, rfl, hb, (Array.getElem?_eq_some_iff.1 hg).1, ⟨fun i hi => ?_, fun i hi => ?_, fun k => by simp [World.frozen?, hg]⟩⟩
    · obtain ⟨u, ⟨v1, v2, hu, k1, k2⟩, hcell⟩ := h.steps i L[i] (List.getElem?_eq_getElem hi)
      have hcell := cells_at hcell (j := 1) (by omega)
      cases hu
      exact ⟨_, by rw [show i * 6 + 1 = 6 * i + 1 by omega]; exact hc _ _ hcell⟩
    · obtain ⟨u, ⟨v1, v2, hu, k1, k2⟩, hcell⟩ := h.steps i L[i] (List.getElem?_eq_getElem hi)
      have hcell := cells_at hcell (j := 4) (by omega)
      cases hu
      have hcell' := hc _ _ hcell
      obtain ⟨f0, f1, f2, f3, f4⟩ := hf L[i] (List.getElem_mem hi)
      rcases k1.2 with ⟨rfl, e0⟩ | ⟨g1, cap1, cur1, rfl, b1, q1, q2, q3, q4, q5⟩
      · exact ⟨none, 0, 0, by rw [show i * 6 + 4 = 6 * i + 4 by omega]; exact hcell', by omega, .inl rfl⟩
      · refine ⟨_, _, _, by rw [show i * 6 + 4 = 6 * i + 4 by omega]; exact hcell', f1, .inr ⟨g1, rfl, ?_, b1, (Array.getElem?_eq_some_iff.1 q1).1, fun k => by simp [World.frozen?, q1], fun k hk => ?_⟩⟩
        · intro e
          subst e
          rw [hg] at q1
          simp at q1
        · refine ⟨cur1[k]'(by omega), ?_⟩
          simp only [World.cell?, q1]
          simp [show k < cur1.size by omega]
/-- All blocks from N0 on stay. -/
def Up (N0 : Nat) (w w' : World) : Prop := ∀ k, N0 ≤ k → k < w.heap.size → w'.heap[k]? = w.heap[k]?
theorem Mv.up {pb mb N0 : Nat} {row row' : Value} {w w' : World} (m : Mv pb mb row row' w w') (h1 : pb < N0) (h2 : mb < N0) (h3 : ∀ k, row.ownBlock = some k → k < N0) : Up N0 w w' :=
  fun k hk hl => m.block k hl (by omega) (by omega) (fun e => by have := h3 k e; omega)
theorem Up.ownsRow {w w' : World} {N0 B e size n : Nat} {v : Value} {xs : List Value} (u : Up N0 w w') (hB : N0 ≤ B) (h : w.ownsRow B e size v n xs) : w'.ownsRow B e size v n xs := by
  refine ⟨h.1, ?_⟩
  rcases h.2 with h0 | ⟨g, cap, cur, h0, h1, h2, h3⟩
  · exact .inl h0
  · exact .inr ⟨g, cap, cur, h0, h1, (u g (by omega) (Array.getElem?_eq_some_iff.1 h2).1).trans h2, h3⟩
theorem Up.orow {w w' : World} {N0 B : Nat} {v : Value} {L : List Step} {cells : List Value} (u : Up N0 w w') (hB : N0 ≤ B) (h : ORow w B v L cells) : ORow w' B v L cells :=
  ⟨h.own.kept fun k hk => u k (by have := (h.own.lt k hk).1; omega) (h.own.lt k hk).2, fun i s hi => (h.steps i s hi).imp fun _ ⟨⟨v1, v2, e, h1, h2⟩, hc⟩ => ⟨⟨v1, v2, e, u.ownsRow hB h1, u.ownsRow hB h2⟩, hc⟩⟩
theorem Up.cell {w w' : World} {N0 : Nat} (u : Up N0 w w') {p : Addr} {v : Value} (hp : N0 ≤ p.block) (h : w.cell? p = some v) : w'.cell? p = some v := by
  unfold World.cell? at *
  rw [u p.block hp (World.block_lt_of_cell? w p h)]
  exact h

/-- While a tape is turned: the maker's memory stays, and the other tape, and the two tapes' heads. -/
structure Turn (W0 w : World) (ta tb g N0 Bb ca pars n : Nat) (rvb tvb : Value) (L : List Step) (T : List (ByteArray × Int)) : Prop where
  ext : Ext W0 w
  row : ∃ cells, ORow w Bb rvb L cells
  tel : OwnT w Bb tvb T
  wr : Wr w N0 ta g n
  ca : w.cell? ⟨ta, 2, none⟩ = some (.slice (some ⟨g, 0, none⟩) n ca)
  cb0 : w.cell? ⟨tb, 0, none⟩ = some (.int .i64 pars)
  cb1 : w.cell? ⟨tb, 1, none⟩ = some (.int .i64 0)
  cb2 : w.cell? ⟨tb, 2, none⟩ = some rvb
  cb3 : w.cell? ⟨tb, 3, none⟩ = some tvb
  l0 : W0.heap.size = N0
  l1 : ta < Bb
  l2 : Bb ≤ tb
  l3 : g < ta
  l4 : N0 ≤ g
theorem Turn.set {W0 w : World} {ta tb g N0 Bb ca pars n : Nat} {rvb tvb : Value} {L : List Step} {T : List (ByteArray × Int)} (h : Turn W0 w ta tb g N0 Bb ca pars n rvb tvb L T) {p : Addr} {u : Value}
    (h1 : p.block < ta) (h2 : N0 ≤ p.block) (hp : p.block = g → ∃ i, p = ⟨g, i * 6 + 1, none⟩) : Turn W0 (w.setCell p u) ta tb g N0 Bb ca pars n rvb tvb L T := by
  have q1 := h.l1
  have q2 := h.l2
  have o : ∀ b k v, ta ≤ b → w.cell? ⟨b, k, none⟩ = some v → (w.setCell p u).cell? ⟨b, k, none⟩ = some v := by
    intro b k v hb hv
    rw [World.cell?_setCell_other _ _ _ _ (by intro e; rw [e] at h1; simp at h1; omega)]
    exact hv
  refine ⟨Below.setCell h.ext (by rw [h.l0]; exact h2) u, h.row.imp fun _ hr => hr.set (by omega) u, ?_, h.wr.set hp, o _ _ _ (Nat.le_refl _) h.ca, o _ _ _ (by omega) h.cb0, o _ _ _ (by omega) h.cb1, o _ _ _ (by omega) h.cb2, o _ _ _ (by omega) h.cb3, h.l0, h.l1, h.l2, h.l3, h.l4⟩
  exact ownsRow_set h.tel (by omega) u
theorem Steps.take {w : World} {a : Option Addr} {n c m : Nat} {L M : List Step} (h : Steps w a n c L) (hm : m ≤ n) (he : L.take m = M) (c' : Nat) : Steps w a m c' M := by
  have hl := h.len
  subst he
  refine ⟨by rw [List.length_take]; omega, Nat.le_trans hm h.few, ?_⟩
  rcases h.at_ with h0 | ⟨b, off, ha, hc⟩
  · exact .inl (by omega)
  · refine .inr ⟨b, off, ha, fun i s hi => hc i s ?_⟩
    have hi' := (List.getElem?_eq_some_iff.1 hi).1
    rw [List.length_take] at hi'
    rw [List.getElem?_take_of_lt (by omega)] at hi
    exact hi
theorem frozen_ext {w w' : World} {p : Addr} (e : Ext w w') (h : p.block < w.heap.size) : w'.frozen? p = w.frozen? p := by
  unfold World.frozen?
  rw [Below.block e p.block h]
theorem Wr.ext {w w' : World} {N0 lim g n : Nat} (h : Wr w N0 lim g n) (e : Ext w w') (hl : lim ≤ w.heap.size) (hg : g < w.heap.size) : Wr w' N0 lim g n :=
  ⟨fun i hi => (h.cellA i hi).imp fun _ hx => e.cell hx,
   fun i hi => by
    obtain ⟨ai, ni, ci, h1, h2, h3⟩ := h.limbs i hi
    exact ⟨ai, ni, ci, e.cell h1, h2, h3.imp id fun ⟨gi, k1, k2, k3, k4, k5, k6⟩ => ⟨gi, k1, k2, k3, k4, fun k => by rw [frozen_ext e (by show gi < _; omega)]; exact k5 k, fun k hk => (k6 k hk).imp fun _ hx => e.cell hx⟩⟩,
   fun k => by rw [frozen_ext e (by show g < _; omega)]; exact h.fr k⟩
theorem Wr.mono {w : World} {N0 M0 lim g n : Nat} (h : Wr w N0 lim g n) (hm : M0 ≤ N0) : Wr w M0 lim g n :=
  ⟨h.cellA, fun i hi => by
    obtain ⟨ai, ni, ci, h1, h2, h3⟩ := h.limbs i hi
    exact ⟨ai, ni, ci, h1, h2, h3.imp id fun ⟨gi, k1, k2, k3, k4, k5⟩ => ⟨gi, k1, k2, Nat.le_trans hm k3, k4, k5⟩⟩, h.fr⟩
theorem put_pre (bud : Nat) (L : List Step) (s : Step) : ∃ M, (putR bud L s).2.2 = L ++ M := by
  by_cases h : s ∈ L
  · obtain ⟨i, hf, _⟩ := find_new h
    exact ⟨[], by unfold putR; rw [hf]; simp⟩
  · by_cases hb : bud ≤ L.length
    · exact ⟨[], by rw [put_full' h hb]; simp⟩
    · exact ⟨[s], by rw [put_new' h (by omega)]⟩
theorem step_pre (bud pars : Nat) (L : List Step) (s : Step) (k : Nat) : ∃ M, (stepR bud pars L s k).2.2 = L ++ M := by
  unfold stepR
  split
  · exact put_pre bud L s
  · exact ⟨[], by simp⟩
theorem num_pre (bud : Nat) (L : List Step) (g : Bool) (n d : Nat) : ∃ M, (numR bud L g n d).2.2 = L ++ M := by
  unfold numR
  split
  · exact ⟨[], by simp⟩
  · exact put_pre bud L _
theorem good_check0 {bud pars : Nat} {L : List Step} {x : ByteArray} (h : Good bud pars L) (hl : L ≠ []) : checkP pars 0 L [(x, 0)] = 0 := by
  unfold checkP
  have := h.len
  have := h.bud1
  have := h.pars
  have hl' : L.length ≠ 0 := fun e => hl (List.eq_nil_of_length_eq_zero e)
  rw [if_pos]
  refine ⟨?_, (allR_iff _ _).2 h.right, (allT_iff _ _).2 fun i t ht => ?_⟩
  · unfold headOk
    omega
  · match i, ht with
    | 0, ht => cases ht; simp; omega
    | i + 1, ht => simp at ht
theorem tells_one {w : World} {b : Nat} {x : ByteArray} (h0 : w.cell? ⟨b, 0, none⟩ = some (.string x)) (h1 : w.cell? ⟨b, 1, none⟩ = some (.int .i64 0)) : Tells w (some ⟨b, 0, none⟩) 1 1 [(x, 0)] :=
  ⟨rfl, by omega, .inr ⟨b, 0, rfl, fun i t ht => by
    match i, ht with
    | 0, ht => cases ht; exact ⟨h0, h1⟩
    | i + 1, ht => simp at ht⟩⟩
end Go.Proofs.Ytbncdghbnnefdaa

namespace Go.Proofs.Ytbncdghbnnefdaa
open Go.ChangeShapes Go.WideShapes Go.ChangeAt Go.RowKit Go.Deep

theorem u8_nat {n : Int} (h : (Lit.int .u8 n).wf = true) : ∃ m : Nat, n = m ∧ m < 256 := by
  have := h
  simp [Lit.wf, IntKind.min, IntKind.max, IntKind.bits, IntKind.signed] at this
  exact ⟨n.toNat, by omega, by omega⟩
theorem cell_spot {w : World} {a : Addr} {v : Value} (h : w.cell? a = some v) : a = ⟨a.block, a.off, none⟩ := by
  obtain ⟨b, o, s⟩ := a
  cases s with
  | none => rfl
  | some k =>
    unfold World.cell? at h
    split at h
    · simp at h
    · cases h
theorem asks_of {H : Type} {enc : TypeId × Value → H} {w : World} {held : Bool} {fuel : Nat} {c : Value} {x : DataW H × List MemPlace}
    (h : DataW.trod enc Try.prog w 0 (fun _ => true) held fuel 22 [c] = some x) : ∃ a n k, c = .slice a n k ∧ Asks w a n := by
  rcases open_slice Try.underlying22 h with ⟨hcs, _⟩ | ⟨a, len, cap, m, n, D, Pl, hcs, _, hl, hm, hmm, _, hx⟩
  · obtain rfl : c = .slice none 0 0 := by simpa using hcs
    exact ⟨_, _, _, rfl, Nat.zero_le _, .inl rfl⟩
  · obtain rfl : c = .slice (some a) len cap := by simpa using hcs
    refine ⟨_, _, _, rfl, Nat.le_trans hl hm, ?_⟩
    rw [if_pos rfl] at hmm
    by_cases h0 : len = 0
    · exact .inl h0
    · have key : ∀ i, i < len → ∃ cs', w.cells? 0 (a.add (i * 7)) 7 = some cs' ∧ DataW.trod enc Try.prog w 0 (fun _ => true) held n 35 cs' = some (D i, Pl i) := by
        intro i hi
        have := hx i (by omega)
        rw [show Try.prog.cellsOf 35 = 7 by kernel_rfl] at this
        exact this
      obtain ⟨b, off, sp⟩ := a
      obtain rfl : sp = none := by
        obtain ⟨cs', h1, h2⟩ := key 0 (by omega)
        obtain ⟨_, hlen, hc⟩ := World.cells?_some h1
        have := hc 0 (by omega)
        rw [List.getElem?_eq_getElem (by omega)] at this
        simp only [Nat.zero_mul, Addr.add, if_true] at this
        have := congrArg Addr.spot (cell_spot this)
        simpa using this
      refine .inr ⟨b, off, rfl, fun i hi => ?_⟩
      obtain ⟨cs', h1, h2⟩ := key i hi
      obtain ⟨p, q, A, B, g, a1, n1, k1, z1, a2, n2, k2, z2, rfl, w0, w1, w2, w3, r1, r2⟩ := call_value h2
      obtain ⟨p, rfl, hp⟩ := u8_nat w0
      obtain ⟨q, rfl, hq⟩ := u8_nat w1
      obtain ⟨_, hlen, hc⟩ := World.cells?_some h1
      have cell : ∀ j v, [.int .u8 p, .int .u8 q, .int .i64 A, .int .i64 B, .bool g, .slice a1 n1 k1, .slice a2 n2 k2][j]? = some v → w.cell? ⟨b, off + i * 7 + j, none⟩ = some v := by
        intro j v hj
        have hj7 := (List.getElem?_eq_some_iff.1 hj).1
        have := hc j (by simpa using hj7)
        rw [hj, add_add, Go.WideShapes.add_plain] at this
        rw [← this]
        congr 2
        omega
      exact ⟨p, q, A, B, g, a1, n1, k1, z1, a2, n2, k2, z2, hp, hq, w2, w3, r1, r2, cell 0 _ rfl, cell 1 _ rfl, cell 2 _ rfl, cell 3 _ rfl, cell 4 _ rfl, cell 5 _ rfl, cell 6 _ rfl⟩
end Go.Proofs.Ytbncdghbnnefdaa
