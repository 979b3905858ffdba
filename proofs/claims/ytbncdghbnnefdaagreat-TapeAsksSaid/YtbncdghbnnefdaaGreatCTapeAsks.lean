/- The law 'TapeAsks' returns true for every input, and leaves what it was handed as it was: no condition. -/
import Derived.WalkKit
import Derived.ProofKit
import Derived.OpenShut
import Derived.ShutString
import Derived.ChangeOld
import Derived.Below
import Derived.Lib.SmallJoins
import Derived.Test.YtbncdghbnnefdaaGreatRows
import Derived.Test.YtbncdghbnnefdaaGreatM15
import Derived.Test.YtbncdghbnnefdaaGreatM16
import Derived.Test.YtbncdghbnnefdaaGreatM17
import Derived.Test.YtbncdghbnnefdaaGreatM21

namespace Go.Proofs.YtbncdghbnnefdaaGreat
open Go.RowKit

theorem list_of {α : Type} {P : Nat → α → Prop} : ∀ n, (∀ i, i < n → ∃ a, P i a) → ∃ L : List α, L.length = n ∧ ∀ (i : Nat) (a : α), L[i]? = some a → P i a
  | 0, _ => ⟨[], rfl, fun i a h => by simp at h⟩
  | n + 1, h => by
    obtain ⟨L, hl, hL⟩ := list_of n (fun i hi => h i (by omega))
    obtain ⟨a, ha⟩ := h n (by omega)
    refine ⟨L ++ [a], by simp [hl], fun i x hx => ?_⟩
    by_cases hi : i < L.length
    · rw [List.getElem?_append_left hi] at hx
      exact hL i x hx
    · have hi' : i = L.length := by have := (List.getElem?_eq_some_iff.1 hx).1; simp at this; omega
      subst hi'
      rw [List.getElem?_concat_length] at hx
      cases hx
      rw [hl]
      exact ha
/-- Six cells from here on are a step as it is handed in. -/
def NodeAt (w : World) (b o : Nat) : Prop := ∃ (p : Nat) (A B : Int) (g : Bool) (a1 : Option Addr) (n1 c1 : Nat) (z1 : List Int) (a2 : Option Addr) (n2 c2 : Nat) (z2 : List Int),
  p < 256 ∧ (Lit.int .i64 A).wf = true ∧ (Lit.int .i64 B).wf = true ∧ Raw w a1 n1 c1 z1 ∧ Raw w a2 n2 c2 z2 ∧
  w.cell? ⟨b, o, none⟩ = some (.int .u8 p) ∧ w.cell? ⟨b, o + 1, none⟩ = some (.int .i64 A) ∧ w.cell? ⟨b, o + 2, none⟩ = some (.int .i64 B) ∧
  w.cell? ⟨b, o + 3, none⟩ = some (.bool g) ∧ w.cell? ⟨b, o + 4, none⟩ = some (.slice a1 n1 c1) ∧ w.cell? ⟨b, o + 5, none⟩ = some (.slice a2 n2 c2)
def TellAt (w : World) (b o : Nat) : Prop := ∃ (s : ByteArray) (i : Int), s.size ≤ maxLen ∧ w.cell? ⟨b, o, none⟩ = some (.string s) ∧ w.cell? ⟨b, o + 1, none⟩ = some (.int .i64 i)
theorem NodeAt.ext {w w' : World} {b o : Nat} (h : NodeAt w b o) (e : Ext w w') : NodeAt w' b o := by
  obtain ⟨p, A, B, g, a1, n1, c1, z1, a2, n2, c2, z2, h1, h2, h3, h4, h5, k0, k1, k2, k3, k4, k5⟩ := h
  exact ⟨p, A, B, g, a1, n1, c1, z1, a2, n2, c2, z2, h1, h2, h3, h4.ext e, h5.ext e, e.cell k0, e.cell k1, e.cell k2, e.cell k3, e.cell k4, e.cell k5⟩
/-- A row of elements, each of so many cells. -/
structure Rows_ (w : World) (P : World → Nat → Nat → Prop) (size : Nat) (a : Option Addr) (n : Nat) : Prop where
  few : n ≤ maxLen
  at_ : n = 0 ∨ ∃ b off, a = some ⟨b, off, none⟩ ∧ ∀ i, i < n → P w b (off + i * size)
theorem Rows_.at {w : World} {P : World → Nat → Nat → Prop} {size : Nat} {a : Option Addr} {n : Nat} (h : Rows_ w P size a n) {i : Nat} (hi : i < n) : ∃ b off, a = some ⟨b, off, none⟩ ∧ P w b (off + i * size) := by
  rcases h.at_ with h0 | ⟨b, off, ha, hc⟩
  · omega
  · exact ⟨b, off, ha, hc i hi⟩
theorem Rows_.steps {w : World} {a : Option Addr} {n : Nat} {Q : Step → Prop} (h : n ≤ 65536) (hs : n = 0 ∨ ∃ b off, a = some ⟨b, off, none⟩ ∧ ∀ i, i < n → ∃ s, StepCell w b (off + i * 6) s ∧ Q s) : ∃ L, (∀ s ∈ L, Q s) ∧ ∀ c, Steps w a n c L := by
  rcases hs with h0 | ⟨b, off, ha, hc⟩
  · subst h0
    exact ⟨[], (fun s hs => by cases hs), fun c => ⟨rfl, h, .inl rfl⟩⟩
  · obtain ⟨L, hl, hL⟩ := list_of (P := fun i s => StepCell w b (off + i * 6) s ∧ Q s) n hc
    exact ⟨L, fun s hs => by obtain ⟨i, hi⟩ := List.getElem?_of_mem hs; exact (hL i s hi).2, fun c => ⟨hl, h, .inr ⟨b, off, ha, fun i s hi => (hL i s hi).1⟩⟩⟩
/-- The step's number has three limbs at most. -/
def Low (s : Step) : Prop := s.xs.length ≤ 3 ∧ s.ys.length ≤ 3
theorem Rows_.tells {w : World} {a : Option Addr} {n : Nat} (h : Rows_ w TellAt 2 a n) (hf : n ≤ 65536) : ∃ T, ∀ c, Tells w a n c T := by
  rcases h.at_ with h0 | ⟨b, off, ha, hc⟩
  · subst h0
    exact ⟨[], fun c => ⟨rfl, hf, .inl rfl⟩⟩
  · obtain ⟨T, hl, hT⟩ := list_of (P := fun i (t : ByteArray × Int) => w.cell? ⟨b, off + i * 2, none⟩ = some (.string t.1) ∧ w.cell? ⟨b, off + i * 2 + 1, none⟩ = some (.int .i64 t.2)) n (fun i hi => by
      obtain ⟨s, x, _, h1, h2⟩ := hc i hi
      exact ⟨(s, x), h1, h2⟩)
    exact ⟨T, fun c => ⟨hl, hf, .inr ⟨b, off, ha, hT⟩⟩⟩
/-- What Small's truth says. -/
def SmallT (w : World) (a1 : Option Addr) (n1 : Nat) (a2 : Option Addr) (n2 : Nat) : Prop := n1 ≤ 200 ∧ (∃ L, (∀ s ∈ L, Low s) ∧ ∀ c, Steps w a1 n1 c L) ∧ ∃ T, ∀ c, Tells w a2 n2 c T

def SmallR (w : World) (a1 : Option Addr) (n1 : Nat) (a2 : Option Addr) (n2 : Nat) (v : Value) : Prop := ∃ r, v = .bool r ∧ (r = true → SmallT w a1 n1 a2 n2)

set_option maxRecDepth 100000 in
set_option maxHeartbeats 8000000 in
theorem small17 (pars out : Int) (a1 a2 : Option Addr) (n1 c1 n2 c2 : Nat) (w : World) (h1 : Rows_ w NodeAt 6 a1 n1) (h2 : Rows_ w TellAt 2 a2 n2) :
    Calls Tryz.prog 21 #[.agg #[.int .i64 pars, .int .i64 out, .slice a1 n1 c1, .slice a2 n2 c2]] w (Post w fun v _ => SmallR w a1 n1 a2 n2 v) := by
  have F1 := h1.few
  have F2 := h2.few
  unfold maxLen at F1 F2
  by_cases g1 : n1 ≤ 200
  · by_cases g2 : n2 ≤ 50
    · have g1' : ¬ (200 : Int) < n1 := by omega
      have g2' : ¬ (50 : Int) < n2 := by omega
      have H1 := Lib.hid h1
      have H2 := Lib.hid h2
      have HT := Lib.hid (h2.tells (by omega))
      clear h1 h2
      go_enter Tryz.func21, Tryz.ntmps21
      go_wp2_with fail
      obtain ⟨tb, htb⟩ : ∃ tb, tb = w.heap.size := ⟨_, rfl⟩
      obtain ⟨W0, hW0⟩ : ∃ W0, W0 = w.alloc (.cells #[.int .i64 pars, .int .i64 out, .slice a1 n1 c1, .slice a2 n2 c2] 53) := ⟨_, rfl⟩
      have E0 : Ext w W0 := by rw [hW0]; exact Ext.of_alloc _ _
      have y2 : W0.cell? ⟨tb, 2, none⟩ = some (.slice a1 n1 c1) := by rw [hW0, htb]; simp [go_sem]
      have y3 : W0.cell? ⟨tb, 3, none⟩ = some (.slice a2 n2 c2) := by rw [hW0, htb]; simp [go_sem]
      rw [← hW0, ← htb]
      clear hW0 htb
      go_loopw [3] (fun k wr => ∃ j : Nat, j ≤ n1 ∧ k = .int .i64 j ∧ Ext W0 wr ∧ Hid (∀ b off, a1 = some ⟨b, off, none⟩ → ∀ i, i < j → ∃ s, StepCell w b (off + i * 6) s ∧ Low s)) (fun k _ => n1 - (intOf k).toNat)
      case atStart => exact ⟨0, Nat.zero_le _, rfl, Ext.refl _, Lib.hid (fun _ _ _ i hi => by omega)⟩
      case round =>
        obtain ⟨j, hj, rfl, hext, hall⟩ := hrel
        have x2 := hext.cell y2
        by_cases hlt : j < n1
        · obtain ⟨b, off, rfl, p, A, B, g, a3, n3, c3, z3, a4, n4, c4, z4, hp, hA, hB, hr1, hr2, k0, k1, k2, k3, k4, k5⟩ := H1.out.at hlt
          have hlt' : ((j : Nat) : Int) < n1 := by omega
          obtain ⟨r, hr⟩ : ∃ r, r = (decide (n3 ≤ 3) && decide (n4 ≤ 3)) := ⟨_, rfl⟩
          have HM := Lib.hid (fun W => small06 g a3 a4 n3 c3 n4 c4 W)
          rw [← hr] at HM
          have HK : Hid (r = true → ∃ s, StepCell w b (off + j * 6) s ∧ Low s) := Lib.hid (by
            intro e
            rw [hr] at e
            simp at e
            exact ⟨⟨p, A, B, g, rawL n3 z3, rawL n4 z4⟩, ⟨a3, n3, c3, a4, n4, c4, k0, k1, k2, k3, k4, k5, hr1.nums (by omega), hr2.nums (by omega), hp, by omega, by omega⟩, by rw [(hr1.nums (show n3 ≤ 65535 by omega)).len]; exact e.1, by rw [(hr2.nums (show n4 ≤ 65535 by omega)).len]; exact e.2⟩)
          have EE := E0.trans hext
          replace k3 := EE.cell k3
          replace k4 := EE.cell k4
          replace k5 := EE.cell k5
          clear hr hr1 hr2 k0 k1 k2 hp hA hB EE
          go_wp2_with fail
          refine (HM.out _).mono ?_
          rintro e w2 ⟨_, rfl, E2, rfl⟩
          clear HM
          cases r
          · go_wp2
            go_ret
            exact Post.mk ((E0.trans hext).trans E2) ⟨false, rfl, fun h => by cases h⟩
          · have hall' : Hid (∀ b' off', some (⟨b, off, none⟩ : Addr) = some ⟨b', off', none⟩ → ∀ i, i < j + 1 → ∃ s, StepCell w b' (off' + i * 6) s ∧ Low s) := Lib.hid (by
              intro b' off' e i hi
              cases e
              by_cases e' : i = j
              · subst e'; exact HK.out rfl
              · exact hall.out b off rfl i (by omega))
            have hx2 := hext.trans E2
            clear hext E2 k3 k4 k5 hall HK
            go_wp2
            go_roundw
            case rel => exact ⟨j + 1, by omega, by go_num, hx2, hall'⟩
            case measure => simp [intOf]; omega
        · have hlt' : ¬ ((j : Nat) : Int) < n1 := by omega
          have x3 := hext.cell y3
          have HL : Hid (∃ L, (∀ s ∈ L, Low s) ∧ ∀ c, Steps w a1 n1 c L) := Lib.hid (Rows_.steps (by omega) (by
            rcases H1.out.at_ with h0 | ⟨b, off, ha, _⟩
            · exact .inl h0
            · exact .inr ⟨b, off, ha, fun i hi => hall.out b off ha i (by omega)⟩))
          clear hall
          go_wp2_with fail
          go_loopw [4] (fun k wq => ∃ i : Nat, i ≤ n2 ∧ k = .int .i64 i ∧ Ext W0 wq) (fun k _ => n2 - (intOf k).toNat)
          case atStart => exact ⟨0, Nat.zero_le _, rfl, hext⟩
          case round =>
            clear hext x2 x3
            obtain ⟨i, hi, rfl, hext⟩ := hrel
            have x3 := hext.cell y3
            by_cases hlt2 : i < n2
            · obtain ⟨b, off, rfl, s, x, hs, q0, q1⟩ := H2.out.at hlt2
              have hlt2' : ((i : Nat) : Int) < n2 := by omega
              replace q0 := (E0.trans hext).cell q0
              unfold maxLen at hs
              by_cases hsz : (200 : Int) < s.size
              · go_wp2
                go_ret
                exact Post.mk (E0.trans hext) ⟨false, rfl, fun h => by cases h⟩
              · go_wp2
                go_roundw
                case rel => exact ⟨i + 1, by omega, by go_num, hext⟩
                case measure => simp [intOf]; omega
            · have hlt2' : ¬ ((i : Nat) : Int) < n2 := by omega
              go_wp2
              go_ret
              exact Post.mk (E0.trans hext) ⟨true, rfl, fun _ => ⟨g1, HL.out, HT.out⟩⟩
    · have g1' : ¬ (200 : Int) < n1 := by omega
      have g2' : (50 : Int) < n2 := by omega
      clear h1 h2
      go_enter Tryz.func21, Tryz.ntmps21
      go_wp2
      go_ret
      exact Post.mk (by repeat (first | with_reducible exact Ext.refl _ | with_reducible assumption | (with_reducible refine Ext.alloc ?_ _) | (with_reducible refine Ext.drew ?_) | (with_reducible refine Ext.drewN ?_ _) | (with_reducible refine Ext.set ?_ (by first | (simp; done) | (simp; omega)) _) | (with_reducible refine Ext.trans ?_ (by with_reducible assumption)))) ⟨false, rfl, fun h => by cases h⟩
  · have g1' : (200 : Int) < n1 := by omega
    clear h1 h2
    go_enter Tryz.func21, Tryz.ntmps21
    go_wp2
    go_ret
    exact Post.mk (by repeat (first | with_reducible exact Ext.refl _ | with_reducible assumption | (with_reducible refine Ext.alloc ?_ _) | (with_reducible refine Ext.drew ?_) | (with_reducible refine Ext.drewN ?_ _) | (with_reducible refine Ext.set ?_ (by first | (simp; done) | (simp; omega)) _) | (with_reducible refine Ext.trans ?_ (by with_reducible assumption)))) ⟨false, rfl, fun h => by cases h⟩
end Go.Proofs.YtbncdghbnnefdaaGreat

namespace Go.Proofs.YtbncdghbnnefdaaGreat
open Go.ChangeShapes Go.WideShapes Go.ChangeAt Go.RowKit Go.Deep

theorem rows_of {H : Type} {enc : TypeId × Value → H} {w : World} {held : Bool} {fuel : Nat} {c : Value} {x : DataW H × List MemPlace} {P : World → Nat → Nat → Prop} {size : Nat} {t e : TypeId}
    (ht : Tryz.prog.underlying t = some (.slice e)) (hc : Tryz.prog.cellsOf e = size) (h0 : 0 < size)
    (hP : ∀ b o cs' n y, cs'.length = size → (∀ j, j < size → w.cell? ⟨b, o + j, none⟩ = cs'[j]?) → DataW.trod enc Tryz.prog w 0 (fun _ => true) held n e cs' = some y → P w b o)
    (h : DataW.trod enc Tryz.prog w 0 (fun _ => true) held fuel t [c] = some x) : ∃ a n k, c = .slice a n k ∧ Rows_ w P size a n := by
  rcases open_slice ht h with ⟨hcs, _⟩ | ⟨a, len, cap, m, n, D, Pl, hcs, _, hl, hm, hmm, _, hx⟩
  · obtain rfl : c = .slice none 0 0 := by simpa using hcs
    exact ⟨_, _, _, rfl, Nat.zero_le _, .inl rfl⟩
  · obtain rfl : c = .slice (some a) len cap := by simpa using hcs
    refine ⟨_, _, _, rfl, Nat.le_trans hl hm, ?_⟩
    rw [if_pos rfl] at hmm
    rw [hc] at hx
    by_cases hz : len = 0
    · exact .inl hz
    · obtain ⟨b, off, sp⟩ := a
      obtain rfl : sp = none := by
        obtain ⟨cs', h1, h2⟩ := hx 0 (by omega)
        obtain ⟨_, hlen, hcc⟩ := World.cells?_some h1
        have := hcc 0 h0
        rw [List.getElem?_eq_getElem (by omega)] at this
        simp only [Nat.zero_mul, Addr.add, if_true] at this
        have := congrArg Addr.spot (cell_spot this)
        simpa using this
      refine .inr ⟨b, off, rfl, fun i hi => ?_⟩
      obtain ⟨cs', h1, h2⟩ := hx i (by omega)
      obtain ⟨_, hlen, hcc⟩ := World.cells?_some h1
      refine hP b _ cs' n _ hlen (fun j hj => ?_) h2
      have := hcc j hj
      rw [add_add, Go.WideShapes.add_plain] at this
      rw [← this, Nat.add_assoc]
theorem list6 {α : Type} {l : List α} (h : l.length = 6) : ∃ c0 c1 c2 c3 c4 c5, l = [c0, c1, c2, c3, c4, c5] := by
  match l, h with
  | [c0, c1, c2, c3, c4, c5], _ => exact ⟨c0, c1, c2, c3, c4, c5, rfl⟩
theorem list4 {α : Type} {l : List α} (h : l.length = 4) : ∃ c0 c1 c2 c3, l = [c0, c1, c2, c3] := by
  match l, h with
  | [c0, c1, c2, c3], _ => exact ⟨c0, c1, c2, c3, rfl⟩
theorem node_at {H : Type} {enc : TypeId × Value → H} {w : World} {held : Bool} {fuel : Nat} {cs : List Value} {x : DataW H × List MemPlace} {b o : Nat}
    (hl : cs.length = 6) (hc : ∀ j, j < 6 → w.cell? ⟨b, o + j, none⟩ = cs[j]?) (h : DataW.trod enc Tryz.prog w 0 (fun _ => true) held fuel 78 cs = some x) : NodeAt w b o := by
  obtain ⟨xs, n, _, _, _, hx, hf⟩ := DataW.trod_struct Tryz.underlying78 h
  obtain ⟨c0, c1, c2, c3, c4, c5, rfl⟩ := list6 hl
  obtain ⟨x0, x1, x2, x3, rfl⟩ := list4 hx
  have h0 : DataW.trod enc Tryz.prog w 0 (fun _ => true) held n 5 (([c0, c1, c2, c3, c4, c5].drop 0).take (Tryz.prog.cellsOf 5)) = some x0 := hf 0 _ rfl
  have h1 : DataW.trod enc Tryz.prog w 0 (fun _ => true) held n 3 (([c0, c1, c2, c3, c4, c5].drop 1).take (Tryz.prog.cellsOf 3)) = some x1 := hf 1 _ rfl
  have h2 : DataW.trod enc Tryz.prog w 0 (fun _ => true) held n 3 (([c0, c1, c2, c3, c4, c5].drop 2).take (Tryz.prog.cellsOf 3)) = some x2 := hf 2 _ rfl
  have h3 : DataW.trod enc Tryz.prog w 0 (fun _ => true) held n 35 (([c0, c1, c2, c3, c4, c5].drop 3).take (Tryz.prog.cellsOf 35)) = some x3 := hf 3 _ rfl
  rw [show Tryz.prog.cellsOf 5 = 1 by kernel_rfl] at h0
  rw [show Tryz.prog.cellsOf 3 = 1 by kernel_rfl] at h1 h2
  rw [show Tryz.prog.cellsOf 35 = 3 by kernel_rfl] at h3
  obtain ⟨xs, m, _, _, _, hx, hf⟩ := DataW.trod_struct Tryz.underlying35 h3
  obtain ⟨x5, x6, rfl⟩ := list2 hx
  have h5 : DataW.trod enc Tryz.prog w 0 (fun _ => true) held m 33 (([c3, c4, c5].drop 0).take (Tryz.prog.cellsOf 33)) = some x5 := hf 0 _ rfl
  have h6 : DataW.trod enc Tryz.prog w 0 (fun _ => true) held m 31 (([c3, c4, c5].drop 2).take (Tryz.prog.cellsOf 31)) = some x6 := hf 1 _ rfl
  rw [show Tryz.prog.cellsOf 33 = 2 by kernel_rfl] at h5
  rw [show Tryz.prog.cellsOf 31 = 1 by kernel_rfl] at h6
  obtain ⟨xs, l, _, _, _, hx, hf⟩ := DataW.trod_struct Tryz.underlying33 h5
  obtain ⟨x7, x8, rfl⟩ := list2 hx
  have h7 : DataW.trod enc Tryz.prog w 0 (fun _ => true) held l 4 (([c3, c4].drop 0).take (Tryz.prog.cellsOf 4)) = some x7 := hf 0 _ rfl
  have h8 : DataW.trod enc Tryz.prog w 0 (fun _ => true) held l 31 (([c3, c4].drop 1).take (Tryz.prog.cellsOf 31)) = some x8 := hf 1 _ rfl
  rw [show Tryz.prog.cellsOf 4 = 1 by kernel_rfl] at h7
  rw [show Tryz.prog.cellsOf 31 = 1 by kernel_rfl] at h8
  obtain ⟨p, e0, _, w0⟩ := DataW.trod_int Tryz.underlying5 h0
  obtain ⟨A, e1, _, w1⟩ := DataW.trod_int Tryz.underlying3 h1
  obtain ⟨B, e2, _, w2⟩ := DataW.trod_int Tryz.underlying3 h2
  obtain ⟨g, e3, _⟩ := DataW.trod_bool Tryz.underlying4 h7
  obtain ⟨a1, n1, k1, z1, e4, r1⟩ := raw_of h8
  obtain ⟨a2, n2, k2, z2, e5, r2⟩ := raw_of h6
  simp only [List.drop_zero, List.drop_succ_cons, List.take_succ_cons, List.take_zero, List.cons.injEq, and_true] at e0 e1 e2 e3
  subst e0 e1 e2 e3 e4 e5
  obtain ⟨p, rfl, hp⟩ := u8_nat w0
  exact ⟨p, A, B, g, a1, n1, k1, z1, a2, n2, k2, z2, hp, w1, w2, r1, r2, hc 0 (by omega), hc 1 (by omega), hc 2 (by omega), hc 3 (by omega), hc 4 (by omega), hc 5 (by omega)⟩
theorem tell_at {H : Type} {enc : TypeId × Value → H} {w : World} {held : Bool} {fuel : Nat} {cs : List Value} {x : DataW H × List MemPlace} {b o : Nat}
    (hl : cs.length = 2) (hc : ∀ j, j < 2 → w.cell? ⟨b, o + j, none⟩ = cs[j]?) (h : DataW.trod enc Tryz.prog w 0 (fun _ => true) held fuel 57 cs = some x) : TellAt w b o := by
  obtain ⟨xs, n, _, _, _, hx, hf⟩ := DataW.trod_struct Tryz.underlying57 h
  obtain ⟨c0, c1, rfl⟩ := list2 hl
  obtain ⟨x0, x1, rfl⟩ := list2 hx
  have h0 : DataW.trod enc Tryz.prog w 0 (fun _ => true) held n 9 (([c0, c1].drop 0).take (Tryz.prog.cellsOf 9)) = some x0 := hf 0 _ rfl
  have h1 : DataW.trod enc Tryz.prog w 0 (fun _ => true) held n 3 (([c0, c1].drop 1).take (Tryz.prog.cellsOf 3)) = some x1 := hf 1 _ rfl
  rw [show Tryz.prog.cellsOf 9 = 1 by kernel_rfl] at h0
  rw [show Tryz.prog.cellsOf 3 = 1 by kernel_rfl] at h1
  obtain ⟨s, e0, _, hs⟩ := DataW.trod_string Tryz.underlying9 h0
  obtain ⟨A, e1, _, w1⟩ := DataW.trod_int Tryz.underlying3 h1
  simp only [List.drop_zero, List.drop_succ_cons, List.take_succ_cons, List.take_zero, List.cons.injEq, and_true] at e0 e1
  subst e0 e1
  exact ⟨s, A, hs, hc 0 (by omega), hc 1 (by omega)⟩
theorem tape_value {H : Type} {enc : TypeId × Value → H} {w : World} {held : Bool} {fuel : Nat} {cs : List Value} {x : DataW H × List MemPlace}
    (h : DataW.trod enc Tryz.prog w 0 (fun _ => true) held fuel 53 cs = some x) :
    ∃ (P O : Int) (a1 : Option Addr) (n1 k1 : Nat) (a2 : Option Addr) (n2 k2 : Nat), cs = [.int .i64 P, .int .i64 O, .slice a1 n1 k1, .slice a2 n2 k2] ∧
      (Lit.int .i64 P).wf = true ∧ (Lit.int .i64 O).wf = true ∧ Rows_ w NodeAt 6 a1 n1 ∧ Rows_ w TellAt 2 a2 n2 := by
  obtain ⟨xs, n, _, _, hl, hx, hf⟩ := DataW.trod_struct Tryz.underlying53 h
  have hl4 : cs.length = 4 := hl.trans (by kernel_rfl)
  obtain ⟨c0, c1, c2, c3, rfl⟩ := list4 hl4
  obtain ⟨x0, x1, x2, x3, rfl⟩ := list4 hx
  have h0 : DataW.trod enc Tryz.prog w 0 (fun _ => true) held n 3 (([c0, c1, c2, c3].drop 0).take (Tryz.prog.cellsOf 3)) = some x0 := hf 0 _ rfl
  have h1 : DataW.trod enc Tryz.prog w 0 (fun _ => true) held n 3 (([c0, c1, c2, c3].drop 1).take (Tryz.prog.cellsOf 3)) = some x1 := hf 1 _ rfl
  have h2 : DataW.trod enc Tryz.prog w 0 (fun _ => true) held n 50 (([c0, c1, c2, c3].drop 2).take (Tryz.prog.cellsOf 50)) = some x2 := hf 2 _ rfl
  have h3 : DataW.trod enc Tryz.prog w 0 (fun _ => true) held n 51 (([c0, c1, c2, c3].drop 3).take (Tryz.prog.cellsOf 51)) = some x3 := hf 3 _ rfl
  rw [show Tryz.prog.cellsOf 3 = 1 by kernel_rfl] at h0 h1
  rw [show Tryz.prog.cellsOf 50 = 1 by kernel_rfl] at h2
  rw [show Tryz.prog.cellsOf 51 = 1 by kernel_rfl] at h3
  obtain ⟨P, e0, _, w0⟩ := DataW.trod_int Tryz.underlying3 h0
  obtain ⟨O, e1, _, w1⟩ := DataW.trod_int Tryz.underlying3 h1
  simp only [List.drop_zero, List.drop_succ_cons, List.take_succ_cons, List.take_zero, List.cons.injEq, and_true] at e0 e1
  subst e0 e1
  obtain ⟨a1, n1, k1, rfl, r1⟩ := rows_of (P := NodeAt) Tryz.underlying50 (by kernel_rfl) (by omega) (fun b o cs' n y hl hc ht => node_at hl hc ht) h2
  obtain ⟨a2, n2, k2, rfl, r2⟩ := rows_of (P := TellAt) Tryz.underlying51 (by kernel_rfl) (by omega) (fun b o cs' n y hl hc ht => tell_at hl hc ht) h3
  exact ⟨P, O, a1, n1, k1, a2, n2, k2, rfl, w0, w1, r1, r2⟩
end Go.Proofs.YtbncdghbnnefdaaGreat

namespace Go.Proofs.YtbncdghbnnefdaaGreat
open Go.RowKit

theorem sm_up7 {j k m : Nat} (h : Sm j m) (hk : j ≤ k) : Sm k m := Nat.lt_of_lt_of_le h (Nat.pow_le_pow_right B64_pos hk)
theorem sm_low {w : World} {a : Option Addr} {n c : Nat} {L : List Step} (h : Steps w a n c L) (hl : ∀ s ∈ L, Low s) : SmL L := by
  intro s hs
  obtain ⟨i, hi⟩ := List.getElem?_of_mem hs
  have hil := (List.getElem?_eq_some_iff.1 hi).1
  rcases h.at_ with h0 | ⟨b, off, _, hc⟩
  · have := h.len; omega
  · obtain ⟨a1, n1, c1, a2, n2, c2, _, _, _, _, _, _, k1, k2, _⟩ := hc i s hi
    have hw := hl s hs
    exact ⟨sm_up7 (j := s.xs.length) (val_lt k1.lt) (by have := hw.1; omega), sm_up7 (j := s.ys.length) (val_lt k2.lt) (by have := hw.2; omega)⟩
theorem RowsN.ext {w w' : World} {a : Option Addr} {n : Nat} (h : Rows_ w NodeAt 6 a n) (e : Ext w w') : Rows_ w' NodeAt 6 a n :=
  ⟨h.few, h.at_.imp id fun ⟨b, off, ha, hc⟩ => ⟨b, off, ha, fun i hi => (hc i hi).ext e⟩⟩
theorem RowsT.ext {w w' : World} {a : Option Addr} {n : Nat} (h : Rows_ w TellAt 2 a n) (e : Ext w w') : Rows_ w' TellAt 2 a n :=
  ⟨h.few, h.at_.imp id fun ⟨b, off, ha, hc⟩ => ⟨b, off, ha, fun i hi => by obtain ⟨s, x, h1, h2, h3⟩ := hc i hi; exact ⟨s, x, h1, e.cell h2, e.cell h3⟩⟩⟩

set_option linter.unusedSimpArgs false in
set_option maxRecDepth 100000 in
set_option maxHeartbeats 16000000 in
theorem asks_law0 (p o p' o' : Int) (a1 a2 a3 a4 : Option Addr) (n1 c1 n2 c2 n3 c3 n4 c4 : Nat) (w0 : World) (h1 : Rows_ w0 NodeAt 6 a1 n1) (h2 : Rows_ w0 TellAt 2 a2 n2) (h3 : Rows_ w0 NodeAt 6 a3 n3) (h4 : Rows_ w0 TellAt 2 a4 n4) :
    Calls Tryz.prog 4 #[.agg #[.int .i64 p, .int .i64 o, .slice a1 n1 c1, .slice a2 n2 c2], .agg #[.int .i64 p', .int .i64 o', .slice a3 n3 c3, .slice a4 n4 c4]] w0 (Post w0 fun v _ => v = .bool true) := by
  have HR1 := Lib.hid (fun W (e : Ext w0 W) => small17 p o a1 a2 n1 c1 n2 c2 W (RowsN.ext h1 e) (RowsT.ext h2 e))
  have HR2 := Lib.hid (fun W (e : Ext w0 W) => small17 p' o' a3 a4 n3 c3 n4 c4 W (RowsN.ext h3 e) (RowsT.ext h4 e))
  clear h1 h2 h3 h4
  go_enter Tryz.func4, Tryz.ntmps4
  go_wp2_with fail
  obtain ⟨tb, htb⟩ : ∃ tb, tb = w0.heap.size := ⟨_, rfl⟩
  obtain ⟨ub, hub⟩ : ∃ ub, ub = w0.heap.size + 1 := ⟨_, rfl⟩
  obtain ⟨W0, hW0⟩ : ∃ W0, W0 = (w0.alloc (.cells #[.int .i64 p, .int .i64 o, .slice a1 n1 c1, .slice a2 n2 c2] 53)).alloc (.cells #[.int .i64 p', .int .i64 o', .slice a3 n3 c3, .slice a4 n4 c4] 53) := ⟨_, rfl⟩
  have z0 : W0.cell? ⟨tb, 0, none⟩ = some (.int .i64 p) := by rw [hW0, htb]; simp [go_sem]
  have z1 : W0.cell? ⟨tb, 1, none⟩ = some (.int .i64 o) := by rw [hW0, htb]; simp [go_sem]
  have z2 : W0.cell? ⟨tb, 2, none⟩ = some (.slice a1 n1 c1) := by rw [hW0, htb]; simp [go_sem]
  have z3 : W0.cell? ⟨tb, 3, none⟩ = some (.slice a2 n2 c2) := by rw [hW0, htb]; simp [go_sem]
  have y0 : W0.cell? ⟨ub, 0, none⟩ = some (.int .i64 p') := by rw [hW0, hub]; simp [go_sem]
  have y1 : W0.cell? ⟨ub, 1, none⟩ = some (.int .i64 o') := by rw [hW0, hub]; simp [go_sem]
  have y2 : W0.cell? ⟨ub, 2, none⟩ = some (.slice a3 n3 c3) := by rw [hW0, hub]; simp [go_sem]
  have y3 : W0.cell? ⟨ub, 3, none⟩ = some (.slice a4 n4 c4) := by rw [hW0, hub]; simp [go_sem]
  have HEw : Hid (Ext w0 W0) := Lib.hid (by rw [hW0]; exact (Ext.of_alloc _ _).alloc _)
  rw [← hub, ← htb, ← hW0]
  clear htb hub hW0
  refine (HR1.out W0 HEw.out).mono ?_
  rintro e w1 ⟨v, rfl, E1, r1, rfl, hT1⟩
  have HTa := Lib.hid hT1
  clear hT1 HR1
  replace z0 := E1.cell z0
  replace z1 := E1.cell z1
  replace z2 := E1.cell z2
  replace z3 := E1.cell z3
  replace y0 := E1.cell y0
  replace y1 := E1.cell y1
  replace y2 := E1.cell y2
  replace y3 := E1.cell y3
  have EW1 := Lib.hid (HEw.out.trans E1)
  have HE1 := Lib.hid E1
  clear E1
  cases r1
  · go_wp2_with fail
    refine (head17 _).mono ?_
    rintro e w2 ⟨_, rfl, E2, rfl⟩
    go_wp2
    go_ret
    exact Post.mk (EW1.out.trans E2) rfl
  go_wp2_with fail
  refine (HR2.out _ EW1.out).mono ?_
  rintro e w2 ⟨v, rfl, E2, r2, rfl, hT2⟩
  have HTb := Lib.hid hT2
  clear hT2 HR2
  replace z0 := E2.cell z0
  replace z1 := E2.cell z1
  replace z2 := E2.cell z2
  replace z3 := E2.cell z3
  replace y0 := E2.cell y0
  replace y1 := E2.cell y1
  replace y2 := E2.cell y2
  replace y3 := E2.cell y3
  have EW := Lib.hid (EW1.out.trans E2)
  have HE2 := Lib.hid E2
  clear E2
  cases r2
  · go_wp2_with fail
    refine (head17 _).mono ?_
    rintro e w3 ⟨_, rfl, E3, rfl⟩
    go_wp2
    go_ret
    exact Post.mk (EW.out.trans E3) rfl
  obtain ⟨_, ⟨L, hlow, hL⟩, ⟨T, hTT⟩⟩ := HTa.out (by first | rfl | trivial)
  obtain ⟨_, ⟨M, _, hM⟩, ⟨U, hUU⟩⟩ := HTb.out (by first | rfl | trivial)
  have hs1 := ((hL c1).ext HE1.out).ext HE2.out
  have ht1 := ((hTT c2).ext HE1.out).ext HE2.out
  have hs2 := (hM c3).ext HE2.out
  have ht2 := (hUU c4).ext HE2.out
  have HM1 := Lib.hid (sm_low (hL c1) hlow)
  have EWw := Lib.hid EW.out
  obtain ⟨w, hw⟩ : ∃ w, w = w2 := ⟨_, rfl⟩
  have HS1 := Lib.hid hs1
  have HT1 := Lib.hid ht1
  have HS2 := Lib.hid hs2
  have HT2 := Lib.hid ht2
  clear hw hL hTT hM hUU hlow hs1 ht1 hs2 ht2 HTa HTb EW EW1 HE1 HE2
  have EW := Lib.hid (Ext.refl w2)
  go_wp2_with fail
  refine wp_region_T (fun _ => True) (fun w' : World => w'.cell? ⟨tb, 0, none⟩ = some (.int .i64 p) ∧ w'.cell? ⟨tb, 1, none⟩ = some (.int .i64 o) ∧ w'.cell? ⟨tb, 2, none⟩ = some (.slice a1 n1 c1) ∧ w'.cell? ⟨tb, 3, none⟩ = some (.slice a2 n2 c2)) 99 6 (by rfl) (by kernel_rfl) ?_
  have hT0 : w2.drew.cell? ⟨tb, 0, none⟩ = some (.int .i64 p) ∧ w2.drew.cell? ⟨tb, 1, none⟩ = some (.int .i64 o) ∧ w2.drew.cell? ⟨tb, 2, none⟩ = some (.slice a1 n1 c1) ∧ w2.drew.cell? ⟨tb, 3, none⟩ = some (.slice a2 n2 c2) := ⟨z0, z1, z2, z3⟩
  refine wpAnyT_take' (i := 0) (some 17) (v := ?_) rfl rfl (by kernel_rfl) (by kernel_rfl) (by kernel_rfl) (by decide) (fun _ _ _ h => h) (Or.inl ⟨by rfl, ?_⟩) (fun _ => trivial) hT0 ?_
  rotate_left
  · (intro w hSw; (try dsimp only at hSw); go_simp); try with_reducible rfl
  try simp only [Act.put, List.setIfInBounds_toArray, List.set_cons_zero, List.set_cons_succ]
  refine wpAnyT_take' (i := 2) (some 19) (v := ?_) rfl rfl (by kernel_rfl) (by kernel_rfl) (by kernel_rfl) (by decide) (fun _ _ _ h => h) (Or.inl ⟨by rfl, ?_⟩) (fun _ => trivial) hT0 ?_
  rotate_left
  · (intro w hSw; (try dsimp only at hSw); go_simp); try with_reducible rfl
  try simp only [Act.put, List.setIfInBounds_toArray, List.set_cons_zero, List.set_cons_succ]
  refine wpAnyT_one (i := 1) (by kernel_rfl) rfl (fun K hK => ?_)
  go_simp
  refine (live_any _ _ _ _ _ _ _ _ _ _ _ (HS1.out.ext EW.out.drew) (HT1.out.ext EW.out.drew)).mono ?_
  rintro e w3 ⟨v3, rfl, E3, hr3⟩
  try simp only []
  have hT1 : w3.cell? ⟨tb, 0, none⟩ = some (.int .i64 p) ∧ w3.cell? ⟨tb, 1, none⟩ = some (.int .i64 o) ∧ w3.cell? ⟨tb, 2, none⟩ = some (.slice a1 n1 c1) ∧ w3.cell? ⟨tb, 3, none⟩ = some (.slice a2 n2 c2) := ⟨E3.cell z0, E3.cell z1, E3.cell z2, E3.cell z3⟩
  refine hK _ _ (fun _ => trivial) hT1 ?_
  clear hK K
  try simp only [Act.put, List.setIfInBounds_toArray, List.set_cons_zero, List.set_cons_succ]
  refine wpAnyT_one (i := 3) (by kernel_rfl) rfl (fun K hK => ?_)
  go_simp
  refine (rlive_any _ _ _ _ _ _ _ _ _ _ _ (HS1.out.ext (EW.out.drew.trans E3)) (HT1.out.ext (EW.out.drew.trans E3)) HM1.out).mono ?_
  rintro e w4 ⟨v4, rfl, E4, hr4⟩
  try simp only []
  have hT2 : w4.cell? ⟨tb, 0, none⟩ = some (.int .i64 p) ∧ w4.cell? ⟨tb, 1, none⟩ = some (.int .i64 o) ∧ w4.cell? ⟨tb, 2, none⟩ = some (.slice a1 n1 c1) ∧ w4.cell? ⟨tb, 3, none⟩ = some (.slice a2 n2 c2) := ⟨E4.cell (E3.cell z0), E4.cell (E3.cell z1), E4.cell (E3.cell z2), E4.cell (E3.cell z3)⟩
  refine hK _ _ (fun _ => trivial) hT2 ?_
  clear hK K
  try simp only [Act.put, List.setIfInBounds_toArray, List.set_cons_zero, List.set_cons_succ]
  refine wpAnyT_take' (i := 4) (some 5) (v := ?_) rfl rfl (by kernel_rfl) (by kernel_rfl) (by kernel_rfl) (by decide) (fun _ _ _ h => h) (Or.inl ⟨by rfl, ?_⟩) (fun _ => trivial) hT2 ?_
  rotate_left
  · (intro w hSw; (try dsimp only at hSw); go_simp); try with_reducible rfl
  try simp only [Act.put, List.setIfInBounds_toArray, List.set_cons_zero, List.set_cons_succ]
  refine wpAnyT_take' (i := 5) (some 6) (v := ?_) rfl rfl (by kernel_rfl) (by kernel_rfl) (by kernel_rfl) (by decide) (fun _ _ _ h => h) (Or.inl ⟨by rfl, ?_⟩) (fun _ => trivial) hT2 ?_
  rotate_left
  · (intro w hSw; (try dsimp only at hSw); go_simp); try with_reducible rfl
  try simp only [Act.put, List.setIfInBounds_toArray, List.set_cons_zero, List.set_cons_succ]
  refine wpAnyT_done (by kernel_rfl) ?_ _
  try simp only [Act.put, List.setIfInBounds_toArray, List.set_cons_zero, List.set_cons_succ]
  have EV4 := Lib.hid ((Ext.refl w2).drew.trans (E3.trans E4))
  have hE4' := E4
  replace z0 := hT2.1
  replace z1 := hT2.2.1
  replace z2 := hT2.2.2.1
  replace z3 := hT2.2.2.2
  replace y0 := E4.cell (E3.cell y0)
  replace y1 := E4.cell (E3.cell y1)
  replace y2 := E4.cell (E3.cell y2)
  replace y3 := E4.cell (E3.cell y3)
  by_cases hck : checkP p o L T = 0
  · obtain ⟨g3, S, rfl, _, hS3, hL3⟩ := hr3.2 hck
    obtain ⟨g4, S', rfl, _, hS4, hL4⟩ := hr4.2 hck
    obtain ⟨_, hr, _⟩ := check_parts hck
    have hEq := live_one (down_of hr) hL3 hL4
    subst hEq
    have hlS := hL3.1
    have HA := Lib.hid (hS3.ext hE4')
    have HB := Lib.hid hS4
    have hfew := HS1.out.len
    have hfw2 := HS1.out.few
    rw [hfew] at hlS ⊢
    clear hr3 hr4 hck hS3 hL3 hS4 hL4 hr hT0 hT1 hT2 E3 E4 hE4' hfew
    go_wp2_with fail
    go_loopw [7] (fun k wq => ∃ i : Nat, i ≤ n1 ∧ k = .int .i64 i ∧ Ext w4 wq) (fun k _ => n1 - (intOf k).toNat)
    case atStart => exact ⟨0, Nat.zero_le _, rfl, Ext.refl _⟩
    case round =>
      obtain ⟨i, hi, rfl, hE⟩ := hrel
      by_cases hlt : i < n1
      · have hlt' : ((i : Nat) : Int) < n1 := by omega
        have x1 := (HA.out.ext hE).cell (i := i) (by omega)
        have x2 := (HB.out.ext hE).cell (i := i) (by omega)
        obtain ⟨x, hx⟩ : ∃ x, x = S[i]?.getD false := ⟨_, rfl⟩
        rw [← hx] at x1 x2
        clear hx
        go_wp2_with fail
        refine wp_region_T (fun _ => True) (fun w' : World => w'.cell? ⟨g3, i, none⟩ = some (.bool x) ∧ w'.cell? ⟨g4, i, none⟩ = some (.bool x)) 99 9 (by rfl) (by kernel_rfl) ?_
        have hT0 : wr.drew.cell? ⟨g3, i, none⟩ = some (.bool x) ∧ wr.drew.cell? ⟨g4, i, none⟩ = some (.bool x) := ⟨x1, x2⟩
        refine wpAnyT_take' (i := 0) (some 32) (v := ?_) rfl rfl (by kernel_rfl) (by kernel_rfl) (by kernel_rfl) (by decide) (fun _ _ _ h => h) (Or.inl ⟨by rfl, ?_⟩) (fun _ => trivial) hT0 ?_
        rotate_left
        · (intro w hSw; (try dsimp only at hSw); go_simp); try with_reducible rfl
        try simp only [Act.put, List.setIfInBounds_toArray, List.set_cons_zero, List.set_cons_succ]
        refine wpAnyT_take' (i := 1) (some 33) (v := ?_) rfl rfl (by kernel_rfl) (by kernel_rfl) (by kernel_rfl) (by decide) (fun _ _ _ h => h) (Or.inl ⟨by rfl, ?_⟩) (fun _ => trivial) hT0 ?_
        rotate_left
        · (intro w hSw; (try dsimp only at hSw); go_simp); try with_reducible rfl
        try simp only [Act.put, List.setIfInBounds_toArray, List.set_cons_zero, List.set_cons_succ]
        refine wpAnyT_take' (i := 2) (some 34) (v := ?_) rfl rfl (by kernel_rfl) (by kernel_rfl) (by kernel_rfl) (by decide) (fun _ _ _ h => h) (Or.inl ⟨by rfl, ?_⟩) (fun _ => trivial) hT0 ?_
        rotate_left
        · (intro w hSw; (try dsimp only at hSw); go_simp); try with_reducible rfl
        try simp only [Act.put, List.setIfInBounds_toArray, List.set_cons_zero, List.set_cons_succ]
        refine wpAnyT_take' (i := 3) (some 35) (v := ?_) rfl rfl (by kernel_rfl) (by kernel_rfl) (by kernel_rfl) (by decide) (fun _ _ _ h => h) (Or.inl ⟨by rfl, ?_⟩) (fun _ => trivial) hT0 ?_
        rotate_left
        · (intro w hSw; (try dsimp only at hSw); go_simp); try with_reducible rfl
        try simp only [Act.put, List.setIfInBounds_toArray, List.set_cons_zero, List.set_cons_succ]
        refine wpAnyT_take' (i := 4) (some 36) (v := ?_) rfl rfl (by kernel_rfl) (by kernel_rfl) (by kernel_rfl) (by decide) (fun _ _ _ h => h) (Or.inl ⟨by rfl, ?_⟩) (fun _ => trivial) hT0 ?_
        rotate_left
        · (intro w hSw; (try dsimp only at hSw); go_simp); try with_reducible rfl
        try simp only [Act.put, List.setIfInBounds_toArray, List.set_cons_zero, List.set_cons_succ]
        refine wpAnyT_take' (i := 5) (some 37) (v := ?_) rfl rfl (by kernel_rfl) (by kernel_rfl) (by kernel_rfl) (by decide) (fun _ _ _ h => h) (Or.inl ⟨by rfl, ?_⟩) (fun _ => trivial) hT0 ?_
        rotate_left
        · (intro w hSw; (try dsimp only at hSw); go_simp); try with_reducible rfl
        try simp only [Act.put, List.setIfInBounds_toArray, List.set_cons_zero, List.set_cons_succ]
        refine wpAnyT_take' (i := 6) (some 38) (v := ?_) rfl rfl (by kernel_rfl) (by kernel_rfl) (by kernel_rfl) (by decide) (fun _ _ _ h => h) (Or.inl ⟨by rfl, ?_⟩) (fun _ => trivial) hT0 ?_
        rotate_left
        · (intro w hSw; (try dsimp only at hSw); go_simp); try with_reducible rfl
        try simp only [Act.put, List.setIfInBounds_toArray, List.set_cons_zero, List.set_cons_succ]
        refine wpAnyT_take' (i := 7) (some 39) (v := ?_) rfl rfl (by kernel_rfl) (by kernel_rfl) (by kernel_rfl) (by decide) (fun _ _ _ h => h) (Or.inl ⟨by rfl, ?_⟩) (fun _ => trivial) hT0 ?_
        rotate_left
        · (intro w hSw; (try dsimp only at hSw); go_simp); try with_reducible rfl
        try simp only [Act.put, List.setIfInBounds_toArray, List.set_cons_zero, List.set_cons_succ]
        refine wpAnyT_take' (i := 8) (some 40) (v := ?_) rfl rfl (by kernel_rfl) (by kernel_rfl) (by kernel_rfl) (by decide) (fun _ _ _ h => h) (Or.inl ⟨by rfl, ?_⟩) (fun _ => trivial) hT0 ?_
        rotate_left
        · (intro w hSw; (try dsimp only at hSw); go_simp); try with_reducible rfl
        try simp only [Act.put, List.setIfInBounds_toArray, List.set_cons_zero, List.set_cons_succ]
        refine wpAnyT_done (by kernel_rfl) ?_ _
        try simp only [Act.put, List.setIfInBounds_toArray, List.set_cons_zero, List.set_cons_succ]
        cases x
        · go_wp2
          go_roundw
          case rel => exact ⟨i + 1, by omega, by go_num, hE.drew⟩
          case measure => simp [intOf]; omega
        · go_wp2
          go_roundw
          case rel => exact ⟨i + 1, by omega, by go_num, hE.drew⟩
          case measure => simp [intOf]; omega
      · have hlt' : ¬ ((i : Nat) : Int) < n1 := by omega
        replace z0 := hE.cell z0
        replace z1 := hE.cell z1
        replace z2 := hE.cell z2
        replace z3 := hE.cell z3
        replace y0 := hE.cell y0
        replace y1 := hE.cell y1
        replace y2 := hE.cell y2
        replace y3 := hE.cell y3
        obtain ⟨V, rfl⟩ : ∃ V : World, V = wr := ⟨_, rfl⟩
        have HS1 := Lib.hid (HS1.out.ext (EV4.out.trans hE))
        have HT1 := Lib.hid (HT1.out.ext (EV4.out.trans hE))
        have HS2 := Lib.hid (HS2.out.ext (EV4.out.trans hE))
        have HT2 := Lib.hid (HT2.out.ext (EV4.out.trans hE))
        have EVw := Lib.hid (EWw.out.trans (EV4.out.trans hE))
        have EV := Lib.hid (Ext.refl V)
        clear hE HA HB EV4
        go_wp2_with fail
        refine wp_region_T (fun _ => True) (fun w' : World => w'.cell? ⟨tb, 0, none⟩ = some (.int .i64 p) ∧ w'.cell? ⟨tb, 1, none⟩ = some (.int .i64 o) ∧ w'.cell? ⟨tb, 2, none⟩ = some (.slice a1 n1 c1) ∧ w'.cell? ⟨tb, 3, none⟩ = some (.slice a2 n2 c2) ∧ w'.cell? ⟨ub, 0, none⟩ = some (.int .i64 p') ∧ w'.cell? ⟨ub, 1, none⟩ = some (.int .i64 o') ∧ w'.cell? ⟨ub, 2, none⟩ = some (.slice a3 n3 c3) ∧ w'.cell? ⟨ub, 3, none⟩ = some (.slice a4 n4 c4)) 99 18 (by rfl) (by kernel_rfl) ?_
        have hT0 : V.drew.cell? ⟨tb, 0, none⟩ = some (.int .i64 p) ∧ V.drew.cell? ⟨tb, 1, none⟩ = some (.int .i64 o) ∧ V.drew.cell? ⟨tb, 2, none⟩ = some (.slice a1 n1 c1) ∧ V.drew.cell? ⟨tb, 3, none⟩ = some (.slice a2 n2 c2) ∧ V.drew.cell? ⟨ub, 0, none⟩ = some (.int .i64 p') ∧ V.drew.cell? ⟨ub, 1, none⟩ = some (.int .i64 o') ∧ V.drew.cell? ⟨ub, 2, none⟩ = some (.slice a3 n3 c3) ∧ V.drew.cell? ⟨ub, 3, none⟩ = some (.slice a4 n4 c4) := ⟨z0, z1, z2, z3, y0, y1, y2, y3⟩
        refine wpAnyT_take' (i := 0) (some 41) (v := ?_) rfl rfl (by kernel_rfl) (by kernel_rfl) (by kernel_rfl) (by decide) (fun _ _ _ h => h) (Or.inl ⟨by rfl, ?_⟩) (fun _ => trivial) hT0 ?_
        rotate_left
        · (intro w hSw; (try dsimp only at hSw); go_simp); try with_reducible rfl
        try simp only [Act.put, List.setIfInBounds_toArray, List.set_cons_zero, List.set_cons_succ]
        refine wpAnyT_take' (i := 2) (some 43) (v := ?_) rfl rfl (by kernel_rfl) (by kernel_rfl) (by kernel_rfl) (by decide) (fun _ _ _ h => h) (Or.inl ⟨by rfl, ?_⟩) (fun _ => trivial) hT0 ?_
        rotate_left
        · (intro w hSw; (try dsimp only at hSw); go_simp); try with_reducible rfl
        try simp only [Act.put, List.setIfInBounds_toArray, List.set_cons_zero, List.set_cons_succ]
        refine wpAnyT_one (i := 1) (by kernel_rfl) rfl (fun K hK => ?_)
        go_simp
        refine (check_any _ _ _ _ _ _ _ _ _ _ _ (HS1.out.ext EV.out.drew) (HT1.out.ext EV.out.drew)).mono ?_
        rintro e v1 ⟨_, rfl, F1, rfl⟩
        try simp only []
        have hT1 : v1.cell? ⟨tb, 0, none⟩ = some (.int .i64 p) ∧ v1.cell? ⟨tb, 1, none⟩ = some (.int .i64 o) ∧ v1.cell? ⟨tb, 2, none⟩ = some (.slice a1 n1 c1) ∧ v1.cell? ⟨tb, 3, none⟩ = some (.slice a2 n2 c2) ∧ v1.cell? ⟨ub, 0, none⟩ = some (.int .i64 p') ∧ v1.cell? ⟨ub, 1, none⟩ = some (.int .i64 o') ∧ v1.cell? ⟨ub, 2, none⟩ = some (.slice a3 n3 c3) ∧ v1.cell? ⟨ub, 3, none⟩ = some (.slice a4 n4 c4) := ⟨F1.cell z0, F1.cell z1, F1.cell z2, F1.cell z3, F1.cell y0, F1.cell y1, F1.cell y2, F1.cell y3⟩
        have G1 := EV.out.drew.trans F1
        refine hK _ _ (fun _ => trivial) hT1 ?_
        clear hK K
        try simp only [Act.put, List.setIfInBounds_toArray, List.set_cons_zero, List.set_cons_succ]
        refine wpAnyT_one (i := 3) (by kernel_rfl) rfl (fun K hK => ?_)
        go_simp
        refine (rcheck_any _ _ _ _ _ _ _ _ _ _ _ (HS1.out.ext G1) (HT1.out.ext G1) HM1.out).mono ?_
        rintro e v2 ⟨_, rfl, F2, rfl⟩
        try simp only []
        have hT2 : v2.cell? ⟨tb, 0, none⟩ = some (.int .i64 p) ∧ v2.cell? ⟨tb, 1, none⟩ = some (.int .i64 o) ∧ v2.cell? ⟨tb, 2, none⟩ = some (.slice a1 n1 c1) ∧ v2.cell? ⟨tb, 3, none⟩ = some (.slice a2 n2 c2) ∧ v2.cell? ⟨ub, 0, none⟩ = some (.int .i64 p') ∧ v2.cell? ⟨ub, 1, none⟩ = some (.int .i64 o') ∧ v2.cell? ⟨ub, 2, none⟩ = some (.slice a3 n3 c3) ∧ v2.cell? ⟨ub, 3, none⟩ = some (.slice a4 n4 c4) := ⟨F2.cell (F1.cell z0), F2.cell (F1.cell z1), F2.cell (F1.cell z2), F2.cell (F1.cell z3), F2.cell (F1.cell y0), F2.cell (F1.cell y1), F2.cell (F1.cell y2), F2.cell (F1.cell y3)⟩
        have G2 := G1.trans F2
        refine hK _ _ (fun _ => trivial) hT2 ?_
        clear hK K
        try simp only [Act.put, List.setIfInBounds_toArray, List.set_cons_zero, List.set_cons_succ]
        refine wpAnyT_take' (i := 4) (some 45) (v := ?_) rfl rfl (by kernel_rfl) (by kernel_rfl) (by kernel_rfl) (by decide) (fun _ _ _ h => h) (Or.inl ⟨by rfl, ?_⟩) (fun _ => trivial) hT2 ?_
        rotate_left
        · (intro w hSw; (try dsimp only at hSw); go_simp); try with_reducible rfl
        try simp only [Act.put, List.setIfInBounds_toArray, List.set_cons_zero, List.set_cons_succ]
        refine wpAnyT_take' (i := 5) (some 46) (v := ?_) rfl rfl (by kernel_rfl) (by kernel_rfl) (by kernel_rfl) (by decide) (fun _ _ _ h => h) (Or.inl ⟨by rfl, ?_⟩) (fun _ => trivial) hT2 ?_
        rotate_left
        · (intro w hSw; (try dsimp only at hSw); go_simp); try with_reducible rfl
        try simp only [Act.put, List.setIfInBounds_toArray, List.set_cons_zero, List.set_cons_succ]
        refine wpAnyT_take' (i := 6) (some 47) (v := ?_) rfl rfl (by kernel_rfl) (by kernel_rfl) (by kernel_rfl) (by decide) (fun _ _ _ h => h) (Or.inl ⟨by rfl, ?_⟩) (fun _ => trivial) hT2 ?_
        rotate_left
        · (intro w hSw; (try dsimp only at hSw); go_simp); try with_reducible rfl
        try simp only [Act.put, List.setIfInBounds_toArray, List.set_cons_zero, List.set_cons_succ]
        refine wpAnyT_take' (i := 7) (some 48) (v := ?_) rfl rfl (by kernel_rfl) (by kernel_rfl) (by kernel_rfl) (by decide) (fun _ _ _ h => h) (Or.inl ⟨by rfl, ?_⟩) (fun _ => trivial) hT2 ?_
        rotate_left
        · (intro w hSw; (try dsimp only at hSw); go_simp); try with_reducible rfl
        try simp only [Act.put, List.setIfInBounds_toArray, List.set_cons_zero, List.set_cons_succ]
        refine wpAnyT_take' (i := 9) (some 50) (v := ?_) rfl rfl (by kernel_rfl) (by kernel_rfl) (by kernel_rfl) (by decide) (fun _ _ _ h => h) (Or.inl ⟨by rfl, ?_⟩) (fun _ => trivial) hT2 ?_
        rotate_left
        · (intro w hSw; (try dsimp only at hSw); go_simp); try with_reducible rfl
        try simp only [Act.put, List.setIfInBounds_toArray, List.set_cons_zero, List.set_cons_succ]
        refine wpAnyT_take' (i := 10) (some 51) (v := ?_) rfl rfl (by kernel_rfl) (by kernel_rfl) (by kernel_rfl) (by decide) (fun _ _ _ h => h) (Or.inl ⟨by rfl, ?_⟩) (fun _ => trivial) hT2 ?_
        rotate_left
        · (intro w hSw; (try dsimp only at hSw); go_simp); try with_reducible rfl
        try simp only [Act.put, List.setIfInBounds_toArray, List.set_cons_zero, List.set_cons_succ]
        refine wpAnyT_one (i := 8) (by kernel_rfl) rfl (fun K hK => ?_)
        go_simp
        refine (tsame_any _ _ p o p' o' L M T U _ ⟨_, _, _, _, _, _, rfl, HS1.out.ext G2, HT1.out.ext G2⟩ ⟨_, _, _, _, _, _, rfl, HS2.out.ext G2, HT2.out.ext G2⟩).mono ?_
        rintro e v3 ⟨_, rfl, F3, rfl⟩
        try simp only []
        have hT3 : v3.cell? ⟨tb, 0, none⟩ = some (.int .i64 p) ∧ v3.cell? ⟨tb, 1, none⟩ = some (.int .i64 o) ∧ v3.cell? ⟨tb, 2, none⟩ = some (.slice a1 n1 c1) ∧ v3.cell? ⟨tb, 3, none⟩ = some (.slice a2 n2 c2) ∧ v3.cell? ⟨ub, 0, none⟩ = some (.int .i64 p') ∧ v3.cell? ⟨ub, 1, none⟩ = some (.int .i64 o') ∧ v3.cell? ⟨ub, 2, none⟩ = some (.slice a3 n3 c3) ∧ v3.cell? ⟨ub, 3, none⟩ = some (.slice a4 n4 c4) := ⟨F3.cell (F2.cell (F1.cell z0)), F3.cell (F2.cell (F1.cell z1)), F3.cell (F2.cell (F1.cell z2)), F3.cell (F2.cell (F1.cell z3)), F3.cell (F2.cell (F1.cell y0)), F3.cell (F2.cell (F1.cell y1)), F3.cell (F2.cell (F1.cell y2)), F3.cell (F2.cell (F1.cell y3))⟩
        have G3 := G2.trans F3
        refine hK _ _ (fun _ => trivial) hT3 ?_
        clear hK K
        try simp only [Act.put, List.setIfInBounds_toArray, List.set_cons_zero, List.set_cons_succ]
        refine wpAnyT_one (i := 11) (by kernel_rfl) rfl (fun K hK => ?_)
        go_simp
        refine (rsame17_any _ _ p o p' o' L M T U _ ⟨_, _, _, _, _, _, rfl, HS1.out.ext G3, HT1.out.ext G3⟩ ⟨_, _, _, _, _, _, rfl, HS2.out.ext G3, HT2.out.ext G3⟩).mono ?_
        rintro e v4 ⟨_, rfl, F4, rfl⟩
        try simp only []
        have hT4 : v4.cell? ⟨tb, 0, none⟩ = some (.int .i64 p) ∧ v4.cell? ⟨tb, 1, none⟩ = some (.int .i64 o) ∧ v4.cell? ⟨tb, 2, none⟩ = some (.slice a1 n1 c1) ∧ v4.cell? ⟨tb, 3, none⟩ = some (.slice a2 n2 c2) ∧ v4.cell? ⟨ub, 0, none⟩ = some (.int .i64 p') ∧ v4.cell? ⟨ub, 1, none⟩ = some (.int .i64 o') ∧ v4.cell? ⟨ub, 2, none⟩ = some (.slice a3 n3 c3) ∧ v4.cell? ⟨ub, 3, none⟩ = some (.slice a4 n4 c4) := ⟨F4.cell (F3.cell (F2.cell (F1.cell z0))), F4.cell (F3.cell (F2.cell (F1.cell z1))), F4.cell (F3.cell (F2.cell (F1.cell z2))), F4.cell (F3.cell (F2.cell (F1.cell z3))), F4.cell (F3.cell (F2.cell (F1.cell y0))), F4.cell (F3.cell (F2.cell (F1.cell y1))), F4.cell (F3.cell (F2.cell (F1.cell y2))), F4.cell (F3.cell (F2.cell (F1.cell y3)))⟩
        have G4 := G3.trans F4
        refine hK _ _ (fun _ => trivial) hT4 ?_
        clear hK K
        try simp only [Act.put, List.setIfInBounds_toArray, List.set_cons_zero, List.set_cons_succ]
        refine wpAnyT_take' (i := 12) (some 53) (v := ?_) rfl rfl (by kernel_rfl) (by kernel_rfl) (by kernel_rfl) (by decide) (fun _ _ _ h => h) (Or.inl ⟨by rfl, ?_⟩) (fun _ => trivial) hT4 ?_
        rotate_left
        · (intro w hSw; (try dsimp only at hSw); go_simp); try with_reducible rfl
        try simp only [Act.put, List.setIfInBounds_toArray, List.set_cons_zero, List.set_cons_succ]
        refine wpAnyT_take' (i := 13) (some 54) (v := ?_) rfl rfl (by kernel_rfl) (by kernel_rfl) (by kernel_rfl) (by decide) (fun _ _ _ h => h) (Or.inl ⟨by rfl, ?_⟩) (fun _ => trivial) hT4 ?_
        rotate_left
        · (intro w hSw; (try dsimp only at hSw); go_simp); try with_reducible rfl
        try simp only [Act.put, List.setIfInBounds_toArray, List.set_cons_zero, List.set_cons_succ]
        refine wpAnyT_take' (i := 14) (some 55) (v := ?_) rfl rfl (by kernel_rfl) (by kernel_rfl) (by kernel_rfl) (by decide) (fun _ _ _ h => h) (Or.inl ⟨by rfl, ?_⟩) (fun _ => trivial) hT4 ?_
        rotate_left
        · (intro w hSw; (try dsimp only at hSw); go_simp); try with_reducible rfl
        try simp only [Act.put, List.setIfInBounds_toArray, List.set_cons_zero, List.set_cons_succ]
        refine wpAnyT_one (i := 15) (by kernel_rfl) rfl (fun K hK => ?_)
        go_simp
        refine (head17 _).mono ?_
        rintro e v5 ⟨_, rfl, F5, rfl⟩
        try simp only []
        have hT5 : v5.cell? ⟨tb, 0, none⟩ = some (.int .i64 p) ∧ v5.cell? ⟨tb, 1, none⟩ = some (.int .i64 o) ∧ v5.cell? ⟨tb, 2, none⟩ = some (.slice a1 n1 c1) ∧ v5.cell? ⟨tb, 3, none⟩ = some (.slice a2 n2 c2) ∧ v5.cell? ⟨ub, 0, none⟩ = some (.int .i64 p') ∧ v5.cell? ⟨ub, 1, none⟩ = some (.int .i64 o') ∧ v5.cell? ⟨ub, 2, none⟩ = some (.slice a3 n3 c3) ∧ v5.cell? ⟨ub, 3, none⟩ = some (.slice a4 n4 c4) := ⟨F5.cell (F4.cell (F3.cell (F2.cell (F1.cell z0)))), F5.cell (F4.cell (F3.cell (F2.cell (F1.cell z1)))), F5.cell (F4.cell (F3.cell (F2.cell (F1.cell z2)))), F5.cell (F4.cell (F3.cell (F2.cell (F1.cell z3)))), F5.cell (F4.cell (F3.cell (F2.cell (F1.cell y0)))), F5.cell (F4.cell (F3.cell (F2.cell (F1.cell y1)))), F5.cell (F4.cell (F3.cell (F2.cell (F1.cell y2)))), F5.cell (F4.cell (F3.cell (F2.cell (F1.cell y3))))⟩
        have G5 := G4.trans F5
        refine hK _ _ (fun _ => trivial) hT5 ?_
        clear hK K
        try simp only [Act.put, List.setIfInBounds_toArray, List.set_cons_zero, List.set_cons_succ]
        refine wpAnyT_take' (i := 16) (some 57) (v := ?_) rfl rfl (by kernel_rfl) (by kernel_rfl) (by kernel_rfl) (by decide) (fun _ _ _ h => h) (Or.inl ⟨by rfl, ?_⟩) (fun _ => trivial) hT5 ?_
        rotate_left
        · (intro w hSw; (try dsimp only at hSw); go_simp); try with_reducible rfl
        try simp only [Act.put, List.setIfInBounds_toArray, List.set_cons_zero, List.set_cons_succ]
        refine wpAnyT_take' (i := 17) (some 4) (v := ?_) rfl rfl (by kernel_rfl) (by kernel_rfl) (by kernel_rfl) (by decide) (fun _ _ _ h => h) (Or.inl ⟨by rfl, ?_⟩) (fun _ => trivial) hT5 ?_
        rotate_left
        · (intro w hSw; (try dsimp only at hSw); go_simp); try with_reducible rfl
        try simp only [Act.put, List.setIfInBounds_toArray, List.set_cons_zero, List.set_cons_succ]
        refine wpAnyT_done (by kernel_rfl) ?_ _
        try simp only [Act.put, List.setIfInBounds_toArray, List.set_cons_zero, List.set_cons_succ]
        clear hT0 hT1 hT2 hT3 hT4 hT5
        go_wp2
        go_ret
        exact Post.mk (EVw.out.trans G5) rfl
  · have e3 := hr3.1 hck
    have e4 := hr4.1 hck
    subst e3 e4
    clear hr3 hr4 hck hT0 hT1 hT2 E3 E4 hE4'
    go_wp2_with fail
    go_loopw [7] (fun k wq => k = .int .i64 0 ∧ Ext w4 wq) (fun k _ => 0)
    case atStart => exact ⟨rfl, Ext.refl _⟩
    case round =>
      obtain ⟨rfl, hE⟩ := hrel
      replace z0 := hE.cell z0
      replace z1 := hE.cell z1
      replace z2 := hE.cell z2
      replace z3 := hE.cell z3
      replace y0 := hE.cell y0
      replace y1 := hE.cell y1
      replace y2 := hE.cell y2
      replace y3 := hE.cell y3
      obtain ⟨V, rfl⟩ : ∃ V : World, V = wr := ⟨_, rfl⟩
      have HS1 := Lib.hid (HS1.out.ext (EV4.out.trans hE))
      have HT1 := Lib.hid (HT1.out.ext (EV4.out.trans hE))
      have HS2 := Lib.hid (HS2.out.ext (EV4.out.trans hE))
      have HT2 := Lib.hid (HT2.out.ext (EV4.out.trans hE))
      have EVw := Lib.hid (EWw.out.trans (EV4.out.trans hE))
      have EV := Lib.hid (Ext.refl V)
      clear hE EV4
      go_wp2_with fail
      refine wp_region_T (fun _ => True) (fun w' : World => w'.cell? ⟨tb, 0, none⟩ = some (.int .i64 p) ∧ w'.cell? ⟨tb, 1, none⟩ = some (.int .i64 o) ∧ w'.cell? ⟨tb, 2, none⟩ = some (.slice a1 n1 c1) ∧ w'.cell? ⟨tb, 3, none⟩ = some (.slice a2 n2 c2) ∧ w'.cell? ⟨ub, 0, none⟩ = some (.int .i64 p') ∧ w'.cell? ⟨ub, 1, none⟩ = some (.int .i64 o') ∧ w'.cell? ⟨ub, 2, none⟩ = some (.slice a3 n3 c3) ∧ w'.cell? ⟨ub, 3, none⟩ = some (.slice a4 n4 c4)) 99 18 (by rfl) (by kernel_rfl) ?_
      have hT0 : V.drew.cell? ⟨tb, 0, none⟩ = some (.int .i64 p) ∧ V.drew.cell? ⟨tb, 1, none⟩ = some (.int .i64 o) ∧ V.drew.cell? ⟨tb, 2, none⟩ = some (.slice a1 n1 c1) ∧ V.drew.cell? ⟨tb, 3, none⟩ = some (.slice a2 n2 c2) ∧ V.drew.cell? ⟨ub, 0, none⟩ = some (.int .i64 p') ∧ V.drew.cell? ⟨ub, 1, none⟩ = some (.int .i64 o') ∧ V.drew.cell? ⟨ub, 2, none⟩ = some (.slice a3 n3 c3) ∧ V.drew.cell? ⟨ub, 3, none⟩ = some (.slice a4 n4 c4) := ⟨z0, z1, z2, z3, y0, y1, y2, y3⟩
      refine wpAnyT_take' (i := 0) (some 41) (v := ?_) rfl rfl (by kernel_rfl) (by kernel_rfl) (by kernel_rfl) (by decide) (fun _ _ _ h => h) (Or.inl ⟨by rfl, ?_⟩) (fun _ => trivial) hT0 ?_
      rotate_left
      · (intro w hSw; (try dsimp only at hSw); go_simp); try with_reducible rfl
      try simp only [Act.put, List.setIfInBounds_toArray, List.set_cons_zero, List.set_cons_succ]
      refine wpAnyT_take' (i := 2) (some 43) (v := ?_) rfl rfl (by kernel_rfl) (by kernel_rfl) (by kernel_rfl) (by decide) (fun _ _ _ h => h) (Or.inl ⟨by rfl, ?_⟩) (fun _ => trivial) hT0 ?_
      rotate_left
      · (intro w hSw; (try dsimp only at hSw); go_simp); try with_reducible rfl
      try simp only [Act.put, List.setIfInBounds_toArray, List.set_cons_zero, List.set_cons_succ]
      refine wpAnyT_one (i := 1) (by kernel_rfl) rfl (fun K hK => ?_)
      go_simp
      refine (check_any _ _ _ _ _ _ _ _ _ _ _ (HS1.out.ext EV.out.drew) (HT1.out.ext EV.out.drew)).mono ?_
      rintro e v1 ⟨_, rfl, F1, rfl⟩
      try simp only []
      have hT1 : v1.cell? ⟨tb, 0, none⟩ = some (.int .i64 p) ∧ v1.cell? ⟨tb, 1, none⟩ = some (.int .i64 o) ∧ v1.cell? ⟨tb, 2, none⟩ = some (.slice a1 n1 c1) ∧ v1.cell? ⟨tb, 3, none⟩ = some (.slice a2 n2 c2) ∧ v1.cell? ⟨ub, 0, none⟩ = some (.int .i64 p') ∧ v1.cell? ⟨ub, 1, none⟩ = some (.int .i64 o') ∧ v1.cell? ⟨ub, 2, none⟩ = some (.slice a3 n3 c3) ∧ v1.cell? ⟨ub, 3, none⟩ = some (.slice a4 n4 c4) := ⟨F1.cell z0, F1.cell z1, F1.cell z2, F1.cell z3, F1.cell y0, F1.cell y1, F1.cell y2, F1.cell y3⟩
      have G1 := EV.out.drew.trans F1
      refine hK _ _ (fun _ => trivial) hT1 ?_
      clear hK K
      try simp only [Act.put, List.setIfInBounds_toArray, List.set_cons_zero, List.set_cons_succ]
      refine wpAnyT_one (i := 3) (by kernel_rfl) rfl (fun K hK => ?_)
      go_simp
      refine (rcheck_any _ _ _ _ _ _ _ _ _ _ _ (HS1.out.ext G1) (HT1.out.ext G1) HM1.out).mono ?_
      rintro e v2 ⟨_, rfl, F2, rfl⟩
      try simp only []
      have hT2 : v2.cell? ⟨tb, 0, none⟩ = some (.int .i64 p) ∧ v2.cell? ⟨tb, 1, none⟩ = some (.int .i64 o) ∧ v2.cell? ⟨tb, 2, none⟩ = some (.slice a1 n1 c1) ∧ v2.cell? ⟨tb, 3, none⟩ = some (.slice a2 n2 c2) ∧ v2.cell? ⟨ub, 0, none⟩ = some (.int .i64 p') ∧ v2.cell? ⟨ub, 1, none⟩ = some (.int .i64 o') ∧ v2.cell? ⟨ub, 2, none⟩ = some (.slice a3 n3 c3) ∧ v2.cell? ⟨ub, 3, none⟩ = some (.slice a4 n4 c4) := ⟨F2.cell (F1.cell z0), F2.cell (F1.cell z1), F2.cell (F1.cell z2), F2.cell (F1.cell z3), F2.cell (F1.cell y0), F2.cell (F1.cell y1), F2.cell (F1.cell y2), F2.cell (F1.cell y3)⟩
      have G2 := G1.trans F2
      refine hK _ _ (fun _ => trivial) hT2 ?_
      clear hK K
      try simp only [Act.put, List.setIfInBounds_toArray, List.set_cons_zero, List.set_cons_succ]
      refine wpAnyT_take' (i := 4) (some 45) (v := ?_) rfl rfl (by kernel_rfl) (by kernel_rfl) (by kernel_rfl) (by decide) (fun _ _ _ h => h) (Or.inl ⟨by rfl, ?_⟩) (fun _ => trivial) hT2 ?_
      rotate_left
      · (intro w hSw; (try dsimp only at hSw); go_simp); try with_reducible rfl
      try simp only [Act.put, List.setIfInBounds_toArray, List.set_cons_zero, List.set_cons_succ]
      refine wpAnyT_take' (i := 5) (some 46) (v := ?_) rfl rfl (by kernel_rfl) (by kernel_rfl) (by kernel_rfl) (by decide) (fun _ _ _ h => h) (Or.inl ⟨by rfl, ?_⟩) (fun _ => trivial) hT2 ?_
      rotate_left
      · (intro w hSw; (try dsimp only at hSw); go_simp); try with_reducible rfl
      try simp only [Act.put, List.setIfInBounds_toArray, List.set_cons_zero, List.set_cons_succ]
      refine wpAnyT_take' (i := 6) (some 47) (v := ?_) rfl rfl (by kernel_rfl) (by kernel_rfl) (by kernel_rfl) (by decide) (fun _ _ _ h => h) (Or.inl ⟨by rfl, ?_⟩) (fun _ => trivial) hT2 ?_
      rotate_left
      · (intro w hSw; (try dsimp only at hSw); go_simp); try with_reducible rfl
      try simp only [Act.put, List.setIfInBounds_toArray, List.set_cons_zero, List.set_cons_succ]
      refine wpAnyT_take' (i := 7) (some 48) (v := ?_) rfl rfl (by kernel_rfl) (by kernel_rfl) (by kernel_rfl) (by decide) (fun _ _ _ h => h) (Or.inl ⟨by rfl, ?_⟩) (fun _ => trivial) hT2 ?_
      rotate_left
      · (intro w hSw; (try dsimp only at hSw); go_simp); try with_reducible rfl
      try simp only [Act.put, List.setIfInBounds_toArray, List.set_cons_zero, List.set_cons_succ]
      refine wpAnyT_take' (i := 9) (some 50) (v := ?_) rfl rfl (by kernel_rfl) (by kernel_rfl) (by kernel_rfl) (by decide) (fun _ _ _ h => h) (Or.inl ⟨by rfl, ?_⟩) (fun _ => trivial) hT2 ?_
      rotate_left
      · (intro w hSw; (try dsimp only at hSw); go_simp); try with_reducible rfl
      try simp only [Act.put, List.setIfInBounds_toArray, List.set_cons_zero, List.set_cons_succ]
      refine wpAnyT_take' (i := 10) (some 51) (v := ?_) rfl rfl (by kernel_rfl) (by kernel_rfl) (by kernel_rfl) (by decide) (fun _ _ _ h => h) (Or.inl ⟨by rfl, ?_⟩) (fun _ => trivial) hT2 ?_
      rotate_left
      · (intro w hSw; (try dsimp only at hSw); go_simp); try with_reducible rfl
      try simp only [Act.put, List.setIfInBounds_toArray, List.set_cons_zero, List.set_cons_succ]
      refine wpAnyT_one (i := 8) (by kernel_rfl) rfl (fun K hK => ?_)
      go_simp
      refine (tsame_any _ _ p o p' o' L M T U _ ⟨_, _, _, _, _, _, rfl, HS1.out.ext G2, HT1.out.ext G2⟩ ⟨_, _, _, _, _, _, rfl, HS2.out.ext G2, HT2.out.ext G2⟩).mono ?_
      rintro e v3 ⟨_, rfl, F3, rfl⟩
      try simp only []
      have hT3 : v3.cell? ⟨tb, 0, none⟩ = some (.int .i64 p) ∧ v3.cell? ⟨tb, 1, none⟩ = some (.int .i64 o) ∧ v3.cell? ⟨tb, 2, none⟩ = some (.slice a1 n1 c1) ∧ v3.cell? ⟨tb, 3, none⟩ = some (.slice a2 n2 c2) ∧ v3.cell? ⟨ub, 0, none⟩ = some (.int .i64 p') ∧ v3.cell? ⟨ub, 1, none⟩ = some (.int .i64 o') ∧ v3.cell? ⟨ub, 2, none⟩ = some (.slice a3 n3 c3) ∧ v3.cell? ⟨ub, 3, none⟩ = some (.slice a4 n4 c4) := ⟨F3.cell (F2.cell (F1.cell z0)), F3.cell (F2.cell (F1.cell z1)), F3.cell (F2.cell (F1.cell z2)), F3.cell (F2.cell (F1.cell z3)), F3.cell (F2.cell (F1.cell y0)), F3.cell (F2.cell (F1.cell y1)), F3.cell (F2.cell (F1.cell y2)), F3.cell (F2.cell (F1.cell y3))⟩
      have G3 := G2.trans F3
      refine hK _ _ (fun _ => trivial) hT3 ?_
      clear hK K
      try simp only [Act.put, List.setIfInBounds_toArray, List.set_cons_zero, List.set_cons_succ]
      refine wpAnyT_one (i := 11) (by kernel_rfl) rfl (fun K hK => ?_)
      go_simp
      refine (rsame17_any _ _ p o p' o' L M T U _ ⟨_, _, _, _, _, _, rfl, HS1.out.ext G3, HT1.out.ext G3⟩ ⟨_, _, _, _, _, _, rfl, HS2.out.ext G3, HT2.out.ext G3⟩).mono ?_
      rintro e v4 ⟨_, rfl, F4, rfl⟩
      try simp only []
      have hT4 : v4.cell? ⟨tb, 0, none⟩ = some (.int .i64 p) ∧ v4.cell? ⟨tb, 1, none⟩ = some (.int .i64 o) ∧ v4.cell? ⟨tb, 2, none⟩ = some (.slice a1 n1 c1) ∧ v4.cell? ⟨tb, 3, none⟩ = some (.slice a2 n2 c2) ∧ v4.cell? ⟨ub, 0, none⟩ = some (.int .i64 p') ∧ v4.cell? ⟨ub, 1, none⟩ = some (.int .i64 o') ∧ v4.cell? ⟨ub, 2, none⟩ = some (.slice a3 n3 c3) ∧ v4.cell? ⟨ub, 3, none⟩ = some (.slice a4 n4 c4) := ⟨F4.cell (F3.cell (F2.cell (F1.cell z0))), F4.cell (F3.cell (F2.cell (F1.cell z1))), F4.cell (F3.cell (F2.cell (F1.cell z2))), F4.cell (F3.cell (F2.cell (F1.cell z3))), F4.cell (F3.cell (F2.cell (F1.cell y0))), F4.cell (F3.cell (F2.cell (F1.cell y1))), F4.cell (F3.cell (F2.cell (F1.cell y2))), F4.cell (F3.cell (F2.cell (F1.cell y3)))⟩
      have G4 := G3.trans F4
      refine hK _ _ (fun _ => trivial) hT4 ?_
      clear hK K
      try simp only [Act.put, List.setIfInBounds_toArray, List.set_cons_zero, List.set_cons_succ]
      refine wpAnyT_take' (i := 12) (some 53) (v := ?_) rfl rfl (by kernel_rfl) (by kernel_rfl) (by kernel_rfl) (by decide) (fun _ _ _ h => h) (Or.inl ⟨by rfl, ?_⟩) (fun _ => trivial) hT4 ?_
      rotate_left
      · (intro w hSw; (try dsimp only at hSw); go_simp); try with_reducible rfl
      try simp only [Act.put, List.setIfInBounds_toArray, List.set_cons_zero, List.set_cons_succ]
      refine wpAnyT_take' (i := 13) (some 54) (v := ?_) rfl rfl (by kernel_rfl) (by kernel_rfl) (by kernel_rfl) (by decide) (fun _ _ _ h => h) (Or.inl ⟨by rfl, ?_⟩) (fun _ => trivial) hT4 ?_
      rotate_left
      · (intro w hSw; (try dsimp only at hSw); go_simp); try with_reducible rfl
      try simp only [Act.put, List.setIfInBounds_toArray, List.set_cons_zero, List.set_cons_succ]
      refine wpAnyT_take' (i := 14) (some 55) (v := ?_) rfl rfl (by kernel_rfl) (by kernel_rfl) (by kernel_rfl) (by decide) (fun _ _ _ h => h) (Or.inl ⟨by rfl, ?_⟩) (fun _ => trivial) hT4 ?_
      rotate_left
      · (intro w hSw; (try dsimp only at hSw); go_simp); try with_reducible rfl
      try simp only [Act.put, List.setIfInBounds_toArray, List.set_cons_zero, List.set_cons_succ]
      refine wpAnyT_one (i := 15) (by kernel_rfl) rfl (fun K hK => ?_)
      go_simp
      refine (head17 _).mono ?_
      rintro e v5 ⟨_, rfl, F5, rfl⟩
      try simp only []
      have hT5 : v5.cell? ⟨tb, 0, none⟩ = some (.int .i64 p) ∧ v5.cell? ⟨tb, 1, none⟩ = some (.int .i64 o) ∧ v5.cell? ⟨tb, 2, none⟩ = some (.slice a1 n1 c1) ∧ v5.cell? ⟨tb, 3, none⟩ = some (.slice a2 n2 c2) ∧ v5.cell? ⟨ub, 0, none⟩ = some (.int .i64 p') ∧ v5.cell? ⟨ub, 1, none⟩ = some (.int .i64 o') ∧ v5.cell? ⟨ub, 2, none⟩ = some (.slice a3 n3 c3) ∧ v5.cell? ⟨ub, 3, none⟩ = some (.slice a4 n4 c4) := ⟨F5.cell (F4.cell (F3.cell (F2.cell (F1.cell z0)))), F5.cell (F4.cell (F3.cell (F2.cell (F1.cell z1)))), F5.cell (F4.cell (F3.cell (F2.cell (F1.cell z2)))), F5.cell (F4.cell (F3.cell (F2.cell (F1.cell z3)))), F5.cell (F4.cell (F3.cell (F2.cell (F1.cell y0)))), F5.cell (F4.cell (F3.cell (F2.cell (F1.cell y1)))), F5.cell (F4.cell (F3.cell (F2.cell (F1.cell y2)))), F5.cell (F4.cell (F3.cell (F2.cell (F1.cell y3))))⟩
      have G5 := G4.trans F5
      refine hK _ _ (fun _ => trivial) hT5 ?_
      clear hK K
      try simp only [Act.put, List.setIfInBounds_toArray, List.set_cons_zero, List.set_cons_succ]
      refine wpAnyT_take' (i := 16) (some 57) (v := ?_) rfl rfl (by kernel_rfl) (by kernel_rfl) (by kernel_rfl) (by decide) (fun _ _ _ h => h) (Or.inl ⟨by rfl, ?_⟩) (fun _ => trivial) hT5 ?_
      rotate_left
      · (intro w hSw; (try dsimp only at hSw); go_simp); try with_reducible rfl
      try simp only [Act.put, List.setIfInBounds_toArray, List.set_cons_zero, List.set_cons_succ]
      refine wpAnyT_take' (i := 17) (some 4) (v := ?_) rfl rfl (by kernel_rfl) (by kernel_rfl) (by kernel_rfl) (by decide) (fun _ _ _ h => h) (Or.inl ⟨by rfl, ?_⟩) (fun _ => trivial) hT5 ?_
      rotate_left
      · (intro w hSw; (try dsimp only at hSw); go_simp); try with_reducible rfl
      try simp only [Act.put, List.setIfInBounds_toArray, List.set_cons_zero, List.set_cons_succ]
      refine wpAnyT_done (by kernel_rfl) ?_ _
      try simp only [Act.put, List.setIfInBounds_toArray, List.set_cons_zero, List.set_cons_succ]
      clear hT0 hT1 hT2 hT3 hT4 hT5
      go_wp2
      go_ret
      exact Post.mk (EVw.out.trans G5) rfl
end Go.Proofs.YtbncdghbnnefdaaGreat

namespace Go.Proofs.YtbncdghbnnefdaaGreat
open Go.RowKit

theorem asks_law (P O : Int) (a1 : Option Addr) (n1 c1 : Nat) (a2 : Option Addr) (n2 c2 : Nat) (Q R : Int) (a3 : Option Addr) (n3 c3 : Nat) (a4 : Option Addr) (n4 c4 : Nat) (w : World)
    (_ : (Lit.int .i64 P).wf = true) (_ : (Lit.int .i64 O).wf = true) (h1 : Rows_ w NodeAt 6 a1 n1) (h2 : Rows_ w TellAt 2 a2 n2) (_ : (Lit.int .i64 Q).wf = true) (_ : (Lit.int .i64 R).wf = true) (h3 : Rows_ w NodeAt 6 a3 n3) (h4 : Rows_ w TellAt 2 a4 n4) :
    Calls Tryz.prog 4 #[.agg #[.int .i64 P, .int .i64 O, .slice a1 n1 c1, .slice a2 n2 c2], .agg #[.int .i64 Q, .int .i64 R, .slice a3 n3 c3, .slice a4 n4 c4]] w fun e w' => e = .returned (.bool true) ∧ Below w.heap.size w w' := by
  refine (asks_law0 P O Q R a1 a2 a3 a4 n1 c1 n2 c2 n3 c3 n4 c4 w h1 h2 h3 h4).mono ?_
  rintro e w' ⟨_, rfl, E, rfl⟩
  exact ⟨rfl, E⟩
end Go.Proofs.YtbncdghbnnefdaaGreat

namespace Go.Proofs.YtbncdghbnnefdaaGreat.tapeAsks
open Go.ChangeShapes Go.WideShapes Go.ChangeAt Go.RowKit
open Go.ChangeMaps (open_string shut_string)
set_option linter.unusedVariables false

theorem own : ownKnob Tryz.prog.godebug = none := by kernel_rfl
theorem laidOut : laidOutB Tryz.prog = true := by kernel_rfl

set_option maxRecDepth 100000 in
theorem lifted (os : Os) (started : os.Started) (H : Type) (enc : TypeId × Value → H) :
    ReturnsInHanded {} Tryz.checked os 4 .any (Rows.tapeAsksSpec.pre6 enc Tryz.prog Tryz.f4 Rows.tapeAsksRow.domain false) (Rows.tapeAsksSpec.post enc Tryz.prog Tryz.f4 false true false false) := by
  refine returnsInHanded_of_change (C := Tryz.checked) own started (by kernel_rfl) Tryz.func4
    (ChangeSpec.witness6 (enc := enc) (C := Tryz.checked) false ⟨#[], #[.agg #[.int .i64 0, .int .i64 0, .slice none 0 0, .slice none 0 0], .agg #[.int .i64 0, .int .i64 0, .slice none 0 0, .slice none 0 0]], []⟩ 8 (by kernel_rfl) (by kernel_rfl) (by kernel_rfl) (by kernel_rfl)) ?_
  intro W base args ds gs before hval0 hW hcnd _
  have hval : ∀ (j : Nat) t v, Tryz.f4.params[j]? = some t → args[j]? = some v → Value.okWide Tryz.prog W .any base t v := hval0
  have hW' := hW
  obtain ⟨p, q, hA0, hV, rfl, hfz, hnd⟩ := hW
  have hA : DataW.TrodAll enc Tryz.prog W 0 (fun _ => true) true Tryz.f4.params.toList args.toList ds p := hA0
  rw [Tryz.params4] at hA hval
  obtain ⟨v0, vs0, d0, ds0, p0, q0, hargs, rfl, rfl, h0, r0⟩ := trodAll_cons hA
  obtain ⟨v1, vs1, d1, ds1, p1, q1, rfl, rfl, rfl, h1, r1⟩ := trodAll_cons r0
  obtain ⟨rfl, rfl, rfl⟩ := trodAll_nil r1
  obtain rfl : args = #[v0, v1] := by cases args; simp_all
  obtain ⟨rfl, rfl⟩ := trodVars_none hV
  have k0 := h0
  have lt0 : ∀ x ∈ p0, x.block < W.heap.size := by obtain ⟨m, hm⟩ := k0; exact DataW.trod_lt m _ _ _ hm
  obtain ⟨cs0, rfl, _⟩ := okWide_struct Tryz.underlying53 (hval 0 53 v0 rfl rfl)
  obtain ⟨fuel0, hf0⟩ := h0
  obtain ⟨P0, O0, a0, n0, c0, b0, m0, e0, hcs0, i0, u0, s0, t0⟩ := tape_value (show DataW.trod _ _ _ _ _ _ fuel0 53 cs0.toList = _ from hf0)
  obtain rfl : cs0 = #[.int .i64 P0, .int .i64 O0, .slice a0 n0 c0, .slice b0 m0 e0] := Array.ext' hcs0
  have k1 := h1
  have lt1 : ∀ x ∈ p1, x.block < W.heap.size := by obtain ⟨m, hm⟩ := k1; exact DataW.trod_lt m _ _ _ hm
  obtain ⟨cs1, rfl, _⟩ := okWide_struct Tryz.underlying53 (hval 1 53 v1 rfl rfl)
  obtain ⟨fuel1, hf1⟩ := h1
  obtain ⟨P1, O1, a1, n1, c1, b1, m1, e1, hcs1, i1, u1, s1, t1⟩ := tape_value (show DataW.trod _ _ _ _ _ _ fuel1 53 cs1.toList = _ from hf1)
  obtain rfl : cs1 = #[.int .i64 P1, .int .i64 O1, .slice a1 n1 c1, .slice b1 m1 e1] := Array.ext' hcs1
  clear hA0 hval0
  refine (Go.Proofs.YtbncdghbnnefdaaGreat.asks_law P0 O0 a0 n0 c0 b0 m0 e0 P1 O1 a1 n1 c1 b1 m1 e1 W i0 u0 s0 t0 i1 u1 s1 t1).mono fun e W' ⟨he, bel⟩ => ?_
  subst he
  exact ⟨_, rfl, _, _, _, [], _, [], hW', trodAll_mk1 (shut_bool Tryz.underlying4 _), (trodAll_cons_mk (Below.trod laidOut (by kernel_rfl) (of_decide_eq_true (by kernel_rfl)) k0 bel lt0) (trodAll_cons_mk (Below.trod laidOut (by kernel_rfl) (of_decide_eq_true (by kernel_rfl)) k1 bel lt1) trodAll_mk0)), rfl, bel.frame _, fun h => by cases h⟩

theorem over : Rows.tapeAsksRow.holds Tryz.pinned (OpenSpec.ofChange Rows.tapeAsksSpec) :=
  OpenClaim.holds_of_wide 4 Tryz.f4 rfl rfl rfl rfl rfl rfl rfl ⟨rfl, rfl, rfl, rfl, rfl⟩ rfl rfl rfl rfl rfl (by kernel_rfl) Tryz.func4 (by kernel_rfl)
    (of_decide_eq_true (by kernel_rfl)) (by unfold Func.isWrapper; first | (rw [if_pos (by decide +kernel)]; kernel_rfl) | (rw [if_neg (by decide +kernel)]; exact ⟨rfl, rfl⟩))
    (fun os started H enc _ => lifted os started H enc)

theorem proved : Rows.TapeAsksSaid :=
  over
#print axioms proved
end Go.Proofs.YtbncdghbnnefdaaGreat.tapeAsks
