/- The law 'TapeLive' returns true for every input, and leaves what it was handed as it was: no condition. -/
import Derived.WalkKit
import Derived.ProofKit
import Derived.OpenShut
import Derived.ShutString
import Derived.ChangeOld
import Derived.Below
import Derived.Lib.SmallJoins
import Derived.Test.YtbncdghbnnefdaaRows
import Derived.Test.YtbncdghbnnefdaaM15
import Derived.Test.YtbncdghbnnefdaaM16
import Derived.Test.YtbncdghbnnefdaaM17

namespace Go.Proofs.Ytbncdghbnnefdaa
open Go.RowKit

theorem list_of {α : Type} {P : Nat → α → Prop} : ∀ n, (∀ i, i < n → ∃ a, P i a) → ∃ L : List α, L.length = n ∧ ∀ (i : Nat) (a : α), L[i]? = some a → P i a
  | 0, _ => ⟨[], rfl, fun i a h => by simp at h⟩
  | n + 1, h => by
    obtain ⟨L, hl, hL⟩ := list_of n (fun i hi => h i (by omega))
    obtain ⟨a, ha⟩ := h n (by omega)
    refine ⟨L ++ [a], by simp [hl], fun i x hx => ?_⟩
    by_cases hi : i < L.length
    · rw [List.getElem?_append_left hi] at hx
      exact hL i x hx
    · have hi' : i = L.length := by have := (List.getElem?_eq_some_iff.1 hx).1; simp at this; omega
      subst hi'
      rw [List.getElem?_concat_length] at hx
      cases hx
      rw [hl]
      exact ha
/-- Six cells from here on are a step as it is handed in. -/
def NodeAt (w : World) (b o : Nat) : Prop := ∃ (p : Nat) (A B : Int) (g : Bool) (a1 : Option Addr) (n1 c1 : Nat) (z1 : List Int) (a2 : Option Addr) (n2 c2 : Nat) (z2 : List Int),
  p < 256 ∧ (Lit.int .i64 A).wf = true ∧ (Lit.int .i64 B).wf = true ∧ Raw w a1 n1 c1 z1 ∧ Raw w a2 n2 c2 z2 ∧
  w.cell? ⟨b, o, none⟩ = some (.int .u8 p) ∧ w.cell? ⟨b, o + 1, none⟩ = some (.int .i64 A) ∧ w.cell? ⟨b, o + 2, none⟩ = some (.int .i64 B) ∧
  w.cell? ⟨b, o + 3, none⟩ = some (.bool g) ∧ w.cell? ⟨b, o + 4, none⟩ = some (.slice a1 n1 c1) ∧ w.cell? ⟨b, o + 5, none⟩ = some (.slice a2 n2 c2)
def TellAt (w : World) (b o : Nat) : Prop := ∃ (s : ByteArray) (i : Int), s.size ≤ maxLen ∧ w.cell? ⟨b, o, none⟩ = some (.string s) ∧ w.cell? ⟨b, o + 1, none⟩ = some (.int .i64 i)
theorem NodeAt.ext {w w' : World} {b o : Nat} (h : NodeAt w b o) (e : Ext w w') : NodeAt w' b o := by
  obtain ⟨p, A, B, g, a1, n1, c1, z1, a2, n2, c2, z2, h1, h2, h3, h4, h5, k0, k1, k2, k3, k4, k5⟩ := h
  exact ⟨p, A, B, g, a1, n1, c1, z1, a2, n2, c2, z2, h1, h2, h3, h4.ext e, h5.ext e, e.cell k0, e.cell k1, e.cell k2, e.cell k3, e.cell k4, e.cell k5⟩
/-- A row of elements, each of so many cells. -/
structure Rows_ (w : World) (P : World → Nat → Nat → Prop) (size : Nat) (a : Option Addr) (n : Nat) : Prop where
  few : n ≤ maxLen
  at_ : n = 0 ∨ ∃ b off, a = some ⟨b, off, none⟩ ∧ ∀ i, i < n → P w b (off + i * size)
theorem Rows_.at {w : World} {P : World → Nat → Nat → Prop} {size : Nat} {a : Option Addr} {n : Nat} (h : Rows_ w P size a n) {i : Nat} (hi : i < n) : ∃ b off, a = some ⟨b, off, none⟩ ∧ P w b (off + i * size) := by
  rcases h.at_ with h0 | ⟨b, off, ha, hc⟩
  · omega
  · exact ⟨b, off, ha, hc i hi⟩
theorem Rows_.steps {w : World} {a : Option Addr} {n : Nat} (h : n ≤ 65536) (hs : n = 0 ∨ ∃ b off, a = some ⟨b, off, none⟩ ∧ ∀ i, i < n → ∃ s, StepCell w b (off + i * 6) s) : ∃ L, ∀ c, Steps w a n c L := by
  rcases hs with h0 | ⟨b, off, ha, hc⟩
  · subst h0
    exact ⟨[], fun c => ⟨rfl, h, .inl rfl⟩⟩
  · obtain ⟨L, hl, hL⟩ := list_of (P := fun i s => StepCell w b (off + i * 6) s) n hc
    exact ⟨L, fun c => ⟨hl, h, .inr ⟨b, off, ha, hL⟩⟩⟩
theorem Rows_.tells {w : World} {a : Option Addr} {n : Nat} (h : Rows_ w TellAt 2 a n) (hf : n ≤ 65536) : ∃ T, ∀ c, Tells w a n c T := by
  rcases h.at_ with h0 | ⟨b, off, ha, hc⟩
  · subst h0
    exact ⟨[], fun c => ⟨rfl, hf, .inl rfl⟩⟩
  · obtain ⟨T, hl, hT⟩ := list_of (P := fun i (t : ByteArray × Int) => w.cell? ⟨b, off + i * 2, none⟩ = some (.string t.1) ∧ w.cell? ⟨b, off + i * 2 + 1, none⟩ = some (.int .i64 t.2)) n (fun i hi => by
      obtain ⟨s, x, _, h1, h2⟩ := hc i hi
      exact ⟨(s, x), h1, h2⟩)
    exact ⟨T, fun c => ⟨hl, hf, .inr ⟨b, off, ha, hT⟩⟩⟩
/-- What Small's truth says. -/
def SmallT (w : World) (a1 : Option Addr) (n1 : Nat) (a2 : Option Addr) (n2 : Nat) : Prop := n1 ≤ 200 ∧ (∃ L, ∀ c, Steps w a1 n1 c L) ∧ ∃ T, ∀ c, Tells w a2 n2 c T

def SmallR (w : World) (a1 : Option Addr) (n1 : Nat) (a2 : Option Addr) (n2 : Nat) (v : Value) : Prop := ∃ r, v = .bool r ∧ (r = true → SmallT w a1 n1 a2 n2)

set_option maxRecDepth 100000 in
set_option maxHeartbeats 8000000 in
theorem small17 (pars out : Int) (a1 a2 : Option Addr) (n1 c1 n2 c2 : Nat) (w : World) (h1 : Rows_ w NodeAt 6 a1 n1) (h2 : Rows_ w TellAt 2 a2 n2) :
    Calls Try.prog 18 #[.agg #[.int .i64 pars, .int .i64 out, .slice a1 n1 c1, .slice a2 n2 c2]] w (Post w fun v _ => SmallR w a1 n1 a2 n2 v) := by
  have F1 := h1.few
  have F2 := h2.few
  unfold maxLen at F1 F2
  by_cases g1 : n1 ≤ 200
  · by_cases g2 : n2 ≤ 50
    · have g1' : ¬ (200 : Int) < n1 := by omega
      have g2' : ¬ (50 : Int) < n2 := by omega
      have H1 := Lib.hid h1
      have H2 := Lib.hid h2
      have HT := Lib.hid (h2.tells (by omega))
      clear h1 h2
      go_enter Try.func18, Try.ntmps18
      go_wp2_with fail
      obtain ⟨tb, htb⟩ : ∃ tb, tb = w.heap.size := ⟨_, rfl⟩
      obtain ⟨W0, hW0⟩ : ∃ W0, W0 = w.alloc (.cells #[.int .i64 pars, .int .i64 out, .slice a1 n1 c1, .slice a2 n2 c2] 46) := ⟨_, rfl⟩
      have E0 : Ext w W0 := by rw [hW0]; exact Ext.of_alloc _ _
      have y2 : W0.cell? ⟨tb, 2, none⟩ = some (.slice a1 n1 c1) := by rw [hW0, htb]; simp [go_sem]
      have y3 : W0.cell? ⟨tb, 3, none⟩ = some (.slice a2 n2 c2) := by rw [hW0, htb]; simp [go_sem]
      rw [← hW0, ← htb]
      clear hW0 htb
      go_loopw [3] (fun k wr => ∃ j : Nat, j ≤ n1 ∧ k = .int .i64 j ∧ Ext W0 wr ∧ Hid (∀ b off, a1 = some ⟨b, off, none⟩ → ∀ i, i < j → ∃ s, StepCell w b (off + i * 6) s)) (fun k _ => n1 - (intOf k).toNat)
      case atStart => exact ⟨0, Nat.zero_le _, rfl, Ext.refl _, Lib.hid (fun _ _ _ i hi => by omega)⟩
      case round =>
        obtain ⟨j, hj, rfl, hext, hall⟩ := hrel
        have x2 := hext.cell y2
        by_cases hlt : j < n1
        · obtain ⟨b, off, rfl, p, A, B, g, a3, n3, c3, z3, a4, n4, c4, z4, hp, hA, hB, hr1, hr2, k0, k1, k2, k3, k4, k5⟩ := H1.out.at hlt
          have hlt' : ((j : Nat) : Int) < n1 := by omega
          obtain ⟨r, hr⟩ : ∃ r, r = (decide (n3 ≤ 3) && decide (n4 ≤ 3)) := ⟨_, rfl⟩
          have HM := Lib.hid (fun W => small06 g a3 a4 n3 c3 n4 c4 W)
          rw [← hr] at HM
          have HK : Hid (r = true → ∃ s, StepCell w b (off + j * 6) s) := Lib.hid (by
            intro e
            rw [hr] at e
            simp at e
            exact ⟨⟨p, A, B, g, rawL n3 z3, rawL n4 z4⟩, a3, n3, c3, a4, n4, c4, k0, k1, k2, k3, k4, k5, hr1.nums (by omega), hr2.nums (by omega), hp, by omega, by omega⟩)
          have EE := E0.trans hext
          replace k3 := EE.cell k3
          replace k4 := EE.cell k4
          replace k5 := EE.cell k5
          clear hr hr1 hr2 k0 k1 k2 hp hA hB EE
          go_wp2_with fail
          refine (HM.out _).mono ?_
          rintro e w2 ⟨_, rfl, E2, rfl⟩
          clear HM
          cases r
          · go_wp2
            go_ret
            exact Post.mk ((E0.trans hext).trans E2) ⟨false, rfl, fun h => by cases h⟩
          · have hall' : Hid (∀ b' off', some (⟨b, off, none⟩ : Addr) = some ⟨b', off', none⟩ → ∀ i, i < j + 1 → ∃ s, StepCell w b' (off' + i * 6) s) := Lib.hid (by
              intro b' off' e i hi
              cases e
              by_cases e' : i = j
              · subst e'; exact HK.out rfl
              · exact hall.out b off rfl i (by omega))
            have hx2 := hext.trans E2
            clear hext E2 k3 k4 k5 hall HK
            go_wp2
            go_roundw
            case rel => exact ⟨j + 1, by omega, by go_num, hx2, hall'⟩
            case measure => simp [intOf]; omega
        · have hlt' : ¬ ((j : Nat) : Int) < n1 := by omega
          have x3 := hext.cell y3
          have HL : Hid (∃ L, ∀ c, Steps w a1 n1 c L) := Lib.hid (Rows_.steps (by omega) (by
            rcases H1.out.at_ with h0 | ⟨b, off, ha, _⟩
            · exact .inl h0
            · exact .inr ⟨b, off, ha, fun i hi => hall.out b off ha i (by omega)⟩))
          clear hall
          go_wp2_with fail
          go_loopw [4] (fun k wq => ∃ i : Nat, i ≤ n2 ∧ k = .int .i64 i ∧ Ext W0 wq) (fun k _ => n2 - (intOf k).toNat)
          case atStart => exact ⟨0, Nat.zero_le _, rfl, hext⟩
          case round =>
            clear hext x2 x3
            obtain ⟨i, hi, rfl, hext⟩ := hrel
            have x3 := hext.cell y3
            by_cases hlt2 : i < n2
            · obtain ⟨b, off, rfl, s, x, hs, q0, q1⟩ := H2.out.at hlt2
              have hlt2' : ((i : Nat) : Int) < n2 := by omega
              replace q0 := (E0.trans hext).cell q0
              unfold maxLen at hs
              by_cases hsz : (200 : Int) < s.size
              · go_wp2
                go_ret
                exact Post.mk (E0.trans hext) ⟨false, rfl, fun h => by cases h⟩
              · go_wp2
                go_roundw
                case rel => exact ⟨i + 1, by omega, by go_num, hext⟩
                case measure => simp [intOf]; omega
            · have hlt2' : ¬ ((i : Nat) : Int) < n2 := by omega
              go_wp2
              go_ret
              exact Post.mk (E0.trans hext) ⟨true, rfl, fun _ => ⟨g1, HL.out, HT.out⟩⟩
    · have g1' : ¬ (200 : Int) < n1 := by omega
      have g2' : (50 : Int) < n2 := by omega
      clear h1 h2
      go_enter Try.func18, Try.ntmps18
      go_wp2
      go_ret
      exact Post.mk (by repeat (first | with_reducible exact Ext.refl _ | with_reducible assumption | (with_reducible refine Ext.alloc ?_ _) | (with_reducible refine Ext.drew ?_) | (with_reducible refine Ext.drewN ?_ _) | (with_reducible refine Ext.set ?_ (by first | (simp; done) | (simp; omega)) _) | (with_reducible refine Ext.trans ?_ (by with_reducible assumption)))) ⟨false, rfl, fun h => by cases h⟩
  · have g1' : (200 : Int) < n1 := by omega
    clear h1 h2
    go_enter Try.func18, Try.ntmps18
    go_wp2
    go_ret
    exact Post.mk (by repeat (first | with_reducible exact Ext.refl _ | with_reducible assumption | (with_reducible refine Ext.alloc ?_ _) | (with_reducible refine Ext.drew ?_) | (with_reducible refine Ext.drewN ?_ _) | (with_reducible refine Ext.set ?_ (by first | (simp; done) | (simp; omega)) _) | (with_reducible refine Ext.trans ?_ (by with_reducible assumption)))) ⟨false, rfl, fun h => by cases h⟩
end Go.Proofs.Ytbncdghbnnefdaa

namespace Go.Proofs.Ytbncdghbnnefdaa
open Go.RowKit

/-- The cells of a row of steps. -/
theorem Steps.news {w : World} {b off n c : Nat} {L : List Step} (h : Steps w (some ⟨b, off, none⟩) n c L) : ∃ news : List Value, news.length = n * 6 ∧ (∀ j u, news[j]? = some u → w.cell? ((⟨b, off, none⟩ : Addr).add j) = some u) ∧
    (∀ u ∈ news, u.oneCell' = true) ∧ (∀ u ∈ news, isU u = false) ∧ ∀ (i : Nat) (s : Step), L[i]? = some s → StepCells w news i s := by
  have hl := h.len
  have hat : ∀ (i : Nat) (s : Step), L[i]? = some s → StepCell w b (off + i * 6) s := by
    intro i s hi
    rcases h.at_ with h0 | ⟨b', off', e, hc⟩
    · have := (List.getElem?_eq_some_iff.1 hi).1; omega
    · cases e; exact hc i s hi
  obtain ⟨news, hn, hc⟩ := list_of (P := fun j (u : Value) => w.cell? ⟨b, off + j, none⟩ = some u ∧ u.oneCell' = true ∧ isU u = false) (n * 6) (fun j hj => by
    have hi : j / 6 < L.length := by omega
    obtain ⟨a1, n1, c1, a2, n2, c2, q0, q1, q2, q3, q4, q5, _⟩ := hat (j / 6) L[j / 6] (List.getElem?_eq_getElem hi)
    have hr : j % 6 = 0 ∨ j % 6 = 1 ∨ j % 6 = 2 ∨ j % 6 = 3 ∨ j % 6 = 4 ∨ j % 6 = 5 := by omega
    have hj6 : off + j = off + j / 6 * 6 + j % 6 := by omega
    rcases hr with e | e | e | e | e | e
    · exact ⟨_, by rw [hj6, e]; exact q0, by simp [Value.oneCell'], by simp [isU]⟩
    · exact ⟨_, by rw [hj6, e]; exact q1, by simp [Value.oneCell'], by simp [isU]⟩
    · exact ⟨_, by rw [hj6, e]; exact q2, by simp [Value.oneCell'], by simp [isU]⟩
    · exact ⟨_, by rw [hj6, e]; exact q3, by simp [Value.oneCell'], by simp [isU]⟩
    · exact ⟨_, by rw [hj6, e]; exact q4, by simp [Value.oneCell'], by simp [isU]⟩
    · exact ⟨_, by rw [hj6, e]; exact q5, by simp [Value.oneCell'], by simp [isU]⟩)
  refine ⟨news, hn, fun j u hj => by rw [Go.WideShapes.add_plain]; exact (hc j u hj).1, fun u hu => ?_, fun u hu => ?_, fun i s hi => ?_⟩
  · obtain ⟨j, hj⟩ := List.getElem?_of_mem hu
    exact (hc j u hj).2.1
  · obtain ⟨j, hj⟩ := List.getElem?_of_mem hu
    exact (hc j u hj).2.2
  · obtain ⟨a1, n1, c1, a2, n2, c2, q0, q1, q2, q3, q4, q5, h1, h2, h3, h4, h5⟩ := hat i s hi
    have hil := (List.getElem?_eq_some_iff.1 hi).1
    have key : ∀ r v, r < 6 → w.cell? ⟨b, off + i * 6 + r, none⟩ = some v → news[6 * i + r]? = some v := by
      intro r v hr hv
      have hlt : 6 * i + r < news.length := by omega
      have hg := List.getElem?_eq_getElem hlt
      have := (hc _ _ hg).1
      rw [show off + (6 * i + r) = off + i * 6 + r by omega, hv] at this
      rw [hg, this]
    refine ⟨#[.int .u8 s.op, .int .i64 s.a, .int .i64 s.b, .bool s.neg, .slice a1 n1 c1, .slice a2 n2 c2], ⟨a1, n1, c1, a2, n2, c2, rfl, h1, h2, h3, h4, h5⟩, ?_⟩
    refine List.ext_getElem? fun r => ?_
    by_cases hr : r < 6
    · rw [List.getElem?_take_of_lt hr, List.getElem?_drop]
      have : r = 0 ∨ r = 1 ∨ r = 2 ∨ r = 3 ∨ r = 4 ∨ r = 5 := by omega
      rcases this with rfl | rfl | rfl | rfl | rfl | rfl
      · exact key 0 _ (by omega) q0
      · exact key 1 _ (by omega) q1
      · exact key 2 _ (by omega) q2
      · exact key 3 _ (by omega) q3
      · exact key 4 _ (by omega) q4
      · exact key 5 _ (by omega) q5
    · rw [List.getElem?_eq_none (by simp; omega), List.getElem?_eq_none (by simp; omega)]
/-- The row is empty, and its block is there. -/
theorem ownsU_empty {V : World} {nb k : Nat} (hb : nb ≤ k) (hk : V.heap[k]? = some (.cells #[] 60 (0, 0))) : OwnsU V nb 60 6 (.slice (some ⟨k, 0, none⟩) 0 0) 0 [] :=
  ⟨⟨rfl, .inr ⟨k, 0, #[], rfl, hb, hk, Nat.le_refl _, Nat.zero_le _, rfl, rfl⟩⟩, fun g cur t fr hg hh => by
    cases hg
    rw [hk] at hh
    cases hh
    intro u hu
    cases hu⟩
/-- Where the ways join: the copy is made, and the step behind it lies in a block of its own. -/
def Joined (W5 : World) (nb n : Nat) (news six : List Value) (V : World) (v93 v96 v100 : Value) : Prop :=
  Ext W5 V ∧ (∃ g cap, v96 = .slice (some ⟨g, 0, none⟩) n cap) ∧ OwnsU V nb 60 6 v96 n news ∧ ∃ k, v100 = .slice (some ⟨k, 0, none⟩) 1 1 ∧ nb ≤ k ∧ V.heap[k]? = some (.cells six.toArray 60 (0, 0)) ∧ v96.ownBlock ≠ some k ∧ v93 = v93
theorem three_ways {A G : World → Value → Value → Value → Prop} {X : Prop} (h1 : (∀ W a b c, A W a b c → G W a b c) → X) (h2 : ∀ W a b c, A W a b c → G W a b c) : X := h1 h2
/-- The row with the step behind it, as steps. -/
theorem more_steps {w V : World} {nb n g cap : Nat} {L : List Step} {news : List Value} {s : Step} {v : Array Value} (e : Ext w V) (hl : L.length = n) (hn : n ≤ 60000) (hnl : news.length = n * 6)
    (hst : ∀ (i : Nat) (s : Step), L[i]? = some s → StepCells w news i s) (hs : IsStep V (.agg v) s) (hv : v.size = 6)
    (ho : OwnsU V nb 60 6 (.slice (some ⟨g, 0, none⟩) (n + 1) cap) (n + 1) (news ++ v.toList)) : Steps V (some ⟨g, 0, none⟩) (n + 1) cap (L ++ [s]) := by
  have hl' : (L ++ [s]).length = n + 1 := by simp [hl]
  have := steps_of (L := L ++ [s]) (cells := news ++ v.toList) (a := some ⟨g, 0, none⟩) (c := cap) (B := nb) (w := V) (by rw [hl']; exact ho.1) (by omega) (fun i t hi => by
    by_cases hil : i < L.length
    · rw [List.getElem?_append_left hil] at hi
      obtain ⟨u, h1, h2⟩ := hst i t hi
      have h3 : StepCells V news i t := ⟨u, h1.keep e.keeps, h2⟩
      exact h3.append (by omega)
    · have hil' : i = L.length := by have := (List.getElem?_eq_some_iff.1 hi).1; simp at this; omega
      subst hil'
      rw [List.getElem?_concat_length] at hi
      cases hi
      exact StepCells.last hs (by omega) hv)
  rw [hl'] at this
  exact this
theorem allT_more {T : List (ByteArray × Int)} {n : Nat} (h : allT T n = true) : allT T (n + 1) = true := by
  rw [allT_iff] at h ⊢
  intro i t hi
  have := h i t hi
  omega
theorem check_more {pars : Int} {o : Nat} {L : List Step} {T : List (ByteArray × Int)} (h : checkP pars o L T = 0) (h200 : L.length ≤ 200) : checkP pars (L.length : Nat) (L ++ [opStep 7 o 0]) T = 0 := by
  obtain ⟨hh, hr, hal⟩ := check_parts h
  unfold headOk at hh
  unfold checkP
  rw [if_pos]
  refine ⟨?_, (allR_iff _ _).2 fun i s hi => ?_, ?_⟩
  · unfold headOk
    simp
    omega
  · by_cases hil : i < L.length
    · rw [List.getElem?_append_left hil] at hi
      exact hr i s hi
    · have hil' : i = L.length := by have := (List.getElem?_eq_some_iff.1 hi).1; simp at this; omega
      subst hil'
      rw [List.getElem?_concat_length] at hi
      cases hi
      show rightP ⟨7, o, 0, false, [], []⟩ _ _ = true
      unfold rightP
      have hf : fieldsN 7 = 4 := by decide
      simp only [hf]
      simp [noneC, ahead]
      omega
  · simp only [List.length_append, List.length_singleton]
    exact allT_more hal
theorem uses_neg (o : Nat) : ∀ j, uses (opStep 7 o 0) j ↔ j = o := by
  intro j
  unfold uses opStep
  have hf : fieldsN 7 = 4 := by decide
  simp only [hf]
  constructor
  · rintro (⟨h, _⟩ | ⟨_, h⟩)
    · omega
    · omega
  · intro e
    exact .inr ⟨by first | rfl | trivial, by omega⟩
end Go.Proofs.Ytbncdghbnnefdaa

namespace Go.Proofs.Ytbncdghbnnefdaa
open Go.RowKit

/-- The steps that the live ones have, of the first k. -/
def UsedAt (L : List Step) (S : List Bool) (k : Nat) (U : List Bool) : Prop := U.length = L.length ∧ ∀ j, j < L.length → (U[j]? = some true ↔ ∃ i s, i < k ∧ L[i]? = some s ∧ S[i]? = some true ∧ uses s j)
theorem used_start (L : List Step) (S : List Bool) : UsedAt L S 0 (List.replicate L.length false) := by
  refine ⟨by simp, fun j hj => ?_⟩
  rw [List.getElem?_replicate]
  constructor
  · intro h
    split at h <;> simp at h
  · rintro ⟨i, s, h, _⟩
    omega
theorem used_skip {L : List Step} {S : List Bool} {k : Nat} {U : List Bool} {s : Step} (h : UsedAt L S k U) (hs : L[k]? = some s) (hn : S[k]? = some true → ∀ j, ¬ uses s j) : UsedAt L S (k + 1) U := by
  refine ⟨h.1, fun j hj => ?_⟩
  rw [h.2 j hj]
  constructor
  · rintro ⟨i, t, h0, h1⟩
    exact ⟨i, t, by omega, h1⟩
  · rintro ⟨i, t, h0, h1, h2, h3⟩
    refine ⟨i, t, ?_, h1, h2, h3⟩
    by_cases e : i = k
    · subst e
      rw [hs] at h1
      cases h1
      exact absurd h3 (hn h2 j)
    · omega
theorem used_mark {L : List Step} {S : List Bool} {k : Nat} {U : List Bool} {s : Step} (h : UsedAt L S k U) (hs : L[k]? = some s) (hl : S[k]? = some true) (hu : ∀ j : Int, (fieldsN s.op = 3 ∧ (s.a = j ∨ s.b = j)) ∨ (fieldsN s.op = 4 ∧ s.a = j) → 0 ≤ j ∧ j < L.length) : UsedAt L S (k + 1) (markS U s) := by
  refine ⟨by rw [markS_len]; exact h.1, fun j hj => ?_⟩
  rw [markS_at h.1 hu, h.2 j hj]
  constructor
  · rintro (⟨i, t, h0, h1⟩ | h1)
    · exact ⟨i, t, by omega, h1⟩
    · exact ⟨k, s, by omega, hs, hl, h1⟩
  · rintro ⟨i, t, h0, h1, h2, h3⟩
    by_cases e : i = k
    · subst e
      rw [hs] at h1
      cases h1
      exact .inr h3
    · exact .inl ⟨i, t, by omega, h1, h2, h3⟩
theorem live_used {L : List Step} {o : Nat} {S U : List Bool} (h : LiveAt L o 0 S) (u : UsedAt L S L.length U) {j : Nat} (hj : j < L.length) : S[j]?.getD false = (U[j]?.getD false || decide (j = o)) := by
  have h1 := h.2 j hj
  have h2 := u.2 j hj
  have l1 := h.1
  have l2 := u.1
  have e : S[j]? = some true ↔ (j = o ∨ U[j]? = some true) := by
    rw [h1, h2]
    constructor
    · rintro (e | ⟨i, s, _, hs, hi, hu⟩)
      · exact .inl e
      · exact .inr ⟨i, s, (List.getElem?_eq_some_iff.1 hs).1, hs, hi, hu⟩
    · rintro (e | ⟨i, s, _, hs, hi, hu⟩)
      · exact .inl e
      · exact .inr ⟨i, s, Nat.zero_le _, hs, hi, hu⟩
  rw [List.getElem?_eq_getElem (by omega), List.getElem?_eq_getElem (by omega)] at e ⊢
  simp only [Option.getD_some, Option.some.injEq] at e ⊢
  cases hs : S[j] <;> cases hu : U[j] <;> simp [hs, hu] at e ⊢ <;> simp [e]
theorem op_bounds {s : Step} {i pars : Int} (hr : rightP s i pars = true) : 1 ≤ s.op ∧ s.op ≤ 11 := by
  have : fieldsN s.op ≠ 0 := by
    intro e
    unfold rightP at hr
    rw [if_neg (by omega), if_neg (by omega), if_neg (by omega), if_neg (by omega)] at hr
    cases hr
  unfold fieldsN at this
  split at this
  · omega
  · split at this
    · omega
    · split at this
      · omega
      · split at this
        · omega
        · exact absurd rfl this
theorem fields_lo {op : Nat} (h1 : op < 3) : fieldsN op ≠ 3 ∧ fieldsN op ≠ 4 := by
  unfold fieldsN
  constructor <;> (repeat' split) <;> omega
theorem fields_mid {op : Nat} (h1 : 3 ≤ op) (h2 : op ≤ 6) : fieldsN op = 3 := by
  unfold fieldsN
  rw [if_neg (by omega), if_neg (by omega), if_pos ⟨h1, h2⟩]
theorem fields_hi {op : Nat} (h1 : 7 ≤ op) (h2 : op ≤ 11) : fieldsN op = 4 := by
  unfold fieldsN
  rw [if_neg (by omega), if_neg (by omega), if_neg (by omega), if_pos ⟨h1, h2⟩]

theorem TellAt.ext {w w' : World} {b o : Nat} (h : TellAt w b o) (e : Ext w w') : TellAt w' b o := by
  obtain ⟨s, i, h1, h2, h3⟩ := h
  exact ⟨s, i, h1, e.cell h2, e.cell h3⟩
theorem Rows_.ext {w w' : World} {P : World → Nat → Nat → Prop} {size : Nat} {a : Option Addr} {n : Nat} (h : Rows_ w P size a n) (hP : ∀ b o, P w b o → P w' b o) : Rows_ w' P size a n :=
  ⟨h.few, h.at_.imp id fun ⟨b, off, ha, hc⟩ => ⟨b, off, ha, fun i hi => hP _ _ (hc i hi)⟩⟩
set_option linter.unusedSimpArgs false in
set_option maxRecDepth 100000 in
set_option maxHeartbeats 16000000 in
theorem live_law0 (pars out : Int) (a1 a2 : Option Addr) (n1 c1 n2 c2 : Nat) (w : World) (h1 : Rows_ w NodeAt 6 a1 n1) (h2 : Rows_ w TellAt 2 a2 n2) :
    Calls Try.prog 6 #[.agg #[.int .i64 pars, .int .i64 out, .slice a1 n1 c1, .slice a2 n2 c2]] w (Post w fun v _ => v = .bool true) := by
  have HR1 := Lib.hid (fun W (e : Ext w W) => small17 pars out a1 a2 n1 c1 n2 c2 W (h1.ext (fun _ _ h => h.ext e)) (h2.ext (fun _ _ h => h.ext e)))
  clear h1 h2
  go_enter Try.func6, Try.ntmps6
  go_wp2_with fail
  obtain ⟨tb, htb⟩ : ∃ tb, tb = w.heap.size := ⟨_, rfl⟩
  obtain ⟨W0, hW0⟩ : ∃ W0, W0 = w.alloc (.cells #[.int .i64 pars, .int .i64 out, .slice a1 n1 c1, .slice a2 n2 c2] 46) := ⟨_, rfl⟩
  have z0 : W0.cell? ⟨tb, 0, none⟩ = some (.int .i64 pars) := by rw [hW0, htb]; simp [go_sem]
  have z1 : W0.cell? ⟨tb, 1, none⟩ = some (.int .i64 out) := by rw [hW0, htb]; simp [go_sem]
  have z2 : W0.cell? ⟨tb, 2, none⟩ = some (.slice a1 n1 c1) := by rw [hW0, htb]; simp [go_sem]
  have z3 : W0.cell? ⟨tb, 3, none⟩ = some (.slice a2 n2 c2) := by rw [hW0, htb]; simp [go_sem]
  have HEw : Hid (Ext w W0) := Lib.hid (by rw [hW0]; exact Ext.of_alloc _ _)
  rw [← htb, ← hW0]
  clear htb hW0
  refine (HR1.out W0 HEw.out).mono ?_
  rintro e w1 ⟨v, rfl, E1, r, rfl, hT⟩
  have HT0 := Lib.hid hT
  clear hT HR1
  replace z0 := E1.cell z0
  replace z1 := E1.cell z1
  replace z2 := E1.cell z2
  replace z3 := E1.cell z3
  have EW := Lib.hid E1
  clear E1
  cases r
  · go_wp2_with fail
    refine (head17 _).mono ?_
    rintro e w2 ⟨_, rfl, E2, rfl⟩
    go_wp2
    go_ret
    exact Post.mk (HEw.out.trans (EW.out.trans E2)) rfl
  obtain ⟨h200, ⟨L, hL⟩, ⟨T, hTT⟩⟩ := HT0.out rfl
  have hs := hL c1
  have ht := hTT c2
  have Hs := Lib.hid hs
  have Ht := Lib.hid ht
  obtain rfl := hs.len
  clear hL hTT hs ht HT0
  by_cases hck : checkP pars out L T = 0
  rotate_left
  · obtain ⟨q, hq⟩ : ∃ q, q = checkP pars out L T := ⟨_, rfl⟩
    have q0 : ¬ ((q : Int) = 0) := by omega
    have Hq := Lib.hid hq
    clear hq hck
    go_wp2_with fail
    refine (check_any _ _ _ _ _ _ _ _ _ _ _ (Hs.out.ext EW.out) (Ht.out.ext EW.out)).mono ?_
    rintro e w2 ⟨_, rfl, E2, rfl⟩
    rw [← Hq.out]
    go_wp2_with fail
    refine (head17 _).mono ?_
    rintro e w3 ⟨_, rfl, E3, rfl⟩
    go_wp2
    go_ret
    exact Post.mk (HEw.out.trans ((EW.out.trans E2).trans E3)) rfl
  obtain ⟨hh, hr, hal⟩ := check_parts hck
  unfold headOk at hh
  obtain ⟨g1, g2, g3, g4, g5, g6⟩ := hh
  obtain ⟨o, rfl⟩ := Int.eq_ofNat_of_zero_le g5
  have HD := Lib.hid (down_of hr)
  have HR := Lib.hid hr
  have HAL := Lib.hid hal
  have HCK := Lib.hid hck
  have hol : o < L.length := by omega
  clear hr hal hck g1 g2
  go_wp2_with fail
  refine (check_any _ _ _ _ _ _ _ _ _ _ _ (Hs.out.ext EW.out) (Ht.out.ext EW.out)).mono ?_
  rintro e w2 ⟨_, rfl, E2, rfl⟩
  rw [HCK.out]
  replace z0 := E2.cell z0
  replace z1 := E2.cell z1
  replace z2 := E2.cell z2
  replace z3 := E2.cell z3
  replace EW := Lib.hid (EW.out.trans E2)
  clear E2
  go_wp2_with fail
  refine (live_any _ _ _ _ _ _ _ _ _ _ _ (Hs.out.ext EW.out) (Ht.out.ext EW.out)).mono ?_
  rintro e w3 ⟨v, rfl, E3, hres⟩
  obtain ⟨g, S, rfl, _, hS, hLA⟩ := hres.2 HCK.out
  rw [Int.toNat_natCast] at hLA
  replace z0 := E3.cell z0
  replace z1 := E3.cell z1
  replace z2 := E3.cell z2
  replace z3 := E3.cell z3
  replace EW := Lib.hid (EW.out.trans E3)
  have hlenS := hLA.1
  have xo : w3.cell? ⟨g, o, none⟩ = some (.bool true) := by
    rw [hS.cell (by omega), (hLA.2 o hol).2 (.inl rfl)]; rfl
  have HLA := Lib.hid hLA
  have HSt := Lib.hid hS
  have hmk := run_make_bool L.length (by omega) w3
  obtain ⟨W3, hW3⟩ : ∃ W3, W3 = w3.alloc (.cells (bls (List.replicate L.length false)).toArray 4) := ⟨_, rfl⟩
  obtain ⟨u, hu⟩ : ∃ u, u = w3.heap.size := ⟨_, rfl⟩
  rw [← hW3, ← hu] at hmk
  have hU : Truths W3 u (List.replicate L.length false) := by rw [hW3, hu]; exact heap_alloc_new w3 _
  have EU : Ext w3 W3 := by rw [hW3]; exact Ext.of_alloc _ _
  have hub : W0.heap.size ≤ u := by rw [hu]; exact EW.out.size
  have hgu : g < u := by rw [hu]; exact hS.lt
  have htu : tb < u := by rw [hu]; have := World.block_lt_of_cell? _ _ z1; simpa using this
  have Hu := Lib.hid hu
  clear E3 hres hLA hS hW3 hu
  go_wp2_with fail
  have HUA := Lib.hid (used_start L S)
  obtain ⟨U0, hU0⟩ : ∃ U0, U0 = List.replicate L.length false := ⟨_, rfl⟩
  rw [← hU0] at HUA hU
  have HU := Lib.hid hU
  have EU3 := Lib.hid EU
  clear hU0 hU hmk EU xo
  go_loopw [5] (fun k wr => ∃ (j : Nat) (U : List Bool), j ≤ L.length ∧ k = .int .i64 j ∧ Truths wr u U ∧ Ext w3 wr ∧ Hid (UsedAt L S j U)) (fun k _ => L.length - (intOf k).toNat)
  case atStart => exact ⟨0, U0, Nat.zero_le _, rfl, HU.out, EU3.out, HUA⟩
  case round =>
    clear HU EU3 HUA
    obtain ⟨j, U, hj, rfl, hT, hE, hUA⟩ := hrel
    have hlenU := hUA.out.1
    have y1 := hE.cell z1
    have y2 := hE.cell z2
    by_cases hlt : j < L.length
    · have hlt' : ((j : Nat) : Int) < L.length := by omega
      obtain ⟨b, off, s, rfl, hs, a3, m3, c3, a4, m4, c4, q0, q1, q2, q3, q4, q5, q6, q7, q8⟩ := ((Hs.out.ext EW.out).ext hE).at hlt
      have x1 := (HSt.out.ext hE).cell (i := j) (by omega)
      obtain ⟨t, ht⟩ : ∃ t, t = S[j]?.getD false := ⟨_, rfl⟩
      rw [← ht] at x1
      have hst : t = true → S[j]? = some true := by
        intro e
        rw [e] at ht
        rw [List.getElem?_eq_getElem (by omega)] at ht ⊢
        rw [Option.getD_some] at ht
        rw [← ht]
      have hsf : t = false → S[j]? ≠ some true := by
        intro e e'
        rw [e, e'] at ht
        cases ht
      have hrt := HR.out j s hs
      have hob := op_bounds hrt
      have hrb := right_bounds hrt
      have Hsi := Lib.hid hs
      have Hst := Lib.hid (And.intro hst hsf)
      have HT := Lib.hid hT
      have HE := Lib.hid hE
      have hwl := World.block_lt_of_cell? _ _ x1
      have hul := hT.lt
      simp at hwl
      clear hst hsf ht hs q6 q7 hE
      cases t
      · have HK := Lib.hid (used_skip hUA.out Hsi.out (fun h => absurd h (Hst.out.2 rfl)))
        clear hUA hT hrt hrb
        go_wp2
        go_roundw
        case rel => exact ⟨j + 1, U, by omega, by go_num, HT.out.ext (Ext.of_alloc _ _), HE.out.alloc _, HK⟩
        case measure => simp [intOf]; omega
      · by_cases h3 : s.op < 3
        · have HK := Lib.hid (used_skip hUA.out Hsi.out (fun _ i hu => by
            have := fields_lo h3
            rcases hu with ⟨e, _⟩ | ⟨e, _⟩
            · exact this.1 e
            · exact this.2 e))
          have h3' : ((s.op : Nat) : Int) < 3 := by omega
          clear hUA hT hrt hrb
          go_wp2
          go_roundw
          case rel => exact ⟨j + 1, U, by omega, by go_num, HT.out.ext (Ext.of_alloc _ _), HE.out.alloc _, HK⟩
          case measure => simp [intOf]; omega
        · have h3' : ¬ ((s.op : Nat) : Int) < 3 := by omega
          by_cases h6 : s.op ≤ 6
          · have h6' : ((s.op : Nat) : Int) ≤ 6 := by omega
            have hf3 := fields_mid (by omega) h6
            obtain ⟨b1, b2, b3, b4⟩ := hrb.1 hf3
            have hm := used_mark hUA.out Hsi.out (Hst.out.1 rfl) (fun i hi => by
              rcases hi with ⟨_, e | e⟩ | ⟨e, _⟩
              · omega
              · omega
              · omega)
            have em : markS U s = (U.set s.b.toNat true).set s.a.toNat true := by unfold markS; rw [if_pos hf3]
            rw [em] at hm
            have HK := Lib.hid hm
            clear hm em hUA hrt hrb Hst
            obtain ⟨op, sa, sb, neg, xs, ys⟩ := s
            simp only at *
            obtain ⟨sa, rfl⟩ := Int.eq_ofNat_of_zero_le b1
            obtain ⟨sb, rfl⟩ := Int.eq_ofNat_of_zero_le b3
            simp only [Int.toNat_natCast] at HK
            have e1 : (U.set sb true).set sa true = (U.set sa true).set sb true := by
              by_cases e : sa = sb
              · subst e; rfl
              · exact List.set_comm _ _ (by omega)
            rw [e1] at HK
            have hT2 := hT.set sa true
            have hT3 := hT2.set sb true
            have fz1 := hT.frozen sa
            have fz2 := hT.frozen sb
            have v1 := hT.cell (i := sa) (by omega)
            have v2 := hT2.cell (i := sb) (by simp; omega)
            have HT3 := Lib.hid hT3
            have HEE : Hid (Ext w3 ((wr.setCell ⟨u, sa, none⟩ (.bool true)).setCell ⟨u, sb, none⟩ (.bool true))) := Lib.hid (Below.setCell (p := ⟨u, sb, none⟩) (Below.setCell (p := ⟨u, sa, none⟩) HE.out (by rw [← Hu.out]; exact Nat.le_refl _) _) (by rw [← Hu.out]; exact Nat.le_refl _) _)
            clear hT hT2 hT3 HT HE e1
            go_wp2
            go_roundw
            case rel => exact ⟨j + 1, _, by omega, by go_num, HT3.out.ext (Ext.of_alloc _ _), HEE.out.alloc _, HK⟩
            case measure => simp [intOf]; omega
          · have h6' : ¬ ((s.op : Nat) : Int) ≤ 6 := by omega
            have hf4 := fields_hi (by omega) hob.2
            obtain ⟨b1, b2⟩ := hrb.2 hf4
            have hm := used_mark hUA.out Hsi.out (Hst.out.1 rfl) (fun i hi => by
              rcases hi with ⟨e, _⟩ | ⟨_, e⟩
              · omega
              · omega)
            have em : markS U s = U.set s.a.toNat true := by unfold markS; rw [if_neg (by omega), if_pos hf4]
            rw [em] at hm
            have HK := Lib.hid hm
            clear hm em hUA hrt hrb Hst
            obtain ⟨op, sa, sb, neg, xs, ys⟩ := s
            simp only at *
            obtain ⟨sa, rfl⟩ := Int.eq_ofNat_of_zero_le b1
            simp only [Int.toNat_natCast] at HK
            have hT2 := hT.set sa true
            have fz1 := hT.frozen sa
            have v1 := hT.cell (i := sa) (by omega)
            have HT3 := Lib.hid hT2
            have HEE : Hid (Ext w3 (wr.setCell ⟨u, sa, none⟩ (.bool true))) := Lib.hid (Below.setCell (p := ⟨u, sa, none⟩) HE.out (by rw [← Hu.out]; exact Nat.le_refl _) _)
            clear hT hT2 HT HE
            go_wp2
            go_roundw
            case rel => exact ⟨j + 1, _, by omega, by go_num, HT3.out.ext (Ext.of_alloc _ _), HEE.out.alloc _, HK⟩
            case measure => simp [intOf]; omega
    · have hlt' : ¬ ((j : Nat) : Int) < L.length := by omega
      obtain rfl : j = L.length := by omega
      have HLU := Lib.hid (fun (j : Nat) (hj : j < L.length) => live_used HLA.out hUA.out hj)
      have HTr := Lib.hid hT
      have EW4 := Lib.hid (EW.out.trans hE)
      obtain ⟨W4, rfl⟩ : ∃ W4 : World, W4 = wr := ⟨_, rfl⟩
      have hS4 := HSt.out.ext hE
      have HS4 := Lib.hid hS4
      replace z0 := hE.cell z0
      replace z1 := hE.cell z1
      replace z2 := hE.cell z2
      replace z3 := hE.cell z3
      clear hUA hT hE y1 y2 hS4 hj hlt hlt' Hu
      go_wp2_with fail
      go_loopw [7] (fun k wq => ∃ i : Nat, i ≤ L.length ∧ k = .int .i64 i ∧ Ext W4 wq) (fun k _ => L.length - (intOf k).toNat)
      case atStart => exact ⟨0, Nat.zero_le _, rfl, Ext.refl _⟩
      case round =>
        obtain ⟨i, hi, rfl, hE⟩ := hrel
        by_cases hlt : i < L.length
        · have hlt' : ((i : Nat) : Int) < L.length := by omega
          have x1 := (HS4.out.ext hE).cell (i := i) (by omega)
          have x2 := (HTr.out.ext hE).cell (i := i) (by omega)
          have x3 := hE.cell z1
          have heq := HLU.out i hlt
          obtain ⟨t, ht⟩ : ∃ t, t = S[i]?.getD false := ⟨_, rfl⟩
          obtain ⟨q, hq⟩ : ∃ q, q = U[i]?.getD false := ⟨_, rfl⟩
          rw [← ht] at x1 heq
          rw [← hq] at x2 heq
          clear ht hq
          subst heq
          go_wp2_with fail
          cases q
          · rw [Bool.false_or] at x1
            refine wp_region_T (fun _ => True) (fun w' : World => w'.cell? ⟨g, i, none⟩ = some (.bool (decide (i = o))) ∧ w'.cell? ⟨u, i, none⟩ = some (.bool false) ∧ w'.cell? ⟨tb, 1, none⟩ = some (.int .i64 o)) 99 15 (by rfl) (by kernel_rfl) ?_
            have hT0 : wr.drew.cell? ⟨g, i, none⟩ = some (.bool (decide (i = o))) ∧ wr.drew.cell? ⟨u, i, none⟩ = some (.bool false) ∧ wr.drew.cell? ⟨tb, 1, none⟩ = some (.int .i64 o) := ⟨x1, x2, x3⟩
            refine wpAnyT_take' (i := 0) (some 77) (v := ?_) rfl rfl (by kernel_rfl) (by kernel_rfl) (by kernel_rfl) (by decide) (fun _ _ _ h => h) (Or.inl ⟨by rfl, ?_⟩) (fun _ => trivial) hT0 ?_
            rotate_left
            · (intro w hSw; (try dsimp only at hSw); go_simp); try with_reducible rfl
            try simp only [Act.put, List.setIfInBounds_toArray, List.set_cons_zero, List.set_cons_succ]
            refine wpAnyT_take' (i := 1) (some 78) (v := ?_) rfl rfl (by kernel_rfl) (by kernel_rfl) (by kernel_rfl) (by decide) (fun _ _ _ h => h) (Or.inl ⟨by rfl, ?_⟩) (fun _ => trivial) hT0 ?_
            rotate_left
            · (intro w hSw; (try dsimp only at hSw); go_simp); try with_reducible rfl
            try simp only [Act.put, List.setIfInBounds_toArray, List.set_cons_zero, List.set_cons_succ]
            refine wpAnyT_take' (i := 2) (some 79) (v := ?_) rfl rfl (by kernel_rfl) (by kernel_rfl) (by kernel_rfl) (by decide) (fun _ _ _ h => h) (Or.inl ⟨by rfl, ?_⟩) (fun _ => trivial) hT0 ?_
            rotate_left
            · (intro w hSw; (try dsimp only at hSw); go_simp); try with_reducible rfl
            try simp only [Act.put, List.setIfInBounds_toArray, List.set_cons_zero, List.set_cons_succ]
            refine wpAnyT_take' (i := 3) (some 80) (v := ?_) rfl rfl (by kernel_rfl) (by kernel_rfl) (by kernel_rfl) (by decide) (fun _ _ _ h => h) (Or.inl ⟨by rfl, ?_⟩) (fun _ => trivial) hT0 ?_
            rotate_left
            · (intro w hSw; (try dsimp only at hSw); go_simp); try with_reducible rfl
            try simp only [Act.put, List.setIfInBounds_toArray, List.set_cons_zero, List.set_cons_succ]
            refine wpAnyT_take' (i := 4) (some 81) (v := ?_) rfl rfl (by kernel_rfl) (by kernel_rfl) (by kernel_rfl) (by decide) (fun _ _ _ h => h) (Or.inl ⟨by rfl, ?_⟩) (fun _ => trivial) hT0 ?_
            rotate_left
            · (intro w hSw; (try dsimp only at hSw); go_simp); try with_reducible rfl
            try simp only [Act.put, List.setIfInBounds_toArray, List.set_cons_zero, List.set_cons_succ]
            refine wpAnyT_take' (i := 5) (some 82) (v := ?_) rfl rfl (by kernel_rfl) (by kernel_rfl) (by kernel_rfl) (by decide) (fun _ _ _ h => h) (Or.inl ⟨by rfl, ?_⟩) (fun _ => trivial) hT0 ?_
            rotate_left
            · (intro w hSw; (try dsimp only at hSw); go_simp); try with_reducible rfl
            try simp only [Act.put, List.setIfInBounds_toArray, List.set_cons_zero, List.set_cons_succ]
            refine wpAnyT_take' (i := 6) (some 83) (v := ?_) rfl rfl (by kernel_rfl) (by kernel_rfl) (by kernel_rfl) (by decide) (fun _ _ _ h => h) (Or.inl ⟨by rfl, ?_⟩) (fun _ => trivial) hT0 ?_
            rotate_left
            · (intro w hSw; (try dsimp only at hSw); go_simp); try with_reducible rfl
            try simp only [Act.put, List.setIfInBounds_toArray, List.set_cons_zero, List.set_cons_succ]
            refine wpAnyT_take' (i := 7) (some 84) (v := ?_) rfl rfl (by kernel_rfl) (by kernel_rfl) (by kernel_rfl) (by decide) (fun _ _ _ h => h) (Or.inl ⟨by rfl, ?_⟩) (fun _ => trivial) hT0 ?_
            rotate_left
            · (intro w hSw; (try dsimp only at hSw); go_simp); try with_reducible rfl
            try simp only [Act.put, List.setIfInBounds_toArray, List.set_cons_zero, List.set_cons_succ]
            refine wpAnyT_take' (i := 8) (some 85) (v := ?_) rfl rfl (by kernel_rfl) (by kernel_rfl) (by kernel_rfl) (by decide) (fun _ _ _ h => h) (Or.inl ⟨by rfl, ?_⟩) (fun _ => trivial) hT0 ?_
            rotate_left
            · (intro w hSw; (try dsimp only at hSw); go_simp); try with_reducible rfl
            try simp only [Act.put, List.setIfInBounds_toArray, List.set_cons_zero, List.set_cons_succ]
            refine wpAnyT_take' (i := 9) (some 86) (v := ?_) rfl rfl (by kernel_rfl) (by kernel_rfl) (by kernel_rfl) (by decide) (fun _ _ _ h => h) (Or.inl ⟨by rfl, ?_⟩) (fun _ => trivial) hT0 ?_
            rotate_left
            · (intro w hSw; (try dsimp only at hSw); go_simp); try with_reducible rfl
            try simp only [Act.put, List.setIfInBounds_toArray, List.set_cons_zero, List.set_cons_succ]
            refine wpAnyT_take' (i := 10) (some 87) (v := ?_) rfl rfl (by kernel_rfl) (by kernel_rfl) (by kernel_rfl) (by decide) (fun _ _ _ h => h) (Or.inl ⟨by rfl, ?_⟩) (fun _ => trivial) hT0 ?_
            rotate_left
            · (intro w hSw; (try dsimp only at hSw); go_simp); try with_reducible rfl
            try simp only [Act.put, List.setIfInBounds_toArray, List.set_cons_zero, List.set_cons_succ]
            refine wpAnyT_take' (i := 11) (some 88) (v := ?_) rfl rfl (by kernel_rfl) (by kernel_rfl) (by kernel_rfl) (by decide) (fun _ _ _ h => h) (Or.inl ⟨by rfl, ?_⟩) (fun _ => trivial) hT0 ?_
            rotate_left
            · (intro w hSw; (try dsimp only at hSw); go_simp); try with_reducible rfl
            try simp only [Act.put, List.setIfInBounds_toArray, List.set_cons_zero, List.set_cons_succ]
            refine wpAnyT_take' (i := 12) (some 89) (v := ?_) rfl rfl (by kernel_rfl) (by kernel_rfl) (by kernel_rfl) (by decide) (fun _ _ _ h => h) (Or.inl ⟨by rfl, ?_⟩) (fun _ => trivial) hT0 ?_
            rotate_left
            · (intro w hSw; (try dsimp only at hSw); go_simp); try with_reducible rfl
            try simp only [Act.put, List.setIfInBounds_toArray, List.set_cons_zero, List.set_cons_succ]
            refine wpAnyT_take' (i := 13) (some 90) (v := ?_) rfl rfl (by kernel_rfl) (by kernel_rfl) (by kernel_rfl) (by decide) (fun _ _ _ h => h) (Or.inl ⟨by rfl, ?_⟩) (fun _ => trivial) hT0 ?_
            rotate_left
            · (intro w hSw; (try dsimp only at hSw); go_simp); try with_reducible rfl
            try simp only [Act.put, List.setIfInBounds_toArray, List.set_cons_zero, List.set_cons_succ]
            refine wpAnyT_take' (i := 14) (some 91) (v := ?_) rfl rfl (by kernel_rfl) (by kernel_rfl) (by kernel_rfl) (by decide) (fun _ _ _ h => h) (Or.inl ⟨by rfl, ?_⟩) (fun _ => trivial) hT0 ?_
            rotate_left
            · (intro w hSw; (try dsimp only at hSw); go_simp); try with_reducible rfl
            try simp only [Act.put, List.setIfInBounds_toArray, List.set_cons_zero, List.set_cons_succ]
            refine wpAnyT_done (by kernel_rfl) ?_ _
            try simp only [Act.put, List.setIfInBounds_toArray, List.set_cons_zero, List.set_cons_succ]
            by_cases hio : i = o
            · have e : decide (i = o) = true := decide_eq_true hio
              have e2 : (((i : Nat) : Int) == ((o : Nat) : Int)) = true := by simp [hio]
              simp only [e, e2]
              clear hio
              go_wp2
              go_roundw
              case rel => exact ⟨i + 1, by omega, by go_num, hE.drew⟩
              case measure => simp [intOf]; omega
            · have e : decide (i = o) = false := decide_eq_false hio
              have e2 : (((i : Nat) : Int) == ((o : Nat) : Int)) = false := by simp; omega
              simp only [e, e2]
              go_wp2
              go_roundw
              case rel => exact ⟨i + 1, by omega, by go_num, hE.drew⟩
              case measure => simp [intOf]; omega
          · rw [Bool.true_or] at x1
            refine wp_region_T (fun _ => True) (fun w' : World => w'.cell? ⟨g, i, none⟩ = some (.bool true) ∧ w'.cell? ⟨u, i, none⟩ = some (.bool true) ∧ w'.cell? ⟨tb, 1, none⟩ = some (.int .i64 o)) 99 15 (by rfl) (by kernel_rfl) ?_
            have hT0 : wr.drew.cell? ⟨g, i, none⟩ = some (.bool true) ∧ wr.drew.cell? ⟨u, i, none⟩ = some (.bool true) ∧ wr.drew.cell? ⟨tb, 1, none⟩ = some (.int .i64 o) := ⟨x1, x2, x3⟩
            refine wpAnyT_take' (i := 0) (some 77) (v := ?_) rfl rfl (by kernel_rfl) (by kernel_rfl) (by kernel_rfl) (by decide) (fun _ _ _ h => h) (Or.inl ⟨by rfl, ?_⟩) (fun _ => trivial) hT0 ?_
            rotate_left
            · (intro w hSw; (try dsimp only at hSw); go_simp); try with_reducible rfl
            try simp only [Act.put, List.setIfInBounds_toArray, List.set_cons_zero, List.set_cons_succ]
            refine wpAnyT_take' (i := 1) (some 78) (v := ?_) rfl rfl (by kernel_rfl) (by kernel_rfl) (by kernel_rfl) (by decide) (fun _ _ _ h => h) (Or.inl ⟨by rfl, ?_⟩) (fun _ => trivial) hT0 ?_
            rotate_left
            · (intro w hSw; (try dsimp only at hSw); go_simp); try with_reducible rfl
            try simp only [Act.put, List.setIfInBounds_toArray, List.set_cons_zero, List.set_cons_succ]
            refine wpAnyT_take' (i := 2) (some 79) (v := ?_) rfl rfl (by kernel_rfl) (by kernel_rfl) (by kernel_rfl) (by decide) (fun _ _ _ h => h) (Or.inl ⟨by rfl, ?_⟩) (fun _ => trivial) hT0 ?_
            rotate_left
            · (intro w hSw; (try dsimp only at hSw); go_simp); try with_reducible rfl
            try simp only [Act.put, List.setIfInBounds_toArray, List.set_cons_zero, List.set_cons_succ]
            refine wpAnyT_take' (i := 3) (some 80) (v := ?_) rfl rfl (by kernel_rfl) (by kernel_rfl) (by kernel_rfl) (by decide) (fun _ _ _ h => h) (Or.inl ⟨by rfl, ?_⟩) (fun _ => trivial) hT0 ?_
            rotate_left
            · (intro w hSw; (try dsimp only at hSw); go_simp); try with_reducible rfl
            try simp only [Act.put, List.setIfInBounds_toArray, List.set_cons_zero, List.set_cons_succ]
            refine wpAnyT_take' (i := 4) (some 81) (v := ?_) rfl rfl (by kernel_rfl) (by kernel_rfl) (by kernel_rfl) (by decide) (fun _ _ _ h => h) (Or.inl ⟨by rfl, ?_⟩) (fun _ => trivial) hT0 ?_
            rotate_left
            · (intro w hSw; (try dsimp only at hSw); go_simp); try with_reducible rfl
            try simp only [Act.put, List.setIfInBounds_toArray, List.set_cons_zero, List.set_cons_succ]
            refine wpAnyT_take' (i := 5) (some 82) (v := ?_) rfl rfl (by kernel_rfl) (by kernel_rfl) (by kernel_rfl) (by decide) (fun _ _ _ h => h) (Or.inl ⟨by rfl, ?_⟩) (fun _ => trivial) hT0 ?_
            rotate_left
            · (intro w hSw; (try dsimp only at hSw); go_simp); try with_reducible rfl
            try simp only [Act.put, List.setIfInBounds_toArray, List.set_cons_zero, List.set_cons_succ]
            refine wpAnyT_take' (i := 6) (some 83) (v := ?_) rfl rfl (by kernel_rfl) (by kernel_rfl) (by kernel_rfl) (by decide) (fun _ _ _ h => h) (Or.inl ⟨by rfl, ?_⟩) (fun _ => trivial) hT0 ?_
            rotate_left
            · (intro w hSw; (try dsimp only at hSw); go_simp); try with_reducible rfl
            try simp only [Act.put, List.setIfInBounds_toArray, List.set_cons_zero, List.set_cons_succ]
            refine wpAnyT_take' (i := 7) (some 84) (v := ?_) rfl rfl (by kernel_rfl) (by kernel_rfl) (by kernel_rfl) (by decide) (fun _ _ _ h => h) (Or.inl ⟨by rfl, ?_⟩) (fun _ => trivial) hT0 ?_
            rotate_left
            · (intro w hSw; (try dsimp only at hSw); go_simp); try with_reducible rfl
            try simp only [Act.put, List.setIfInBounds_toArray, List.set_cons_zero, List.set_cons_succ]
            refine wpAnyT_take' (i := 8) (some 85) (v := ?_) rfl rfl (by kernel_rfl) (by kernel_rfl) (by kernel_rfl) (by decide) (fun _ _ _ h => h) (Or.inl ⟨by rfl, ?_⟩) (fun _ => trivial) hT0 ?_
            rotate_left
            · (intro w hSw; (try dsimp only at hSw); go_simp); try with_reducible rfl
            try simp only [Act.put, List.setIfInBounds_toArray, List.set_cons_zero, List.set_cons_succ]
            refine wpAnyT_take' (i := 9) (some 86) (v := undef) rfl rfl (by kernel_rfl) (by kernel_rfl) (by kernel_rfl) (by decide) (fun _ _ _ h => h) (Or.inr ⟨by rfl, rfl⟩) (fun _ => trivial) hT0 ?_
            try simp only [Act.put, List.setIfInBounds_toArray, List.set_cons_zero, List.set_cons_succ]
            refine wpAnyT_take' (i := 10) (some 87) (v := undef) rfl rfl (by kernel_rfl) (by kernel_rfl) (by kernel_rfl) (by decide) (fun _ _ _ h => h) (Or.inr ⟨by rfl, rfl⟩) (fun _ => trivial) hT0 ?_
            try simp only [Act.put, List.setIfInBounds_toArray, List.set_cons_zero, List.set_cons_succ]
            refine wpAnyT_take' (i := 11) (some 88) (v := undef) rfl rfl (by kernel_rfl) (by kernel_rfl) (by kernel_rfl) (by decide) (fun _ _ _ h => h) (Or.inr ⟨by rfl, rfl⟩) (fun _ => trivial) hT0 ?_
            try simp only [Act.put, List.setIfInBounds_toArray, List.set_cons_zero, List.set_cons_succ]
            refine wpAnyT_take' (i := 12) (some 89) (v := undef) rfl rfl (by kernel_rfl) (by kernel_rfl) (by kernel_rfl) (by decide) (fun _ _ _ h => h) (Or.inr ⟨by rfl, rfl⟩) (fun _ => trivial) hT0 ?_
            try simp only [Act.put, List.setIfInBounds_toArray, List.set_cons_zero, List.set_cons_succ]
            refine wpAnyT_take' (i := 13) (some 90) (v := ?_) rfl rfl (by kernel_rfl) (by kernel_rfl) (by kernel_rfl) (by decide) (fun _ _ _ h => h) (Or.inl ⟨by rfl, ?_⟩) (fun _ => trivial) hT0 ?_
            rotate_left
            · (intro w hSw; (try dsimp only at hSw); go_simp); try with_reducible rfl
            try simp only [Act.put, List.setIfInBounds_toArray, List.set_cons_zero, List.set_cons_succ]
            refine wpAnyT_take' (i := 14) (some 91) (v := ?_) rfl rfl (by kernel_rfl) (by kernel_rfl) (by kernel_rfl) (by decide) (fun _ _ _ h => h) (Or.inl ⟨by rfl, ?_⟩) (fun _ => trivial) hT0 ?_
            rotate_left
            · (intro w hSw; (try dsimp only at hSw); go_simp); try with_reducible rfl
            try simp only [Act.put, List.setIfInBounds_toArray, List.set_cons_zero, List.set_cons_succ]
            refine wpAnyT_done (by kernel_rfl) ?_ _
            try simp only [Act.put, List.setIfInBounds_toArray, List.set_cons_zero, List.set_cons_succ]
            go_wp2
            go_roundw
            case rel => exact ⟨i + 1, by omega, by go_num, hE.drew⟩
            case measure => simp [intOf]; omega
        · have hlt' : ¬ ((i : Nat) : Int) < L.length := by omega
          obtain ⟨b, off, _, rfl, _, _⟩ := ((Hs.out.ext EW4.out).ext hE).at (show 0 < L.length by omega)
          replace z0 := hE.cell z0
          replace z1 := hE.cell z1
          replace z2 := hE.cell z2
          replace z3 := hE.cell z3
          obtain ⟨news, hnl, hnc, hn1, hn2, hnst⟩ := Hs.out.news
          obtain ⟨i0, hi0, hz0', hz1', hz2'⟩ := info_parts info_node
          have EW5 := Lib.hid (EW4.out.trans hE)
          have HS5 := Lib.hid (HS4.out.ext hE)
          have HN := Lib.hid (And.intro hnl (And.intro hnc (And.intro hn1 (And.intro hn2 hnst))))
          have HI := Lib.hid (And.intro hi0 (And.intro hz0' (And.intro hz1' hz2')))
          have htw := World.block_lt_of_cell? _ _ z1
          simp at htw
          clear hE hnl hnc hn1 hn2 hnst hi0 hz0' hz1' hz2' HS4 EW4 HLU HTr
          go_wp2_with fail
          obtain ⟨ub, hub'⟩ : ∃ ub, ub = wr.heap.size := ⟨_, rfl⟩
          obtain ⟨W5, hW5⟩ : ∃ W5, W5 = wr.alloc (.cells #[.int .i64 pars, .int .i64 o, .slice (some ⟨b, off, none⟩) L.length c1, .slice a2 n2 c2] 46) := ⟨_, rfl⟩
          have E5 : Ext wr W5 := by rw [hW5]; exact Ext.of_alloc _ _
          have p0 : W5.cell? ⟨ub, 0, none⟩ = some (.int .i64 pars) := by rw [hW5, hub']; simp [go_sem]
          have p1 : W5.cell? ⟨ub, 1, none⟩ = some (.int .i64 o) := by rw [hW5, hub']; simp [go_sem]
          have p2 : W5.cell? ⟨ub, 2, none⟩ = some (.slice (some ⟨b, off, none⟩) L.length c1) := by rw [hW5, hub']; simp [go_sem]
          have p3 : W5.cell? ⟨ub, 3, none⟩ = some (.slice a2 n2 c2) := by rw [hW5, hub']; simp [go_sem]
          have pf : ∀ k, W5.frozen? ⟨ub, k, none⟩ = false := by intro k; rw [hW5, hub']; simp [go_sem]
          have lus : ub < W5.heap.size := by rw [hW5, hub']; simp
          have k1 := E5.cell z1
          have k2 := E5.cell z2
          have HB := Lib.hid (And.intro (show wr.heap.size ≤ ub by rw [hub']; exact Nat.le_refl _) (And.intro E5 (And.intro EW5.out HS5.out)))
          have ltub : tb < ub := by omega
          rw [← hW5, ← hub']
          have EW6 := Lib.hid (EW5.out.trans E5)
          have HS6 := Lib.hid (HS5.out.ext E5)
          clear hW5 hub' EW5 HS5 E5 htw
          apply three_ways (A := Joined W5 W5.heap.size L.length news [.int .u8 7, .int .i64 o, .int .i64 0, .bool false, .slice none 0 0, .slice none 0 0])
          intro key
          refine wp_region_T (fun _ => True) (fun W : World => W.cell? ⟨tb, 2, none⟩ = some (.slice (some ⟨b, off, none⟩) L.length c1) ∧ W.cell? ⟨tb, 1, none⟩ = some (.int .i64 o)) 99 11 (by rfl) (by kernel_rfl) ?_
          have hT0 : W5.drew.cell? ⟨tb, 2, none⟩ = some (.slice (some ⟨b, off, none⟩) L.length c1) ∧ W5.drew.cell? ⟨tb, 1, none⟩ = some (.int .i64 o) := ⟨k2, k1⟩
          refine wpAnyT_take' (i := 1) (some 94) (v := ?_) rfl rfl (by kernel_rfl) (by kernel_rfl) (by kernel_rfl) (by decide) (fun _ _ _ h => h) (Or.inl ⟨by rfl, ?_⟩) (fun _ => trivial) hT0 ?_
          rotate_left
          · (intro w hSw; (try dsimp only at hSw); go_simp); try with_reducible rfl
          try simp only [Act.put, List.setIfInBounds_toArray, List.set_cons_zero, List.set_cons_succ]
          refine wpAnyT_take' (i := 2) (some 95) (v := ?_) rfl rfl (by kernel_rfl) (by kernel_rfl) (by kernel_rfl) (by decide) (fun _ _ _ h => h) (Or.inl ⟨by rfl, ?_⟩) (fun _ => trivial) hT0 ?_
          rotate_left
          · (intro w hSw; (try dsimp only at hSw); go_simp); try with_reducible rfl
          try simp only [Act.put, List.setIfInBounds_toArray, List.set_cons_zero, List.set_cons_succ]
          refine wpAnyT_take' (i := 4) (some 97) (v := ?_) rfl rfl (by kernel_rfl) (by kernel_rfl) (by kernel_rfl) (by decide) (fun _ _ _ h => h) (Or.inl ⟨by rfl, ?_⟩) (fun _ => trivial) hT0 ?_
          rotate_left
          · (intro w hSw; (try dsimp only at hSw); go_simp); try with_reducible rfl
          try simp only [Act.put, List.setIfInBounds_toArray, List.set_cons_zero, List.set_cons_succ]
          refine wpAnyT_take' (i := 5) (some 98) (v := ?_) rfl rfl (by kernel_rfl) (by kernel_rfl) (by kernel_rfl) (by decide) (fun _ _ _ h => h) (Or.inl ⟨by rfl, ?_⟩) (fun _ => trivial) hT0 ?_
          rotate_left
          · (intro w hSw; (try dsimp only at hSw); go_simp); try with_reducible rfl
          try simp only [Act.put, List.setIfInBounds_toArray, List.set_cons_zero, List.set_cons_succ]
          refine wpAnyT_take' (i := 6) (some 99) (v := ?_) rfl rfl (by kernel_rfl) (by kernel_rfl) (by kernel_rfl) (by decide) (fun _ _ _ h => h) (Or.inl ⟨by rfl, ?_⟩) (fun _ => trivial) hT0 ?_
          rotate_left
          · (intro w hSw; (try dsimp only at hSw); go_simp); try with_reducible rfl
          try simp only [Act.put, List.setIfInBounds_toArray, List.set_cons_zero, List.set_cons_succ]
          refine wpAnyT_two (i1 := 0) (i2 := 7) (by kernel_rfl) rfl rfl (fun K hK => ?_) (fun K hK => ?_)
          · go_simp
            have EV1 : Ext W5 (W5.alloc (.cells #[] 60)).drew := ((Ext.refl W5).alloc _).drew
            have hT1 : (W5.alloc (.cells #[] 60)).drew.cell? ⟨tb, 2, none⟩ = some (.slice (some ⟨b, off, none⟩) L.length c1) ∧ (W5.alloc (.cells #[] 60)).drew.cell? ⟨tb, 1, none⟩ = some (.int .i64 o) := ⟨EV1.cell k2, EV1.cell k1⟩
            refine hK _ _ (fun _ => trivial) hT1 ?_
            clear hK K
            try simp only [Act.put, List.setIfInBounds_toArray, List.set_cons_zero, List.set_cons_succ]
            have hown1 : OwnsU (W5.alloc (.cells #[] 60)).drew W5.heap.size 60 6 (.slice (some ⟨W5.heap.size, 0, none⟩) 0 0) 0 [] := ownsU_empty (Nat.le_refl _) (heap_alloc_new W5 _)
            refine wpAnyT_two (i1 := 3) (i2 := 7) (by kernel_rfl) rfl rfl (fun K hK => ?_) (fun K hK => ?_)
            · refine step_append_u _ (by rfl) _ _ _ (by rfl) W5.heap.size 60 i0 _ 6 80 Try.underlying43 HI.out.1 HI.out.2.1 HI.out.2.2.1 HI.out.2.2.2 rfl (by omega) (by simp [Value.cells, isU]) (.slice (some ⟨W5.heap.size, 0, none⟩) 0 0) 0 [] (by rfl) hown1 ⟨b, off, none⟩ L.length c1 news (by rfl) HN.out.1 (fun j u hj => Ext.cell (EW6.out.trans EV1) (HN.out.2.1 j u hj)) HN.out.2.2.1 HN.out.2.2.2.1 (by omega) (by unfold maxLen; omega) (by omega) (Ext.size EV1) (W5.heap.size + 1) (by simp) ?_
              intro g1 cap1 V2 hown2 hgrow2 hat2
              simp only [Nat.zero_add, List.nil_append] at hown2 ⊢
              have EV2 : Ext W5 V2 := Ext.grown EV1 hgrow2 (fun k hk => by cases hk; simp)
              have hT2 : V2.cell? ⟨tb, 2, none⟩ = some (.slice (some ⟨b, off, none⟩) L.length c1) ∧ V2.cell? ⟨tb, 1, none⟩ = some (.int .i64 o) := ⟨EV2.cell k2, EV2.cell k1⟩
              refine hK _ _ (fun _ => trivial) hT2 ?_
              clear hK K
              try simp only [Act.put, List.setIfInBounds_toArray, List.set_cons_zero, List.set_cons_succ]
              refine wpAnyT_one (i := 7) (by kernel_rfl) rfl (fun K hK => ?_)
              go_simp
              have EV3 : Ext W5 (V2.alloc (.cells #[.int .u8 7, .int .i64 o, .int .i64 0, .bool false, .slice none 0 0, .slice none 0 0] 60)) := EV2.alloc _
              have hT3 : (V2.alloc (.cells #[.int .u8 7, .int .i64 o, .int .i64 0, .bool false, .slice none 0 0, .slice none 0 0] 60)).cell? ⟨tb, 2, none⟩ = some (.slice (some ⟨b, off, none⟩) L.length c1) ∧ (V2.alloc (.cells #[.int .u8 7, .int .i64 o, .int .i64 0, .bool false, .slice none 0 0, .slice none 0 0] 60)).cell? ⟨tb, 1, none⟩ = some (.int .i64 o) := ⟨EV3.cell k2, EV3.cell k1⟩
              refine hK _ _ (fun _ => trivial) hT3 ?_
              clear hK K
              try simp only [Act.put, List.setIfInBounds_toArray, List.set_cons_zero, List.set_cons_succ]
              rw [show (Array.setIfInBounds (Array.setIfInBounds (Array.setIfInBounds (Array.setIfInBounds (Array.setIfInBounds (Array.setIfInBounds (Array.setIfInBounds (Array.setIfInBounds (Array.replicate 11 false) 1 true) 2 true) 4 true) 5 true) 6 true) 0 true) 3 true) 7 true) = #[true, true, true, true, true, true, true, true, false, false, false] from by decide]
              obtain ⟨v93, hv93⟩ : ∃ v, v = Value.slice (some ⟨W5.heap.size, 0, none⟩) 0 0 := ⟨_, rfl⟩
              obtain ⟨v100, hv100⟩ : ∃ v, v = Value.slice (some ⟨V2.heap.size, 0, none⟩) 1 1 := ⟨_, rfl⟩
              obtain ⟨v96, hv96⟩ : ∃ v, v = Value.slice (some ⟨g1, 0, none⟩) L.length cap1 := ⟨_, rfl⟩
              obtain ⟨V3, hV3⟩ : ∃ V3, V3 = V2.alloc (.cells #[.int .u8 7, .int .i64 o, .int .i64 0, .bool false, .slice none 0 0, .slice none 0 0] 60) := ⟨_, rfl⟩
              have hmd : Joined W5 W5.heap.size L.length news [.int .u8 7, .int .i64 o, .int .i64 0, .bool false, .slice none 0 0, .slice none 0 0] V3 v93 v96 v100 := by
                rw [hV3, hv96, hv100]
                refine ⟨EV3, ⟨g1, cap1, rfl⟩, hown2.alloc _, V2.heap.size, rfl, EV2.size, heap_alloc_new V2 _, fun e => ?_, rfl⟩
                have := (hown2.lt _ e).2
                omega
              rw [← hV3]
              rw [← hv93, ← hv96, ← hv100]
              exact key _ _ _ _ hmd
            · go_simp
              have EV3 : Ext W5 ((W5.alloc (.cells #[] 60)).alloc (.cells #[.int .u8 7, .int .i64 o, .int .i64 0, .bool false, .slice none 0 0, .slice none 0 0] 60)).drew := (((Ext.refl W5).alloc _).alloc _).drew
              have hT3 : ((W5.alloc (.cells #[] 60)).alloc (.cells #[.int .u8 7, .int .i64 o, .int .i64 0, .bool false, .slice none 0 0, .slice none 0 0] 60)).drew.cell? ⟨tb, 2, none⟩ = some (.slice (some ⟨b, off, none⟩) L.length c1) ∧ ((W5.alloc (.cells #[] 60)).alloc (.cells #[.int .u8 7, .int .i64 o, .int .i64 0, .bool false, .slice none 0 0, .slice none 0 0] 60)).drew.cell? ⟨tb, 1, none⟩ = some (.int .i64 o) := ⟨EV3.cell k2, EV3.cell k1⟩
              refine hK _ _ (fun _ => trivial) hT3 ?_
              clear hK K
              try simp only [Act.put, List.setIfInBounds_toArray, List.set_cons_zero, List.set_cons_succ]
              have hown3 : OwnsU ((W5.alloc (.cells #[] 60)).alloc (.cells #[.int .u8 7, .int .i64 o, .int .i64 0, .bool false, .slice none 0 0, .slice none 0 0] 60)).drew W5.heap.size 60 6 (.slice (some ⟨W5.heap.size, 0, none⟩) 0 0) 0 [] := ownsU_empty (Nat.le_refl _) ((Ext.of_alloc (W5.alloc (.cells #[] 60)) _).block (heap_alloc_new W5 _))
              refine wpAnyT_one (i := 3) (by kernel_rfl) rfl (fun K hK => ?_)
              refine step_append_u _ (by rfl) _ _ _ (by rfl) W5.heap.size 60 i0 _ 6 80 Try.underlying43 HI.out.1 HI.out.2.1 HI.out.2.2.1 HI.out.2.2.2 rfl (by omega) (by simp [Value.cells, isU]) (.slice (some ⟨W5.heap.size, 0, none⟩) 0 0) 0 [] (by rfl) hown3 ⟨b, off, none⟩ L.length c1 news (by rfl) HN.out.1 (fun j u hj => Ext.cell (EW6.out.trans EV3) (HN.out.2.1 j u hj)) HN.out.2.2.1 HN.out.2.2.2.1 (by omega) (by unfold maxLen; omega) (by omega) (Ext.size EV3) (W5.heap.size + 2) (by simp) ?_
              intro g1 cap1 V2 hown2 hgrow2 hat2
              simp only [Nat.zero_add, List.nil_append] at hown2 ⊢
              have EV2 : Ext W5 V2 := Ext.grown EV3 hgrow2 (fun k hk => by cases hk; simp)
              have hT2 : V2.cell? ⟨tb, 2, none⟩ = some (.slice (some ⟨b, off, none⟩) L.length c1) ∧ V2.cell? ⟨tb, 1, none⟩ = some (.int .i64 o) := ⟨EV2.cell k2, EV2.cell k1⟩
              refine hK _ _ (fun _ => trivial) hT2 ?_
              clear hK K
              try simp only [Act.put, List.setIfInBounds_toArray, List.set_cons_zero, List.set_cons_succ]
              rw [show (Array.setIfInBounds (Array.setIfInBounds (Array.setIfInBounds (Array.setIfInBounds (Array.setIfInBounds (Array.setIfInBounds (Array.setIfInBounds (Array.setIfInBounds (Array.replicate 11 false) 1 true) 2 true) 4 true) 5 true) 6 true) 0 true) 7 true) 3 true) = #[true, true, true, true, true, true, true, true, false, false, false] from by decide]
              obtain ⟨v93, hv93⟩ : ∃ v, v = Value.slice (some ⟨W5.heap.size, 0, none⟩) 0 0 := ⟨_, rfl⟩
              obtain ⟨v100, hv100⟩ : ∃ v, v = Value.slice (some ⟨(W5.heap.size + 1), 0, none⟩) 1 1 := ⟨_, rfl⟩
              obtain ⟨v96, hv96⟩ : ∃ v, v = Value.slice (some ⟨g1, 0, none⟩) L.length cap1 := ⟨_, rfl⟩
              have hmd : Joined W5 W5.heap.size L.length news [.int .u8 7, .int .i64 o, .int .i64 0, .bool false, .slice none 0 0, .slice none 0 0] V2 v93 v96 v100 := by
                rw [hv96, hv100]
                refine ⟨EV2, ⟨g1, cap1, rfl⟩, hown2, W5.heap.size + 1, rfl, by omega, ?_, fun e => ?_, rfl⟩
                · rw [hgrow2.block (W5.heap.size + 1) (by simp) (by simp [Value.ownBlock])]
                  have := heap_alloc_new (W5.alloc (.cells #[] 60)) (.cells #[.int .u8 7, .int .i64 o, .int .i64 0, .bool false, .slice none 0 0, .slice none 0 0] 60)
                  rw [World.size_alloc] at this
                  exact this
                · rcases hat2 with h | h <;> simp [Value.ownBlock] at h e <;> omega
              rw [← hv93, ← hv96, ← hv100]
              exact key _ _ _ _ hmd
          · go_simp
            have EV1 : Ext W5 (W5.alloc (.cells #[.int .u8 7, .int .i64 o, .int .i64 0, .bool false, .slice none 0 0, .slice none 0 0] 60)).drew := ((Ext.refl W5).alloc _).drew
            have hT1 : (W5.alloc (.cells #[.int .u8 7, .int .i64 o, .int .i64 0, .bool false, .slice none 0 0, .slice none 0 0] 60)).drew.cell? ⟨tb, 2, none⟩ = some (.slice (some ⟨b, off, none⟩) L.length c1) ∧ (W5.alloc (.cells #[.int .u8 7, .int .i64 o, .int .i64 0, .bool false, .slice none 0 0, .slice none 0 0] 60)).drew.cell? ⟨tb, 1, none⟩ = some (.int .i64 o) := ⟨EV1.cell k2, EV1.cell k1⟩
            refine hK _ _ (fun _ => trivial) hT1 ?_
            clear hK K
            try simp only [Act.put, List.setIfInBounds_toArray, List.set_cons_zero, List.set_cons_succ]
            refine wpAnyT_one (i := 0) (by kernel_rfl) rfl (fun K hK => ?_)
            go_simp
            have EV3 : Ext W5 ((W5.alloc (.cells #[.int .u8 7, .int .i64 o, .int .i64 0, .bool false, .slice none 0 0, .slice none 0 0] 60)).alloc (.cells #[] 60)).drew := (((Ext.refl W5).alloc _).alloc _).drew
            have hT3 : ((W5.alloc (.cells #[.int .u8 7, .int .i64 o, .int .i64 0, .bool false, .slice none 0 0, .slice none 0 0] 60)).alloc (.cells #[] 60)).drew.cell? ⟨tb, 2, none⟩ = some (.slice (some ⟨b, off, none⟩) L.length c1) ∧ ((W5.alloc (.cells #[.int .u8 7, .int .i64 o, .int .i64 0, .bool false, .slice none 0 0, .slice none 0 0] 60)).alloc (.cells #[] 60)).drew.cell? ⟨tb, 1, none⟩ = some (.int .i64 o) := ⟨EV3.cell k2, EV3.cell k1⟩
            refine hK _ _ (fun _ => trivial) hT3 ?_
            clear hK K
            try simp only [Act.put, List.setIfInBounds_toArray, List.set_cons_zero, List.set_cons_succ]
            have hown3 : OwnsU ((W5.alloc (.cells #[.int .u8 7, .int .i64 o, .int .i64 0, .bool false, .slice none 0 0, .slice none 0 0] 60)).alloc (.cells #[] 60)).drew W5.heap.size 60 6 (.slice (some ⟨W5.heap.size + 1, 0, none⟩) 0 0) 0 [] := ownsU_empty (by omega) (by have := heap_alloc_new (W5.alloc (.cells #[.int .u8 7, .int .i64 o, .int .i64 0, .bool false, .slice none 0 0, .slice none 0 0] 60)) (.cells #[] 60); rw [World.size_alloc] at this; exact this)
            refine wpAnyT_one (i := 3) (by kernel_rfl) rfl (fun K hK => ?_)
            refine step_append_u _ (by rfl) _ _ _ (by rfl) W5.heap.size 60 i0 _ 6 80 Try.underlying43 HI.out.1 HI.out.2.1 HI.out.2.2.1 HI.out.2.2.2 rfl (by omega) (by simp [Value.cells, isU]) (.slice (some ⟨W5.heap.size + 1, 0, none⟩) 0 0) 0 [] (by rfl) hown3 ⟨b, off, none⟩ L.length c1 news (by rfl) HN.out.1 (fun j u hj => Ext.cell (EW6.out.trans EV3) (HN.out.2.1 j u hj)) HN.out.2.2.1 HN.out.2.2.2.1 (by omega) (by unfold maxLen; omega) (by omega) (Ext.size EV3) (W5.heap.size + 2) (by simp) ?_
            intro g1 cap1 V2 hown2 hgrow2 hat2
            simp only [Nat.zero_add, List.nil_append] at hown2 ⊢
            have EV2 : Ext W5 V2 := Ext.grown EV3 hgrow2 (fun k hk => by cases hk; simp)
            have hT2 : V2.cell? ⟨tb, 2, none⟩ = some (.slice (some ⟨b, off, none⟩) L.length c1) ∧ V2.cell? ⟨tb, 1, none⟩ = some (.int .i64 o) := ⟨EV2.cell k2, EV2.cell k1⟩
            refine hK _ _ (fun _ => trivial) hT2 ?_
            clear hK K
            try simp only [Act.put, List.setIfInBounds_toArray, List.set_cons_zero, List.set_cons_succ]
            rw [show (Array.setIfInBounds (Array.setIfInBounds (Array.setIfInBounds (Array.setIfInBounds (Array.setIfInBounds (Array.setIfInBounds (Array.setIfInBounds (Array.setIfInBounds (Array.replicate 11 false) 1 true) 2 true) 4 true) 5 true) 6 true) 7 true) 0 true) 3 true) = #[true, true, true, true, true, true, true, true, false, false, false] from by decide]
            obtain ⟨v93, hv93⟩ : ∃ v, v = Value.slice (some ⟨(W5.heap.size + 1), 0, none⟩) 0 0 := ⟨_, rfl⟩
            obtain ⟨v100, hv100⟩ : ∃ v, v = Value.slice (some ⟨W5.heap.size, 0, none⟩) 1 1 := ⟨_, rfl⟩
            obtain ⟨v96, hv96⟩ : ∃ v, v = Value.slice (some ⟨g1, 0, none⟩) L.length cap1 := ⟨_, rfl⟩
            have hmd : Joined W5 W5.heap.size L.length news [.int .u8 7, .int .i64 o, .int .i64 0, .bool false, .slice none 0 0, .slice none 0 0] V2 v93 v96 v100 := by
              rw [hv96, hv100]
              refine ⟨EV2, ⟨g1, cap1, rfl⟩, hown2, W5.heap.size, rfl, by omega, ?_, fun e => ?_, rfl⟩
              · rw [hgrow2.block W5.heap.size (by first | (simp; done) | (simp; omega)) (by simp [Value.ownBlock])]
                exact (Ext.of_alloc (W5.alloc (.cells #[.int .u8 7, .int .i64 o, .int .i64 0, .bool false, .slice none 0 0, .slice none 0 0] 60)) (.cells #[] 60)).block (heap_alloc_new W5 (.cells #[.int .u8 7, .int .i64 o, .int .i64 0, .bool false, .slice none 0 0, .slice none 0 0] 60))
              · rcases hat2 with h | h <;> simp [Value.ownBlock] at h e <;> omega
            rw [← hv93, ← hv96, ← hv100]
            exact key _ _ _ _ hmd
          rintro V v93 v96 v100 ⟨EV, ⟨g1, cap1, rfl⟩, hown, kk, rfl, hkk, hblk, hne, _⟩
          have hT0 : V.cell? ⟨tb, 2, none⟩ = some (.slice (some ⟨b, off, none⟩) L.length c1) ∧ V.cell? ⟨tb, 1, none⟩ = some (.int .i64 o) := ⟨EV.cell k2, EV.cell k1⟩
          refine wpAnyT_one (i := 8) (by kernel_rfl) rfl (fun K hK => ?_)
          refine step_append_u _ (by rfl) _ _ _ (by rfl) W5.heap.size 60 i0 _ 6 80 Try.underlying43 HI.out.1 HI.out.2.1 HI.out.2.2.1 HI.out.2.2.2 rfl (by omega) (by simp [Value.cells, isU]) (.slice (some ⟨g1, 0, none⟩) L.length cap1) L.length news (by rfl) hown ⟨kk, 0, none⟩ 1 1 [.int .u8 7, .int .i64 o, .int .i64 0, .bool false, .slice none 0 0, .slice none 0 0] (by rfl) (by rfl) (World.news_of_block (cs := #[.int .u8 7, .int .i64 o, .int .i64 0, .bool false, .slice none 0 0, .slice none 0 0]) (t := 60) (fr := (0, 0)) hblk) (by simp [Value.oneCell']) (by simp [isU]) (by omega) (by unfold maxLen; omega) (by omega) (Ext.size EV) V.heap.size rfl ?_
          intro g2 cap2 V2 hown2 hgrow2 hat2
          have EV2 : Ext W5 V2 := Ext.grown EV hgrow2 (fun k hk => by cases hk; exact (hown.lt _ rfl).1)
          have hT2 : V2.cell? ⟨tb, 2, none⟩ = some (.slice (some ⟨b, off, none⟩) L.length c1) ∧ V2.cell? ⟨tb, 1, none⟩ = some (.int .i64 o) := ⟨EV2.cell k2, EV2.cell k1⟩
          refine hK _ _ (fun _ => trivial) hT2 ?_
          clear hK K
          try simp only [Act.put, List.setIfInBounds_toArray, List.set_cons_zero, List.set_cons_succ]
          refine wpAnyT_take' (i := 9) (some 102) (v := ?_) rfl rfl (by kernel_rfl) (by kernel_rfl) (by kernel_rfl) (by decide) (fun _ _ _ h => h) (Or.inl ⟨by rfl, ?_⟩) (fun _ => trivial) hT2 ?_
          rotate_left
          · (intro w hSw; (try dsimp only at hSw); go_simp); try with_reducible rfl
          try simp only [Act.put, List.setIfInBounds_toArray, List.set_cons_zero, List.set_cons_succ]
          have c0 := EV2.cell p0
          have c1' := EV2.cell p1
          have c2' := EV2.cell p2
          have c3 := EV2.cell p3
          have f1 : V2.frozen? ⟨ub, 1, none⟩ = false := (Below.frozen (p := ⟨ub, 1, none⟩) EV2 lus).trans (pf 1)
          have f2 : V2.frozen? ⟨ub, 2, none⟩ = false := (Below.frozen (p := ⟨ub, 2, none⟩) EV2 lus).trans (pf 2)
          have d1 : (V2.setCell ⟨ub, 2, none⟩ (.slice (some ⟨g2, 0, none⟩) (L.length + 1) cap2)).cell? ⟨tb, 1, none⟩ = some (.int .i64 o) := by rw [World.cell?_setCell_other _ _ _ _ (by intro e; have := congrArg Addr.block e; simp at this; omega)]; exact hT2.2
          have d2 : (V2.setCell ⟨ub, 2, none⟩ (.slice (some ⟨g2, 0, none⟩) (L.length + 1) cap2)).cell? ⟨tb, 2, none⟩ = some (.slice (some ⟨b, off, none⟩) L.length c1) := by rw [World.cell?_setCell_other _ _ _ _ (by intro e; have := congrArg Addr.block e; simp at this; omega)]; exact hT2.1
          refine wpAnyT_one (i := 10) (by kernel_rfl) rfl (fun K hK => ?_)
          go_simp
          refine hK _ _ (fun _ => trivial) ⟨d2, d1⟩ ?_
          clear hK K
          try simp only [Act.put, List.setIfInBounds_toArray, List.set_cons_zero, List.set_cons_succ]
          refine wpAnyT_done (by kernel_rfl) ?_ _
          try simp only [Act.put, List.setIfInBounds_toArray, List.set_cons_zero, List.set_cons_succ]
          have HOW := Lib.hid (And.intro EV2 (And.intro hown2 (show W5.heap.size ≤ g2 from (hown2.lt _ rfl).1)))
          clear EV hown hkk hblk hne hT0 hgrow2 hat2 EV2 hown2 hT2 HI k1 k2 p0 p1 p2 p3 pf
          go_wp2_with fail
          obtain ⟨W10, hW10⟩ : ∃ W10, W10 = ((V2.setCell ⟨ub, 2, none⟩ (.slice (some ⟨g2, 0, none⟩) (L.length + 1) cap2)).setCell ⟨ub, 1, none⟩ (.int .i64 L.length)) := ⟨_, rfl⟩
          rw [← hW10]
          have EX : Ext wr W10 := by rw [hW10]; exact Below.setCell (p := ⟨ub, 1, none⟩) (Below.setCell (p := ⟨ub, 2, none⟩) (HB.out.2.1.trans HOW.out.1) HB.out.1 _) HB.out.1 _
          have EXw : Ext W0 W10 := HB.out.2.2.1.trans EX
          have hown10 : OwnsU W10 W5.heap.size 60 6 (.slice (some ⟨g2, 0, none⟩) (L.length + 1) cap2) (L.length + 1) (news ++ [.int .u8 7, .int .i64 o, .int .i64 0, .bool false, .slice none 0 0, .slice none 0 0]) := by
            rw [hW10]
            refine HOW.out.2.1.kept (fun k hk => ?_)
            cases hk
            have := HOW.out.2.2
            simp only [World.setCell, Array.getElem?_modify]
            rw [if_neg (by omega), if_neg (by omega)]
          have hst10 := more_steps (s := opStep 7 o 0) (v := #[.int .u8 7, .int .i64 o, .int .i64 0, .bool false, .slice none 0 0, .slice none 0 0]) EXw rfl (by omega) HN.out.1 HN.out.2.2.2.2 ⟨none, 0, 0, none, 0, 0, rfl, nilN _, nilN _, by show 7 < 256; omega, by omega, by omega⟩ rfl hown10
          clear hown10 hW10
          refine (live_any _ _ _ _ _ _ _ _ _ _ _ hst10 (Ht.out.ext EXw)).mono ?_
          rintro e w11 ⟨v, rfl, E11, hres⟩
          obtain ⟨g3, S3, rfl, _, hS3, hLA3⟩ := hres.2 (check_more HCK.out h200)
          rw [Int.toNat_natCast] at hLA3
          have e3 := live_more HD.out HLA.out hLA3 (uses_neg o)
          have hl3 : (L ++ [opStep 7 o 0]).length = L.length + 1 := by simp
          rw [hl3]
          have HS3 := Lib.hid hS3
          have HE3 := Lib.hid e3
          have HXX := Lib.hid (And.intro (EXw.trans E11) (HB.out.2.2.2.ext (EX.trans E11)))
          have zz2 := (EX.trans E11).cell z2
          clear hres hLA3 hS3 e3 hl3 EX EXw E11 hst10 z0 z1 z2 z3 d1 d2 f1 f2 c0 c1' c2' c3
          go_wp2_with fail
          go_loopw [10] (fun k wq => ∃ i : Nat, i ≤ L.length ∧ k = .int .i64 i ∧ Ext w11 wq) (fun k _ => L.length - (intOf k).toNat)
          case atStart => exact ⟨0, Nat.zero_le _, rfl, Ext.refl _⟩
          case round =>
            obtain ⟨i, hi, rfl, hE⟩ := hrel
            by_cases hlt : i < L.length
            · have hlt' : ((i : Nat) : Int) < L.length := by omega
              have hlt3 : ((i : Nat) : Int) < (L.length : Int) + 1 := by omega
              have x1 := (HS3.out.ext hE).cell (i := i) (by rw [HE3.out]; simp; omega)
              have x2 := (HXX.out.2.ext hE).cell (i := i) (by omega)
              rw [HE3.out, List.getElem?_append_left (by omega)] at x1
              obtain ⟨x, hx⟩ : ∃ x, x = S[i]?.getD false := ⟨_, rfl⟩
              rw [← hx] at x1 x2
              clear hx
              go_wp2_with fail
              refine wp_region_T (fun _ => True) (fun w' : World => w'.cell? ⟨g3, i, none⟩ = some (.bool x) ∧ w'.cell? ⟨g, i, none⟩ = some (.bool x)) 99 9 (by rfl) (by kernel_rfl) ?_
              have hT0 : wr.drew.cell? ⟨g3, i, none⟩ = some (.bool x) ∧ wr.drew.cell? ⟨g, i, none⟩ = some (.bool x) := ⟨x1, x2⟩
              refine wpAnyT_take' (i := 0) (some 126) (v := ?_) rfl rfl (by kernel_rfl) (by kernel_rfl) (by kernel_rfl) (by decide) (fun _ _ _ h => h) (Or.inl ⟨by rfl, ?_⟩) (fun _ => trivial) hT0 ?_
              rotate_left
              · (intro w hSw; (try dsimp only at hSw); go_simp); try with_reducible rfl
              try simp only [Act.put, List.setIfInBounds_toArray, List.set_cons_zero, List.set_cons_succ]
              refine wpAnyT_take' (i := 1) (some 127) (v := ?_) rfl rfl (by kernel_rfl) (by kernel_rfl) (by kernel_rfl) (by decide) (fun _ _ _ h => h) (Or.inl ⟨by rfl, ?_⟩) (fun _ => trivial) hT0 ?_
              rotate_left
              · (intro w hSw; (try dsimp only at hSw); go_simp); try with_reducible rfl
              try simp only [Act.put, List.setIfInBounds_toArray, List.set_cons_zero, List.set_cons_succ]
              refine wpAnyT_take' (i := 2) (some 128) (v := ?_) rfl rfl (by kernel_rfl) (by kernel_rfl) (by kernel_rfl) (by decide) (fun _ _ _ h => h) (Or.inl ⟨by rfl, ?_⟩) (fun _ => trivial) hT0 ?_
              rotate_left
              · (intro w hSw; (try dsimp only at hSw); go_simp); try with_reducible rfl
              try simp only [Act.put, List.setIfInBounds_toArray, List.set_cons_zero, List.set_cons_succ]
              refine wpAnyT_take' (i := 3) (some 129) (v := ?_) rfl rfl (by kernel_rfl) (by kernel_rfl) (by kernel_rfl) (by decide) (fun _ _ _ h => h) (Or.inl ⟨by rfl, ?_⟩) (fun _ => trivial) hT0 ?_
              rotate_left
              · (intro w hSw; (try dsimp only at hSw); go_simp); try with_reducible rfl
              try simp only [Act.put, List.setIfInBounds_toArray, List.set_cons_zero, List.set_cons_succ]
              refine wpAnyT_take' (i := 4) (some 130) (v := ?_) rfl rfl (by kernel_rfl) (by kernel_rfl) (by kernel_rfl) (by decide) (fun _ _ _ h => h) (Or.inl ⟨by rfl, ?_⟩) (fun _ => trivial) hT0 ?_
              rotate_left
              · (intro w hSw; (try dsimp only at hSw); go_simp); try with_reducible rfl
              try simp only [Act.put, List.setIfInBounds_toArray, List.set_cons_zero, List.set_cons_succ]
              refine wpAnyT_take' (i := 5) (some 131) (v := ?_) rfl rfl (by kernel_rfl) (by kernel_rfl) (by kernel_rfl) (by decide) (fun _ _ _ h => h) (Or.inl ⟨by rfl, ?_⟩) (fun _ => trivial) hT0 ?_
              rotate_left
              · (intro w hSw; (try dsimp only at hSw); go_simp); try with_reducible rfl
              try simp only [Act.put, List.setIfInBounds_toArray, List.set_cons_zero, List.set_cons_succ]
              refine wpAnyT_take' (i := 6) (some 132) (v := ?_) rfl rfl (by kernel_rfl) (by kernel_rfl) (by kernel_rfl) (by decide) (fun _ _ _ h => h) (Or.inl ⟨by rfl, ?_⟩) (fun _ => trivial) hT0 ?_
              rotate_left
              · (intro w hSw; (try dsimp only at hSw); go_simp); try with_reducible rfl
              try simp only [Act.put, List.setIfInBounds_toArray, List.set_cons_zero, List.set_cons_succ]
              refine wpAnyT_take' (i := 7) (some 133) (v := ?_) rfl rfl (by kernel_rfl) (by kernel_rfl) (by kernel_rfl) (by decide) (fun _ _ _ h => h) (Or.inl ⟨by rfl, ?_⟩) (fun _ => trivial) hT0 ?_
              rotate_left
              · (intro w hSw; (try dsimp only at hSw); go_simp); try with_reducible rfl
              try simp only [Act.put, List.setIfInBounds_toArray, List.set_cons_zero, List.set_cons_succ]
              refine wpAnyT_take' (i := 8) (some 134) (v := ?_) rfl rfl (by kernel_rfl) (by kernel_rfl) (by kernel_rfl) (by decide) (fun _ _ _ h => h) (Or.inl ⟨by rfl, ?_⟩) (fun _ => trivial) hT0 ?_
              rotate_left
              · (intro w hSw; (try dsimp only at hSw); go_simp); try with_reducible rfl
              try simp only [Act.put, List.setIfInBounds_toArray, List.set_cons_zero, List.set_cons_succ]
              refine wpAnyT_done (by kernel_rfl) ?_ _
              try simp only [Act.put, List.setIfInBounds_toArray, List.set_cons_zero, List.set_cons_succ]
              cases x
              · go_wp2
                go_roundw
                case rel => exact ⟨i + 1, by omega, by go_num, hE.drew⟩
                case measure => simp [intOf]; omega
              · go_wp2
                go_roundw
                case rel => exact ⟨i + 1, by omega, by go_num, hE.drew⟩
                case measure => simp [intOf]; omega
            · have hlt' : ¬ ((i : Nat) : Int) < L.length := by omega
              go_wp2_with fail
              refine (head17 _).mono ?_
              rintro e w12 ⟨_, rfl, E12, rfl⟩
              go_wp2
              go_ret
              exact Post.mk (HEw.out.trans ((HXX.out.1.trans hE).trans E12)) rfl
end Go.Proofs.Ytbncdghbnnefdaa

namespace Go.Proofs.Ytbncdghbnnefdaa
open Go.ChangeShapes Go.WideShapes Go.ChangeAt Go.RowKit Go.Deep

theorem rows_of {H : Type} {enc : TypeId × Value → H} {w : World} {held : Bool} {fuel : Nat} {c : Value} {x : DataW H × List MemPlace} {P : World → Nat → Nat → Prop} {size : Nat} {t e : TypeId}
    (ht : Try.prog.underlying t = some (.slice e)) (hc : Try.prog.cellsOf e = size) (h0 : 0 < size)
    (hP : ∀ b o cs' n y, cs'.length = size → (∀ j, j < size → w.cell? ⟨b, o + j, none⟩ = cs'[j]?) → DataW.trod enc Try.prog w 0 (fun _ => true) held n e cs' = some y → P w b o)
    (h : DataW.trod enc Try.prog w 0 (fun _ => true) held fuel t [c] = some x) : ∃ a n k, c = .slice a n k ∧ Rows_ w P size a n := by
  rcases open_slice ht h with ⟨hcs, _⟩ | ⟨a, len, cap, m, n, D, Pl, hcs, _, hl, hm, hmm, _, hx⟩
  · obtain rfl : c = .slice none 0 0 := by simpa using hcs
    exact ⟨_, _, _, rfl, Nat.zero_le _, .inl rfl⟩
  · obtain rfl : c = .slice (some a) len cap := by simpa using hcs
    refine ⟨_, _, _, rfl, Nat.le_trans hl hm, ?_⟩
    rw [if_pos rfl] at hmm
    rw [hc] at hx
    by_cases hz : len = 0
    · exact .inl hz
    · obtain ⟨b, off, sp⟩ := a
      obtain rfl : sp = none := by
        obtain ⟨cs', h1, h2⟩ := hx 0 (by omega)
        obtain ⟨_, hlen, hcc⟩ := World.cells?_some h1
        have := hcc 0 h0
        rw [List.getElem?_eq_getElem (by omega)] at this
        simp only [Nat.zero_mul, Addr.add, if_true] at this
        have := congrArg Addr.spot (cell_spot this)
        simpa using this
      refine .inr ⟨b, off, rfl, fun i hi => ?_⟩
      obtain ⟨cs', h1, h2⟩ := hx i (by omega)
      obtain ⟨_, hlen, hcc⟩ := World.cells?_some h1
      refine hP b _ cs' n _ hlen (fun j hj => ?_) h2
      have := hcc j hj
      rw [add_add, Go.WideShapes.add_plain] at this
      rw [← this, Nat.add_assoc]
theorem list6 {α : Type} {l : List α} (h : l.length = 6) : ∃ c0 c1 c2 c3 c4 c5, l = [c0, c1, c2, c3, c4, c5] := by
  match l, h with
  | [c0, c1, c2, c3, c4, c5], _ => exact ⟨c0, c1, c2, c3, c4, c5, rfl⟩
theorem list4 {α : Type} {l : List α} (h : l.length = 4) : ∃ c0 c1 c2 c3, l = [c0, c1, c2, c3] := by
  match l, h with
  | [c0, c1, c2, c3], _ => exact ⟨c0, c1, c2, c3, rfl⟩
theorem node_at {H : Type} {enc : TypeId × Value → H} {w : World} {held : Bool} {fuel : Nat} {cs : List Value} {x : DataW H × List MemPlace} {b o : Nat}
    (hl : cs.length = 6) (hc : ∀ j, j < 6 → w.cell? ⟨b, o + j, none⟩ = cs[j]?) (h : DataW.trod enc Try.prog w 0 (fun _ => true) held fuel 60 cs = some x) : NodeAt w b o := by
  obtain ⟨xs, n, _, _, _, hx, hf⟩ := DataW.trod_struct Try.underlying60 h
  obtain ⟨c0, c1, c2, c3, c4, c5, rfl⟩ := list6 hl
  obtain ⟨x0, x1, x2, x3, rfl⟩ := list4 hx
  have h0 : DataW.trod enc Try.prog w 0 (fun _ => true) held n 5 (([c0, c1, c2, c3, c4, c5].drop 0).take (Try.prog.cellsOf 5)) = some x0 := hf 0 _ rfl
  have h1 : DataW.trod enc Try.prog w 0 (fun _ => true) held n 3 (([c0, c1, c2, c3, c4, c5].drop 1).take (Try.prog.cellsOf 3)) = some x1 := hf 1 _ rfl
  have h2 : DataW.trod enc Try.prog w 0 (fun _ => true) held n 3 (([c0, c1, c2, c3, c4, c5].drop 2).take (Try.prog.cellsOf 3)) = some x2 := hf 2 _ rfl
  have h3 : DataW.trod enc Try.prog w 0 (fun _ => true) held n 33 (([c0, c1, c2, c3, c4, c5].drop 3).take (Try.prog.cellsOf 33)) = some x3 := hf 3 _ rfl
  rw [show Try.prog.cellsOf 5 = 1 by kernel_rfl] at h0
  rw [show Try.prog.cellsOf 3 = 1 by kernel_rfl] at h1 h2
  rw [show Try.prog.cellsOf 33 = 3 by kernel_rfl] at h3
  obtain ⟨xs, m, _, _, _, hx, hf⟩ := DataW.trod_struct Try.underlying33 h3
  obtain ⟨x5, x6, rfl⟩ := list2 hx
  have h5 : DataW.trod enc Try.prog w 0 (fun _ => true) held m 31 (([c3, c4, c5].drop 0).take (Try.prog.cellsOf 31)) = some x5 := hf 0 _ rfl
  have h6 : DataW.trod enc Try.prog w 0 (fun _ => true) held m 29 (([c3, c4, c5].drop 2).take (Try.prog.cellsOf 29)) = some x6 := hf 1 _ rfl
  rw [show Try.prog.cellsOf 31 = 2 by kernel_rfl] at h5
  rw [show Try.prog.cellsOf 29 = 1 by kernel_rfl] at h6
  obtain ⟨xs, l, _, _, _, hx, hf⟩ := DataW.trod_struct Try.underlying31 h5
  obtain ⟨x7, x8, rfl⟩ := list2 hx
  have h7 : DataW.trod enc Try.prog w 0 (fun _ => true) held l 4 (([c3, c4].drop 0).take (Try.prog.cellsOf 4)) = some x7 := hf 0 _ rfl
  have h8 : DataW.trod enc Try.prog w 0 (fun _ => true) held l 29 (([c3, c4].drop 1).take (Try.prog.cellsOf 29)) = some x8 := hf 1 _ rfl
  rw [show Try.prog.cellsOf 4 = 1 by kernel_rfl] at h7
  rw [show Try.prog.cellsOf 29 = 1 by kernel_rfl] at h8
  obtain ⟨p, e0, _, w0⟩ := DataW.trod_int Try.underlying5 h0
  obtain ⟨A, e1, _, w1⟩ := DataW.trod_int Try.underlying3 h1
  obtain ⟨B, e2, _, w2⟩ := DataW.trod_int Try.underlying3 h2
  obtain ⟨g, e3, _⟩ := DataW.trod_bool Try.underlying4 h7
  obtain ⟨a1, n1, k1, z1, e4, r1⟩ := raw_of h8
  obtain ⟨a2, n2, k2, z2, e5, r2⟩ := raw_of h6
  simp only [List.drop_zero, List.drop_succ_cons, List.take_succ_cons, List.take_zero, List.cons.injEq, and_true] at e0 e1 e2 e3
  subst e0 e1 e2 e3 e4 e5
  obtain ⟨p, rfl, hp⟩ := u8_nat w0
  exact ⟨p, A, B, g, a1, n1, k1, z1, a2, n2, k2, z2, hp, w1, w2, r1, r2, hc 0 (by omega), hc 1 (by omega), hc 2 (by omega), hc 3 (by omega), hc 4 (by omega), hc 5 (by omega)⟩
theorem tell_at {H : Type} {enc : TypeId × Value → H} {w : World} {held : Bool} {fuel : Nat} {cs : List Value} {x : DataW H × List MemPlace} {b o : Nat}
    (hl : cs.length = 2) (hc : ∀ j, j < 2 → w.cell? ⟨b, o + j, none⟩ = cs[j]?) (h : DataW.trod enc Try.prog w 0 (fun _ => true) held fuel 58 cs = some x) : TellAt w b o := by
  obtain ⟨xs, n, _, _, _, hx, hf⟩ := DataW.trod_struct Try.underlying58 h
  obtain ⟨c0, c1, rfl⟩ := list2 hl
  obtain ⟨x0, x1, rfl⟩ := list2 hx
  have h0 : DataW.trod enc Try.prog w 0 (fun _ => true) held n 9 (([c0, c1].drop 0).take (Try.prog.cellsOf 9)) = some x0 := hf 0 _ rfl
  have h1 : DataW.trod enc Try.prog w 0 (fun _ => true) held n 3 (([c0, c1].drop 1).take (Try.prog.cellsOf 3)) = some x1 := hf 1 _ rfl
  rw [show Try.prog.cellsOf 9 = 1 by kernel_rfl] at h0
  rw [show Try.prog.cellsOf 3 = 1 by kernel_rfl] at h1
  obtain ⟨s, e0, _, hs⟩ := DataW.trod_string Try.underlying9 h0
  obtain ⟨A, e1, _, w1⟩ := DataW.trod_int Try.underlying3 h1
  simp only [List.drop_zero, List.drop_succ_cons, List.take_succ_cons, List.take_zero, List.cons.injEq, and_true] at e0 e1
  subst e0 e1
  exact ⟨s, A, hs, hc 0 (by omega), hc 1 (by omega)⟩
theorem tape_value {H : Type} {enc : TypeId × Value → H} {w : World} {held : Bool} {fuel : Nat} {cs : List Value} {x : DataW H × List MemPlace}
    (h : DataW.trod enc Try.prog w 0 (fun _ => true) held fuel 46 cs = some x) :
    ∃ (P O : Int) (a1 : Option Addr) (n1 k1 : Nat) (a2 : Option Addr) (n2 k2 : Nat), cs = [.int .i64 P, .int .i64 O, .slice a1 n1 k1, .slice a2 n2 k2] ∧
      (Lit.int .i64 P).wf = true ∧ (Lit.int .i64 O).wf = true ∧ Rows_ w NodeAt 6 a1 n1 ∧ Rows_ w TellAt 2 a2 n2 := by
  obtain ⟨xs, n, _, _, hl, hx, hf⟩ := DataW.trod_struct Try.underlying46 h
  have hl4 : cs.length = 4 := hl.trans (by kernel_rfl)
  obtain ⟨c0, c1, c2, c3, rfl⟩ := list4 hl4
  obtain ⟨x0, x1, x2, x3, rfl⟩ := list4 hx
  have h0 : DataW.trod enc Try.prog w 0 (fun _ => true) held n 3 (([c0, c1, c2, c3].drop 0).take (Try.prog.cellsOf 3)) = some x0 := hf 0 _ rfl
  have h1 : DataW.trod enc Try.prog w 0 (fun _ => true) held n 3 (([c0, c1, c2, c3].drop 1).take (Try.prog.cellsOf 3)) = some x1 := hf 1 _ rfl
  have h2 : DataW.trod enc Try.prog w 0 (fun _ => true) held n 43 (([c0, c1, c2, c3].drop 2).take (Try.prog.cellsOf 43)) = some x2 := hf 2 _ rfl
  have h3 : DataW.trod enc Try.prog w 0 (fun _ => true) held n 44 (([c0, c1, c2, c3].drop 3).take (Try.prog.cellsOf 44)) = some x3 := hf 3 _ rfl
  rw [show Try.prog.cellsOf 3 = 1 by kernel_rfl] at h0 h1
  rw [show Try.prog.cellsOf 43 = 1 by kernel_rfl] at h2
  rw [show Try.prog.cellsOf 44 = 1 by kernel_rfl] at h3
  obtain ⟨P, e0, _, w0⟩ := DataW.trod_int Try.underlying3 h0
  obtain ⟨O, e1, _, w1⟩ := DataW.trod_int Try.underlying3 h1
  simp only [List.drop_zero, List.drop_succ_cons, List.take_succ_cons, List.take_zero, List.cons.injEq, and_true] at e0 e1
  subst e0 e1
  obtain ⟨a1, n1, k1, rfl, r1⟩ := rows_of (P := NodeAt) Try.underlying43 (by kernel_rfl) (by omega) (fun b o cs' n y hl hc ht => node_at hl hc ht) h2
  obtain ⟨a2, n2, k2, rfl, r2⟩ := rows_of (P := TellAt) Try.underlying44 (by kernel_rfl) (by omega) (fun b o cs' n y hl hc ht => tell_at hl hc ht) h3
  exact ⟨P, O, a1, n1, k1, a2, n2, k2, rfl, w0, w1, r1, r2⟩
end Go.Proofs.Ytbncdghbnnefdaa

namespace Go.Proofs.Ytbncdghbnnefdaa
open Go.RowKit

theorem live_law (P O : Int) (a1 : Option Addr) (n1 c1 : Nat) (a2 : Option Addr) (n2 c2 : Nat) (w : World) (_ : (Lit.int .i64 P).wf = true) (_ : (Lit.int .i64 O).wf = true) (h1 : Rows_ w NodeAt 6 a1 n1) (h2 : Rows_ w TellAt 2 a2 n2) :
    Calls Try.prog 6 #[.agg #[.int .i64 P, .int .i64 O, .slice a1 n1 c1, .slice a2 n2 c2]] w fun e w' => e = .returned (.bool true) ∧ Below w.heap.size w w' := by
  refine (live_law0 P O a1 a2 n1 c1 n2 c2 w h1 h2).mono ?_
  rintro e w' ⟨_, rfl, E, rfl⟩
  exact ⟨rfl, E⟩
end Go.Proofs.Ytbncdghbnnefdaa

namespace Go.Proofs.Ytbncdghbnnefdaa.tapeLive
open Go.ChangeShapes Go.WideShapes Go.ChangeAt Go.RowKit
open Go.ChangeMaps (open_string shut_string)
set_option linter.unusedVariables false

theorem own : ownKnob Try.prog.godebug = none := by kernel_rfl
theorem laidOut : laidOutB Try.prog = true := by kernel_rfl

set_option maxRecDepth 100000 in
theorem lifted (os : Os) (started : os.Started) (H : Type) (enc : TypeId × Value → H) :
    ReturnsInHanded {} Try.checked os 6 .any (Rows.tapeLiveSpec.pre6 enc Try.prog Try.f6 Rows.tapeLiveRow.domain false) (Rows.tapeLiveSpec.post enc Try.prog Try.f6 false true false false) := by
  refine returnsInHanded_of_change (C := Try.checked) own started (by kernel_rfl) Try.func6
    (ChangeSpec.witness6 (enc := enc) (C := Try.checked) false ⟨#[], #[.agg #[.int .i64 0, .int .i64 0, .slice none 0 0, .slice none 0 0]], []⟩ 8 (by kernel_rfl) (by kernel_rfl) (by kernel_rfl) (by kernel_rfl)) ?_
  intro W base args ds gs before hval0 hW hcnd _
  have hval : ∀ (j : Nat) t v, Try.f6.params[j]? = some t → args[j]? = some v → Value.okWide Try.prog W .any base t v := hval0
  have hW' := hW
  obtain ⟨p, q, hA0, hV, rfl, hfz, hnd⟩ := hW
  have hA : DataW.TrodAll enc Try.prog W 0 (fun _ => true) true Try.f6.params.toList args.toList ds p := hA0
  rw [Try.params6] at hA hval
  obtain ⟨v0, vs0, d0, ds0, p0, q0, hargs, rfl, rfl, h0, r0⟩ := trodAll_cons hA
  obtain ⟨rfl, rfl, rfl⟩ := trodAll_nil r0
  obtain rfl : args = #[v0] := by cases args; simp_all
  obtain ⟨rfl, rfl⟩ := trodVars_none hV
  have k0 := h0
  have lt0 : ∀ x ∈ p0, x.block < W.heap.size := by obtain ⟨m, hm⟩ := k0; exact DataW.trod_lt m _ _ _ hm
  obtain ⟨cs0, rfl, _⟩ := okWide_struct Try.underlying46 (hval 0 46 v0 rfl rfl)
  obtain ⟨fuel0, hf0⟩ := h0
  obtain ⟨P0, O0, a0, n0, c0, b0, m0, e0, hcs0, i0, u0, s0, t0⟩ := tape_value (show DataW.trod _ _ _ _ _ _ fuel0 46 cs0.toList = _ from hf0)
  obtain rfl : cs0 = #[.int .i64 P0, .int .i64 O0, .slice a0 n0 c0, .slice b0 m0 e0] := Array.ext' hcs0
  clear hA0 hval0
  refine (Go.Proofs.Ytbncdghbnnefdaa.live_law P0 O0 a0 n0 c0 b0 m0 e0 W i0 u0 s0 t0).mono fun e W' ⟨he, bel⟩ => ?_
  subst he
  exact ⟨_, rfl, _, _, _, [], _, [], hW', trodAll_mk1 (shut_bool Try.underlying4 _), (trodAll_cons_mk (Below.trod laidOut (by kernel_rfl) (of_decide_eq_true (by kernel_rfl)) k0 bel lt0) trodAll_mk0), rfl, bel.frame _, fun h => by cases h⟩

theorem over : Rows.tapeLiveRow.holds Try.pinned (OpenSpec.ofChange Rows.tapeLiveSpec) :=
  OpenClaim.holds_of_wide 6 Try.f6 rfl rfl rfl rfl rfl rfl rfl ⟨rfl, rfl, rfl, rfl, rfl⟩ rfl rfl rfl rfl rfl (by kernel_rfl) Try.func6 (by kernel_rfl)
    (of_decide_eq_true (by kernel_rfl)) (by unfold Func.isWrapper; first | (rw [if_pos (by decide +kernel)]; kernel_rfl) | (rw [if_neg (by decide +kernel)]; exact ⟨rfl, rfl⟩))
    (fun os started H enc _ => lifted os started H enc)

theorem proved : Rows.TapeLiveSaid :=
  over
#print axioms proved
end Go.Proofs.Ytbncdghbnnefdaa.tapeLive
