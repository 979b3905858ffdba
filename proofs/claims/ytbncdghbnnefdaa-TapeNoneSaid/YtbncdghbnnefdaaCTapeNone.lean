/- The law 'TapeNone' returns true for every input, and leaves what it was handed as it was: no condition. -/
import Derived.WalkKit
import Derived.ProofKit
import Derived.OpenShut
import Derived.ShutString
import Derived.ChangeOld
import Derived.Below
import Derived.Lib.SmallJoins
import Derived.Test.YtbncdghbnnefdaaRows
import Derived.Test.YtbncdghbnnefdaaM15

namespace Go.Proofs.Ytbncdghbnnefdaa
open Go.RowKit

theorem small06 (g : Bool) (a1 a2 : Option Addr) (n1 c1 n2 c2 : Nat) (w : World) :
    Calls Try.prog 9 #[.agg #[.bool g, .slice a1 n1 c1, .slice a2 n2 c2]] w (Post w fun v _ => v = .bool (decide (n1 ≤ 3) && decide (n2 ≤ 3))) := by
  by_cases h1 : n1 ≤ 3
  · by_cases h2 : n2 ≤ 3
    · have k1 : ((n1 : Nat) : Int) ≤ 3 := by omega
      have k2 : ((n2 : Nat) : Int) ≤ 3 := by omega
      rw [decide_eq_true h1, decide_eq_true h2]
      go_enter Try.func9, Try.ntmps9
      go_wp2
      go_ret
      exact Post.mk (by repeat (first | with_reducible exact Ext.refl _ | with_reducible assumption | (with_reducible refine Ext.alloc ?_ _) | (with_reducible refine Ext.drew ?_) | (with_reducible refine Ext.drewN ?_ _) | (with_reducible refine Ext.set ?_ (by first | (simp; done) | (simp; omega)) _) | (with_reducible refine Ext.trans ?_ (by with_reducible assumption)))) rfl
    · have k1 : ((n1 : Nat) : Int) ≤ 3 := by omega
      have k2 : ¬ ((n2 : Nat) : Int) ≤ 3 := by omega
      rw [decide_eq_true h1, decide_eq_false h2]
      go_enter Try.func9, Try.ntmps9
      go_wp2
      go_ret
      exact Post.mk (by repeat (first | with_reducible exact Ext.refl _ | with_reducible assumption | (with_reducible refine Ext.alloc ?_ _) | (with_reducible refine Ext.drew ?_) | (with_reducible refine Ext.drewN ?_ _) | (with_reducible refine Ext.set ?_ (by first | (simp; done) | (simp; omega)) _) | (with_reducible refine Ext.trans ?_ (by with_reducible assumption)))) rfl
  · have k1 : ¬ ((n1 : Nat) : Int) ≤ 3 := by omega
    rw [decide_eq_false h1]
    go_enter Try.func9, Try.ntmps9
    go_wp2
    go_ret
    exact Post.mk (by repeat (first | with_reducible exact Ext.refl _ | with_reducible assumption | (with_reducible refine Ext.alloc ?_ _) | (with_reducible refine Ext.drew ?_) | (with_reducible refine Ext.drewN ?_ _) | (with_reducible refine Ext.set ?_ (by first | (simp; done) | (simp; omega)) _) | (with_reducible refine Ext.trans ?_ (by with_reducible assumption)))) rfl
set_option maxRecDepth 100000 in
set_option maxHeartbeats 8000000 in
theorem none_any (what op : Nat) (A B : Int) (g : Bool) (a1 a2 : Option Addr) (n1 c1 n2 c2 : Nat) (w : World) :
    Calls Try.prog 4 #[.agg #[.int .u8 what, .int .u8 op, .int .i64 A, .int .i64 B, .bool g, .slice a1 n1 c1, .slice a2 n2 c2]] w (Post w fun v _ => v = .bool true) := by
  obtain ⟨r, hr⟩ : ∃ r, r = (decide (n1 ≤ 3) && decide (n2 ≤ 3)) := ⟨_, rfl⟩
  have HS := Lib.hid (fun W => small06 g a1 a2 n1 c1 n2 c2 W)
  rw [← hr] at HS
  clear hr
  cases r
  · go_enter Try.func4, Try.ntmps4
    go_wp2_with fail
    refine (HS.out _).mono ?_
    rintro e w1 ⟨_, rfl, E1, rfl⟩
    go_wp2_with fail
    refine (head17 _).mono ?_
    rintro e w2 ⟨_, rfl, E2, rfl⟩
    go_wp2
    go_ret
    exact Post.mk (by repeat (first | with_reducible exact Ext.refl _ | with_reducible assumption | (with_reducible refine Ext.alloc ?_ _) | (with_reducible refine Ext.drew ?_) | (with_reducible refine Ext.drewN ?_ _) | (with_reducible refine Ext.set ?_ (by first | (simp; done) | (simp; omega)) _) | (with_reducible refine Ext.trans ?_ (by with_reducible assumption)))) rfl
  · go_enter Try.func4, Try.ntmps4
    go_wp2_with fail
    refine (HS.out _).mono ?_
    rintro e w1 ⟨_, rfl, E1, rfl⟩
    clear HS
    go_wp2_with fail
    obtain ⟨ab, hab⟩ : ∃ ab, ab = w.heap.size := ⟨_, rfl⟩
    obtain ⟨W0, hW0⟩ : ∃ W0, W0 = (w1.alloc (.cells #[.int .i64 0, .int .i64 0, .slice none 0 0, .map none] 54)).alloc (.cells #[.pointer none, .pointer (some ⟨w1.heap.size, 0, none⟩)] 23) := ⟨_, rfl⟩
    obtain ⟨zb, hzb⟩ : ∃ zb, zb = w1.heap.size := ⟨_, rfl⟩
    have EW : Ext w1 W0 := by rw [hW0]; exact (by repeat (first | with_reducible exact Ext.refl _ | with_reducible assumption | (with_reducible refine Ext.alloc ?_ _) | (with_reducible refine Ext.drew ?_) | (with_reducible refine Ext.drewN ?_ _) | (with_reducible refine Ext.set ?_ (by first | (simp; done) | (simp; omega)) _) | (with_reducible refine Ext.trans ?_ (by with_reducible assumption))))
    have EA : Ext w W0 := by rw [hW0]; exact (by repeat (first | with_reducible exact Ext.refl _ | with_reducible assumption | (with_reducible refine Ext.alloc ?_ _) | (with_reducible refine Ext.drew ?_) | (with_reducible refine Ext.drewN ?_ _) | (with_reducible refine Ext.set ?_ (by first | (simp; done) | (simp; omega)) _) | (with_reducible refine Ext.trans ?_ (by with_reducible assumption))))
    have c1' : W0.cell? ⟨ab, 1, none⟩ = some (.int .u8 op) := EW.cell (E1.cell (by rw [hab]; simp [go_sem]))
    have c2' : W0.cell? ⟨ab, 2, none⟩ = some (.int .i64 A) := EW.cell (E1.cell (by rw [hab]; simp [go_sem]))
    have c3' : W0.cell? ⟨ab, 3, none⟩ = some (.int .i64 B) := EW.cell (E1.cell (by rw [hab]; simp [go_sem]))
    have c4' : W0.cell? ⟨ab, 4, none⟩ = some (.bool g) := EW.cell (E1.cell (by rw [hab]; simp [go_sem]))
    have c5' : W0.cell? ⟨ab, 5, none⟩ = some (.slice a1 n1 c1) := EW.cell (E1.cell (by rw [hab]; simp [go_sem]))
    have c6' : W0.cell? ⟨ab, 6, none⟩ = some (.slice a2 n2 c2) := EW.cell (E1.cell (by rw [hab]; simp [go_sem]))
    have l0 : W0.cell? ⟨zb + 1, 0, none⟩ = some (.pointer none) := by rw [hW0, hzb]; simp [go_sem]
    have l1 : W0.cell? ⟨zb + 1, 1, none⟩ = some (.pointer (some ⟨zb, 0, none⟩)) := by rw [hW0, hzb]; simp [go_sem]
    have z3 : W0.cell? ⟨zb, 3, none⟩ = some (.map none) := by rw [hW0, hzb]; simp [go_sem]
    rw [← hW0, ← hzb, ← hab]
    clear hW0 hzb hab E1 EW
    go_loopw [5] (fun k wr => ∃ j : Nat, j ≤ 2 ∧ k = .int .i64 j ∧ Ext W0 wr) (fun k _ => 2 - (intOf k).toNat)
    case atStart => exact ⟨0, by omega, rfl, Ext.refl _⟩
    case round =>
      obtain ⟨j, hj, rfl, hext⟩ := hrel
      by_cases hlt : j < 2
      · have hm : ∃ p, wr.cell? ⟨zb + 1, j, none⟩ = some (.pointer p) ∧ NoMk wr p := by
          match j, hlt with
          | 0, _ => exact ⟨none, hext.cell l0, .inl rfl⟩
          | 1, _ => exact ⟨_, hext.cell l1, .inr ⟨zb, rfl, hext.cell z3⟩⟩
        obtain ⟨p, hp, hno⟩ := hm
        have hlt' : ((j : Nat) : Int) < 2 := by omega
        have d1 := hext.cell c1'
        have d2 := hext.cell c2'
        have d3 := hext.cell c3'
        have d4 := hext.cell c4'
        have d5 := hext.cell c5'
        have d6 := hext.cell c6'
        have HN := Lib.hid hno
        clear hno
        go_wp2_with fail
        refine (num_no HN.out g a1 a2 n1 c1 n2 c2).mono ?_
        rintro e w3 ⟨_, rfl, E, rfl⟩
        replace d1 := E.cell d1
        replace d2 := E.cell d2
        replace d3 := E.cell d3
        replace d4 := E.cell d4
        replace d5 := E.cell d5
        replace d6 := E.cell d6
        replace HN := Lib.hid (HN.out.ext E)
        replace hext := hext.trans E
        replace hp := E.cell hp
        clear E
        go_wp2_with fail
        refine (par_no HN.out).mono ?_
        rintro e w4 ⟨_, rfl, E, rfl⟩
        replace d1 := E.cell d1
        replace d2 := E.cell d2
        replace d3 := E.cell d3
        replace d4 := E.cell d4
        replace d5 := E.cell d5
        replace d6 := E.cell d6
        replace HN := Lib.hid (HN.out.ext E)
        replace hext := hext.trans E
        replace hp := E.cell hp
        clear E
        go_wp2_with fail
        refine (one_no HN.out op A).mono ?_
        rintro e w5 ⟨_, rfl, E, rfl⟩
        replace d1 := E.cell d1
        replace d2 := E.cell d2
        replace d3 := E.cell d3
        replace d4 := E.cell d4
        replace d5 := E.cell d5
        replace d6 := E.cell d6
        replace HN := Lib.hid (HN.out.ext E)
        replace hext := hext.trans E
        replace hp := E.cell hp
        clear E
        go_wp2_with fail
        refine (two_no HN.out op A B).mono ?_
        rintro e w6 ⟨_, rfl, E, rfl⟩
        replace d1 := E.cell d1
        replace d2 := E.cell d2
        replace d3 := E.cell d3
        replace d4 := E.cell d4
        replace d5 := E.cell d5
        replace d6 := E.cell d6
        replace HN := Lib.hid (HN.out.ext E)
        replace hext := hext.trans E
        replace hp := E.cell hp
        clear E
        go_wp2_with fail
        have HT := tape_no HN.out A none 0 0
        unfold zeroT at HT
        refine HT.mono ?_
        rintro e w7 ⟨_, rfl, E, rfl⟩
        replace d1 := E.cell d1
        replace d2 := E.cell d2
        replace d3 := E.cell d3
        replace d4 := E.cell d4
        replace d5 := E.cell d5
        replace d6 := E.cell d6
        replace HN := Lib.hid (HN.out.ext E)
        replace hext := hext.trans E
        replace hp := E.cell hp
        clear E
        clear HT
        go_wp2_with fail
        have EZ : Ext w7 (w7.alloc (.cells #[.int .i64 0, .int .i64 0, .slice none 0 0, .slice none 0 0] 46)) := Ext.of_alloc _ _
        refine (len_no (HN.out.ext EZ)).mono ?_
        rintro e w8 ⟨rfl, rfl⟩
        clear EZ
        go_wp2_with fail
        have hZ : ∀ W : World, IsTape W (.agg #[.int .i64 0, .int .i64 0, .slice none 0 0, .slice none 0 0]) 0 0 [] [] := fun W => ⟨none, 0, 0, none, 0, 0, rfl, ⟨rfl, by omega, .inl rfl⟩, ⟨rfl, by omega, .inl rfl⟩⟩
        have HE := tsame_any _ _ 0 0 0 0 [] [] [] [] _ (hZ (w7.alloc (.cells #[.int .i64 0, .int .i64 0, .slice none 0 0, .slice none 0 0] 46))) (hZ _)
        rw [show sameP 0 0 [] [] 0 0 [] [] = true from by decide] at HE
        refine HE.mono ?_
        rintro e w9 ⟨_, rfl, E9, rfl⟩
        clear HE
        have hext9 := (hext.alloc (.cells #[.int .i64 0, .int .i64 0, .slice none 0 0, .slice none 0 0] 46)).trans E9
        clear hext E9 d1 d2 d3 d4 d5 d6 hp
        go_wp2
        exact ⟨⟨j + 1, by omega, by go_num, hext9⟩, by simp [intOf]; omega⟩
      · have hlt' : ¬ ((j : Nat) : Int) < 2 := by omega
        go_wp2_with fail
        refine (head17 _).mono ?_
        rintro e w2 ⟨_, rfl, E2, rfl⟩
        go_wp2
        go_ret
        exact Post.mk (by repeat (first | with_reducible exact Ext.refl _ | with_reducible assumption | (with_reducible refine Ext.alloc ?_ _) | (with_reducible refine Ext.drew ?_) | (with_reducible refine Ext.drewN ?_ _) | (with_reducible refine Ext.set ?_ (by first | (simp; done) | (simp; omega)) _) | (with_reducible refine Ext.trans ?_ (by with_reducible assumption)))) rfl
end Go.Proofs.Ytbncdghbnnefdaa

namespace Go.Proofs.Ytbncdghbnnefdaa
open Go.RowKit

theorem u8_of_wf {n : Int} (h : (Lit.int .u8 n).wf = true) : 0 ≤ n ∧ n < 256 := by
  have := h
  simp [Lit.wf, IntKind.min, IntKind.max, IntKind.bits, IntKind.signed] at this
  omega
theorem none_law (p q A B : Int) (g : Bool) (a1 : Option Addr) (n1 c1 : Nat) (z1 : List Int) (a2 : Option Addr) (n2 c2 : Nat) (z2 : List Int) (w : World)
    (hp : (Lit.int .u8 p).wf = true) (hq : (Lit.int .u8 q).wf = true) (_ : (Lit.int .i64 A).wf = true) (_ : (Lit.int .i64 B).wf = true) (_ : Raw w a1 n1 c1 z1) (_ : Raw w a2 n2 c2 z2) :
    Calls Try.prog 4 #[.agg #[.int .u8 p, .int .u8 q, .int .i64 A, .int .i64 B, .bool g, .slice a1 n1 c1, .slice a2 n2 c2]] w fun e w' => e = .returned (.bool true) ∧ Below w.heap.size w w' := by
  have h1 := u8_of_wf hp
  have h2 := u8_of_wf hq
  obtain ⟨p, rfl⟩ := Int.eq_ofNat_of_zero_le h1.1
  obtain ⟨q, rfl⟩ := Int.eq_ofNat_of_zero_le h2.1
  refine (none_any p q A B g a1 a2 n1 c1 n2 c2 w).mono ?_
  rintro e w' ⟨_, rfl, E, rfl⟩
  exact ⟨rfl, E⟩
end Go.Proofs.Ytbncdghbnnefdaa

namespace Go.Proofs.Ytbncdghbnnefdaa.tapeNone
open Go.ChangeShapes Go.WideShapes Go.ChangeAt Go.RowKit
open Go.ChangeMaps (open_string shut_string)
set_option linter.unusedVariables false

theorem own : ownKnob Try.prog.godebug = none := by kernel_rfl
theorem laidOut : laidOutB Try.prog = true := by kernel_rfl

set_option maxRecDepth 100000 in
theorem lifted (os : Os) (started : os.Started) (H : Type) (enc : TypeId × Value → H) :
    ReturnsInHanded {} Try.checked os 4 .any (Rows.tapeNoneSpec.pre6 enc Try.prog Try.f4 Rows.tapeNoneRow.domain false) (Rows.tapeNoneSpec.post enc Try.prog Try.f4 false true false false) := by
  refine returnsInHanded_of_change (C := Try.checked) own started (by kernel_rfl) Try.func4
    (ChangeSpec.witness6 (enc := enc) (C := Try.checked) false ⟨#[], #[.agg #[.int .u8 0, .int .u8 0, .int .i64 0, .int .i64 0, .bool false, .slice none 0 0, .slice none 0 0]], []⟩ 8 (by kernel_rfl) (by kernel_rfl) (by kernel_rfl) (by kernel_rfl)) ?_
  intro W base args ds gs before hval0 hW hcnd _
  have hval : ∀ (j : Nat) t v, Try.f4.params[j]? = some t → args[j]? = some v → Value.okWide Try.prog W .any base t v := hval0
  have hW' := hW
  obtain ⟨p, q, hA0, hV, rfl, hfz, hnd⟩ := hW
  have hA : DataW.TrodAll enc Try.prog W 0 (fun _ => true) true Try.f4.params.toList args.toList ds p := hA0
  rw [Try.params4] at hA hval
  obtain ⟨v0, vs0, d0, ds0, p0, q0, hargs, rfl, rfl, h0, r0⟩ := trodAll_cons hA
  obtain ⟨rfl, rfl, rfl⟩ := trodAll_nil r0
  obtain rfl : args = #[v0] := by cases args; simp_all
  obtain ⟨rfl, rfl⟩ := trodVars_none hV
  have k0 := h0
  have lt0 : ∀ x ∈ p0, x.block < W.heap.size := by obtain ⟨m, hm⟩ := k0; exact DataW.trod_lt m _ _ _ hm
  obtain ⟨cs0, rfl, _⟩ := okWide_struct Try.underlying35 (hval 0 35 v0 rfl rfl)
  obtain ⟨fuel0, hf0⟩ := h0
  obtain ⟨p0, q0, A0, B0, g0, a0, n0, c0, z0, b0, m0, e0, y0, hcs0, i0, u0, s0, t0, f0, r0'⟩ := call_value (show DataW.trod _ _ _ _ _ _ fuel0 35 cs0.toList = _ from hf0)
  obtain rfl : cs0 = #[.int .u8 p0, .int .u8 q0, .int .i64 A0, .int .i64 B0, .bool g0, .slice a0 n0 c0, .slice b0 m0 e0] := Array.ext' hcs0
  clear hA0 hval0
  refine (Go.Proofs.Ytbncdghbnnefdaa.none_law p0 q0 A0 B0 g0 a0 n0 c0 z0 b0 m0 e0 y0 W i0 u0 s0 t0 f0 r0').mono fun e W' ⟨he, bel⟩ => ?_
  subst he
  exact ⟨_, rfl, _, _, _, [], _, [], hW', trodAll_mk1 (shut_bool Try.underlying4 _), (trodAll_cons_mk (Below.trod laidOut (by kernel_rfl) (of_decide_eq_true (by kernel_rfl)) k0 bel lt0) trodAll_mk0), rfl, bel.frame _, fun h => by cases h⟩

theorem over : Rows.tapeNoneRow.holds Try.pinned (OpenSpec.ofChange Rows.tapeNoneSpec) :=
  OpenClaim.holds_of_wide 4 Try.f4 rfl rfl rfl rfl rfl rfl rfl ⟨rfl, rfl, rfl, rfl, rfl⟩ rfl rfl rfl rfl rfl (by kernel_rfl) Try.func4 (by kernel_rfl)
    (of_decide_eq_true (by kernel_rfl)) (by unfold Func.isWrapper; first | (rw [if_pos (by decide +kernel)]; kernel_rfl) | (rw [if_neg (by decide +kernel)]; exact ⟨rfl, rfl⟩))
    (fun os started H enc _ => lifted os started H enc)

theorem proved : Rows.TapeNoneSaid :=
  over
#print axioms proved
end Go.Proofs.Ytbncdghbnnefdaa.tapeNone
