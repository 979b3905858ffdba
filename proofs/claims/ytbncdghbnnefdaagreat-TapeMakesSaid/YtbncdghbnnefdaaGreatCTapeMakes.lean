/- The law 'TapeMakes' returns true for every input, and leaves what it was handed as it was: no condition. -/
import Derived.WalkKit
import Derived.ProofKit
import Derived.OpenShut
import Derived.ShutString
import Derived.ChangeOld
import Derived.Below
import Derived.Lib.SmallJoins
import Derived.Test.YtbncdghbnnefdaaGreatRows
import Derived.Test.YtbncdghbnnefdaaGreatM23

namespace Go.Proofs.YtbncdghbnnefdaaGreat
open Go.RowKit

set_option maxRecDepth 100000 in
set_option maxHeartbeats 4000000 in
theorem makes_no (b : Int) (a : Option Addr) (n c : Nat) (w : World) (hn : n ≤ 9223372036854775807) (hb : b < 1 ∨ 20000 < b) :
    Calls Tryz.prog 3 #[.int .i64 b, .slice a n c] w (Post w fun v _ => v = .bool true) := by
  have HN := Lib.hid (fun W => new_no b W hb)
  have HM := Lib.hid (fun W => rnew_no b W hb)
  clear hb
  go_enter Tryz.func3, Tryz.ntmps3
  go_wp2_with fail
  refine (HN.out _).mono ?_
  rintro e w1 ⟨_, rfl, E1, rfl⟩
  go_wp2_with fail
  refine (HM.out _).mono ?_
  rintro e w2 ⟨_, rfl, E2, rfl⟩
  have EW := Lib.hid (E1.trans E2)
  clear HN HM E1 E2
  go_wp2_with fail
  go_loopw [9] (fun k wq => k = .int .i64 0 ∧ Ext w2 wq) (fun _ _ => 0)
  case atStart => exact ⟨rfl, Ext.refl _⟩
  case round =>
    obtain ⟨rfl, hE⟩ := hrel
    by_cases h0 : (0 : Int) < n
    · go_wp2_with fail
      refine (head17 _).mono ?_
      rintro e w3 ⟨_, rfl, E3, rfl⟩
      go_wp2
      go_ret
      exact Post.mk (EW.out.trans (hE.trans E3)) rfl
    · go_wp2_with fail
      refine (head17 _).mono ?_
      rintro e w3 ⟨_, rfl, E3, rfl⟩
      go_wp2
      go_ret
      exact Post.mk (EW.out.trans (hE.trans E3)) rfl
theorem makes_law (x0 : Int) (a1 : Option Addr) (n1 c1 : Nat) (w : World) (_ : (Lit.int .i64 x0).wf = true) (hA : Asks w a1 n1) :
    Calls Tryz.prog 3 #[.int .i64 x0, .slice a1 n1 c1] w fun e w' => e = .returned (.bool true) ∧ Below w.heap.size w w' := by
  by_cases hb : x0 < 1 ∨ 20000 < x0
  · refine (makes_no x0 a1 n1 c1 w (by have := hA.few; unfold maxLen at this; omega) hb).mono ?_
    rintro e w' ⟨_, rfl, E, rfl⟩
    exact ⟨rfl, E⟩
  · obtain ⟨b, rfl⟩ := Int.eq_ofNat_of_zero_le (show 0 ≤ x0 by omega)
    refine (makes_yes b a1 n1 c1 w hA (by omega) (by omega)).mono ?_
    rintro e w' ⟨_, rfl, E, rfl⟩
    exact ⟨rfl, E⟩
end Go.Proofs.YtbncdghbnnefdaaGreat

namespace Go.Proofs.YtbncdghbnnefdaaGreat.tapeMakes
open Go.ChangeShapes Go.WideShapes Go.ChangeAt Go.RowKit
open Go.ChangeMaps (open_string shut_string)
set_option linter.unusedVariables false

theorem own : ownKnob Tryz.prog.godebug = none := by kernel_rfl
theorem laidOut : laidOutB Tryz.prog = true := by kernel_rfl

set_option maxRecDepth 100000 in
theorem lifted (os : Os) (started : os.Started) (H : Type) (enc : TypeId × Value → H) :
    ReturnsInHanded {} Tryz.checked os 3 .any (Rows.tapeMakesSpec.pre6 enc Tryz.prog Tryz.f3 Rows.tapeMakesRow.domain false) (Rows.tapeMakesSpec.post enc Tryz.prog Tryz.f3 false true false false) := by
  refine returnsInHanded_of_change (C := Tryz.checked) own started (by kernel_rfl) Tryz.func3
    (ChangeSpec.witness6 (enc := enc) (C := Tryz.checked) false ⟨#[], #[.int .i64 0, .slice none 0 0], []⟩ 8 (by kernel_rfl) (by kernel_rfl) (by kernel_rfl) (by kernel_rfl)) ?_
  intro W base args ds gs before hval0 hW hcnd _
  have hval : ∀ (j : Nat) t v, Tryz.f3.params[j]? = some t → args[j]? = some v → Value.okWide Tryz.prog W .any base t v := hval0
  have hW' := hW
  obtain ⟨p, q, hA0, hV, rfl, hfz, hnd⟩ := hW
  have hA : DataW.TrodAll enc Tryz.prog W 0 (fun _ => true) true Tryz.f3.params.toList args.toList ds p := hA0
  rw [Tryz.params3] at hA hval
  obtain ⟨v0, vs0, d0, ds0, p0, q0, hargs, rfl, rfl, h0, r0⟩ := trodAll_cons hA
  obtain ⟨v1, vs1, d1, ds1, p1, q1, rfl, rfl, rfl, h1, r1⟩ := trodAll_cons r0
  obtain ⟨rfl, rfl, rfl⟩ := trodAll_nil r1
  obtain rfl : args = #[v0, v1] := by cases args; simp_all
  obtain ⟨rfl, rfl⟩ := trodVars_none hV
  obtain ⟨x0, rfl, rfl, rfl, f0⟩ := open_int Tryz.underlying3 (hval 0 3 v0 rfl rfl) h0
  have k1 := h1
  have lt1 : ∀ x ∈ p1, x.block < W.heap.size := by obtain ⟨m, hm⟩ := k1; exact DataW.trod_lt m _ _ _ hm
  obtain ⟨a1, n1, c1, rfl⟩ := okWide_slice Tryz.underlying22 (hval 1 22 v1 rfl rfl)
  have f1 : Asks W a1 n1 := by
    obtain ⟨fuel, hf⟩ := h1
    obtain ⟨a9, n9, k9, hcs, hg⟩ := asks_of (show DataW.trod _ _ _ _ _ _ fuel 22 [.slice a1 n1 c1] = _ from hf)
    cases hcs
    exact hg
  clear hA0 hval0
  refine (Go.Proofs.YtbncdghbnnefdaaGreat.makes_law x0 a1 n1 c1 W f0 f1).mono fun e W' ⟨he, bel⟩ => ?_
  subst he
  exact ⟨_, rfl, _, _, _, [], _, [], hW', trodAll_mk1 (shut_bool Tryz.underlying4 _), (trodAll_cons_mk (shut_int Tryz.underlying3 f0) (trodAll_cons_mk (Below.trod laidOut (by kernel_rfl) (of_decide_eq_true (by kernel_rfl)) k1 bel lt1) trodAll_mk0)), rfl, bel.frame _, fun h => by cases h⟩

theorem over : Rows.tapeMakesRow.holds Tryz.pinned (OpenSpec.ofChange Rows.tapeMakesSpec) :=
  OpenClaim.holds_of_wide 3 Tryz.f3 rfl rfl rfl rfl rfl rfl rfl ⟨rfl, rfl, rfl, rfl, rfl⟩ rfl rfl rfl rfl rfl (by kernel_rfl) Tryz.func3 (by kernel_rfl)
    (of_decide_eq_true (by kernel_rfl)) (by unfold Func.isWrapper; first | (rw [if_pos (by decide +kernel)]; kernel_rfl) | (rw [if_neg (by decide +kernel)]; exact ⟨rfl, rfl⟩))
    (fun os started H enc _ => lifted os started H enc)

theorem proved : Rows.TapeMakesSaid :=
  over
#print axioms proved
end Go.Proofs.YtbncdghbnnefdaaGreat.tapeMakes
