/- Parts of the proof: contracts of the functions that the law reaches, and the arithmetic that they rest on; no condition beyond those that each theorem states. -/
import Derived.Test.YtgihjgkpmochcaaM9
import Derived.Test.YtgihjgkpmochcaaM24

namespace Go.Proofs.Ytgihjgkpmochcaa
open Go.RowKit

theorem wpOpsS_value {P : Program} {ops : Array Oper} {Q : Exit → Act → List Frame → World → Prop} {i : Nat} {rest : List Nat} {a : Act} {cs : List Frame} {w w' : World} {o : Oper} {v : Value}
    (ho : ops[i]? = some o) (hg : o.guard = none) (hx : (execOp a.eval o).run P w = .ok (.value v) w') (h : wpOpsS P ops Q rest (a.put o.dst v) cs w') : wpOpsS P ops Q (i :: rest) a cs w := by
  simp only [wpOpsS, ho, hx]
  rw [if_pos (by simp [Region.wanted, hg])]
  exact h
theorem wpOpsS_none {P : Program} {ops : Array Oper} {Q : Exit → Act → List Frame → World → Prop} {i : Nat} {rest : List Nat} {a : Act} {cs : List Frame} {w w' : World} {o : Oper}
    (ho : ops[i]? = some o) (hg : o.guard = none) (hx : (execOp a.eval o).run P w = .ok .recover w') (hr : recoverD cs = none) (h : wpOpsS P ops Q rest (a.put o.dst .nilIface) cs w') : wpOpsS P ops Q (i :: rest) a cs w := by
  simp only [wpOpsS, ho, hx, hr]
  rw [if_pos (by simp [Region.wanted, hg])]
  exact h
theorem wpOpsS_some {P : Program} {ops : Array Oper} {Q : Exit → Act → List Frame → World → Prop} {i : Nat} {rest : List Nat} {a : Act} {cs cs' : List Frame} {w w' : World} {o : Oper} {v : Value}
    (ho : ops[i]? = some o) (hg : o.guard = none) (hx : (execOp a.eval o).run P w = .ok .recover w') (hr : recoverD cs = some (v, cs')) (h : wpOpsS P ops Q rest (a.put o.dst v) cs' w') : wpOpsS P ops Q (i :: rest) a cs w := by
  simp only [wpOpsS, ho, hx, hr]
  rw [if_pos (by simp [Region.wanted, hg])]
  exact h
theorem assert_no (w : World) : (Instr.typeAssert .nilIface 20 27 true).run Try.prog w = .ok (.tuple #[.int .i64 0, .bool false]) w := by kernel_rfl
theorem assert_yes (x : Nat) (w : World) : (Instr.typeAssert (.iface 27 (.int .i64 x)) 20 27 true).run Try.prog w = .ok (.tuple #[.int .i64 x, .bool true]) w := by kernel_rfl

set_option maxRecDepth 100000 in
/-- The deferred closure, of a frame that returns: it does nothing. -/
theorem faceN1_idle (p q r : Addr) (w : World) :
    CallsD Try.prog 38 #[.pointer (some p), .pointer (some q), .pointer (some r)] .returning w fun e u' w' => e = .returned (.tuple #[]) ∧ u' = .returning ∧ w' = w := by
  have h1 := assert_no
  refine callsD_of_wpS Try.func38 rfl fun c₀ cs hu => ?_
  simp only [Try.ntmps38, List.size_toArray, List.length_cons, List.length_nil, Nat.reduceAdd, Nat.reduceSub, Array.replicate_succ, Array.replicate_zero, List.push_toArray, List.append_toArray, List.nil_append, List.cons_append]
  apply wpS_seq
  apply wpS_region
  rw [show List.range (#[_, _, _, _, _, _, _] : Array Oper).size = [0, 1, 2, 3, 4, 5, 6] from rfl]
  refine wpOpsS_none rfl rfl (by simp [execOp, go_sem]; rfl) (by simp [recoverD, hu]) ?_
  refine wpOpsS_value rfl rfl (v := .tuple #[.int .i64 0, .bool false]) (by simp [execOp, go_sem, h1]; rfl) ?_
  refine wpOpsS_value rfl rfl (v := .tuple #[.int .i64 0, .bool false]) (by simp [execOp, go_sem]; rfl) ?_
  refine wpOpsS_value rfl rfl (v := .int .i64 0) (by simp [execOp, go_sem]; rfl) ?_
  refine wpOpsS_value rfl rfl (v := .bool false) (by simp [execOp, go_sem]; rfl) ?_
  refine wpOpsS_value rfl rfl (v := .int .i64 0) (by simp [execOp, go_sem]; rfl) ?_
  refine wpOpsS_value rfl rfl (v := .bool false) (by simp [execOp, go_sem]; rfl) ?_
  simp only [wpOpsS, Exit.thenS]
  refine wpS_of_wp ?_
  simp [go_sem]
  go_wp2
  cases c₀
  simp_all [bodyPostS, results, Try.results38]
set_option maxRecDepth 100000 in
set_option maxHeartbeats 1000000 in
/-- The deferred closure, of a frame that gives up: the error is told. -/
theorem faceN1_catch (bn bo be : Nat) (x : Nat) (ao : Option Addr) (no co : Nat) (y : Int) (older : List PanicEntry) (w : World)
    (k1 : w.cell? ⟨bn, 0, none⟩ = some (.slice none 0 0)) (k2 : w.cell? ⟨bo, 0, none⟩ = some (.slice ao no co)) (k3 : w.cell? ⟨be, 0, none⟩ = some (.int .i64 y))
    (z2 : w.frozen? ⟨bo, 0, none⟩ = false) (z3 : w.frozen? ⟨be, 0, none⟩ = false) :
    CallsD Try.prog 38 #[.pointer (some ⟨bn, 0, none⟩), .pointer (some ⟨bo, 0, none⟩), .pointer (some ⟨be, 0, none⟩)] (.panicking ({ v := .iface 27 (.int .i64 x), recovered := false } :: older)) w fun e u' w' =>
      e = .returned (.tuple #[]) ∧ u' = .panicking ({ v := .iface 27 (.int .i64 x), recovered := true } :: older) ∧ w' = (w.setCell ⟨bo, 0, none⟩ (.slice none 0 0)).setCell ⟨be, 0, none⟩ (.int .i64 x) := by
  have hne : ¬ bo = be := by
    intro e
    subst e
    rw [k2] at k3
    cases k3
  have h1 := assert_yes x
  refine callsD_of_wpS Try.func38 rfl fun c₀ cs hu => ?_
  simp only [Try.ntmps38, List.size_toArray, List.length_cons, List.length_nil, Nat.reduceAdd, Nat.reduceSub, Array.replicate_succ, Array.replicate_zero, List.push_toArray, List.append_toArray, List.nil_append, List.cons_append]
  apply wpS_seq
  apply wpS_region
  rw [show List.range (#[_, _, _, _, _, _, _] : Array Oper).size = [0, 1, 2, 3, 4, 5, 6] from rfl]
  cases c₀
  simp only at hu
  subst hu
  refine wpOpsS_some rfl rfl (by simp [execOp, go_sem]; rfl) rfl ?_
  refine wpOpsS_value rfl rfl (v := .tuple #[.int .i64 x, .bool true]) (by simp [execOp, go_sem, h1]; rfl) ?_
  refine wpOpsS_value rfl rfl (v := .tuple #[.int .i64 x, .bool true]) (by simp [execOp, go_sem]; rfl) ?_
  refine wpOpsS_value rfl rfl (v := .int .i64 x) (by simp [execOp, go_sem]; rfl) ?_
  refine wpOpsS_value rfl rfl (v := .bool true) (by simp [execOp, go_sem]; rfl) ?_
  refine wpOpsS_value rfl rfl (v := .int .i64 x) (by simp [execOp, go_sem]; rfl) ?_
  refine wpOpsS_value rfl rfl (v := .bool true) (by simp [execOp, go_sem]; rfl) ?_
  simp only [wpOpsS, Exit.thenS]
  refine wpS_of_wp ?_
  simp [go_sem]
  go_wp2
  exact ⟨rfl, _, rfl, .tuple #[], by simp [results, Try.results38, go_sem], rfl, rfl, rfl⟩
end Go.Proofs.Ytgihjgkpmochcaa

namespace Go.Proofs.Ytgihjgkpmochcaa
open Go.RowKit

set_option maxRecDepth 100000 in
/-- The deferred closure, of a frame that returns: it does nothing. -/
theorem faceB1_idle (p q r : Addr) (w : World) :
    CallsD Try.prog 44 #[.pointer (some p), .pointer (some q), .pointer (some r)] .returning w fun e u' w' => e = .returned (.tuple #[]) ∧ u' = .returning ∧ w' = w := by
  have h1 := assert_no
  refine callsD_of_wpS Try.func44 rfl fun c₀ cs hu => ?_
  simp only [Try.ntmps44, List.size_toArray, List.length_cons, List.length_nil, Nat.reduceAdd, Nat.reduceSub, Array.replicate_succ, Array.replicate_zero, List.push_toArray, List.append_toArray, List.nil_append, List.cons_append]
  apply wpS_seq
  apply wpS_region
  rw [show List.range (#[_, _, _, _, _, _, _] : Array Oper).size = [0, 1, 2, 3, 4, 5, 6] from rfl]
  refine wpOpsS_none rfl rfl (by simp [execOp, go_sem]; rfl) (by simp [recoverD, hu]) ?_
  refine wpOpsS_value rfl rfl (v := .tuple #[.int .i64 0, .bool false]) (by simp [execOp, go_sem, h1]; rfl) ?_
  refine wpOpsS_value rfl rfl (v := .tuple #[.int .i64 0, .bool false]) (by simp [execOp, go_sem]; rfl) ?_
  refine wpOpsS_value rfl rfl (v := .int .i64 0) (by simp [execOp, go_sem]; rfl) ?_
  refine wpOpsS_value rfl rfl (v := .bool false) (by simp [execOp, go_sem]; rfl) ?_
  refine wpOpsS_value rfl rfl (v := .int .i64 0) (by simp [execOp, go_sem]; rfl) ?_
  refine wpOpsS_value rfl rfl (v := .bool false) (by simp [execOp, go_sem]; rfl) ?_
  simp only [wpOpsS, Exit.thenS]
  refine wpS_of_wp ?_
  simp [go_sem]
  go_wp2
  cases c₀
  simp_all [bodyPostS, results, Try.results44]
set_option maxRecDepth 100000 in
set_option maxHeartbeats 1000000 in
/-- The deferred closure, of a frame that gives up: the error is told. -/
theorem faceB1_catch (bn bo be : Nat) (x : Nat) (g : Bool) (y : Int) (older : List PanicEntry) (w : World)
    (k1 : w.cell? ⟨bn, 0, none⟩ = some (.bool false)) (k2 : w.cell? ⟨bo, 0, none⟩ = some (.bool g)) (k3 : w.cell? ⟨be, 0, none⟩ = some (.int .i64 y))
    (z2 : w.frozen? ⟨bo, 0, none⟩ = false) (z3 : w.frozen? ⟨be, 0, none⟩ = false) :
    CallsD Try.prog 44 #[.pointer (some ⟨bn, 0, none⟩), .pointer (some ⟨bo, 0, none⟩), .pointer (some ⟨be, 0, none⟩)] (.panicking ({ v := .iface 27 (.int .i64 x), recovered := false } :: older)) w fun e u' w' =>
      e = .returned (.tuple #[]) ∧ u' = .panicking ({ v := .iface 27 (.int .i64 x), recovered := true } :: older) ∧ w' = (w.setCell ⟨bo, 0, none⟩ (.bool false)).setCell ⟨be, 0, none⟩ (.int .i64 x) := by
  have hne : ¬ bo = be := by
    intro e
    subst e
    rw [k2] at k3
    cases k3
  have h1 := assert_yes x
  refine callsD_of_wpS Try.func44 rfl fun c₀ cs hu => ?_
  simp only [Try.ntmps44, List.size_toArray, List.length_cons, List.length_nil, Nat.reduceAdd, Nat.reduceSub, Array.replicate_succ, Array.replicate_zero, List.push_toArray, List.append_toArray, List.nil_append, List.cons_append]
  apply wpS_seq
  apply wpS_region
  rw [show List.range (#[_, _, _, _, _, _, _] : Array Oper).size = [0, 1, 2, 3, 4, 5, 6] from rfl]
  cases c₀
  simp only at hu
  subst hu
  refine wpOpsS_some rfl rfl (by simp [execOp, go_sem]; rfl) rfl ?_
  refine wpOpsS_value rfl rfl (v := .tuple #[.int .i64 x, .bool true]) (by simp [execOp, go_sem, h1]; rfl) ?_
  refine wpOpsS_value rfl rfl (v := .tuple #[.int .i64 x, .bool true]) (by simp [execOp, go_sem]; rfl) ?_
  refine wpOpsS_value rfl rfl (v := .int .i64 x) (by simp [execOp, go_sem]; rfl) ?_
  refine wpOpsS_value rfl rfl (v := .bool true) (by simp [execOp, go_sem]; rfl) ?_
  refine wpOpsS_value rfl rfl (v := .int .i64 x) (by simp [execOp, go_sem]; rfl) ?_
  refine wpOpsS_value rfl rfl (v := .bool true) (by simp [execOp, go_sem]; rfl) ?_
  simp only [wpOpsS, Exit.thenS]
  refine wpS_of_wp ?_
  simp [go_sem]
  go_wp2
  exact ⟨rfl, _, rfl, .tuple #[], by simp [results, Try.results44, go_sem], rfl, rfl, rfl⟩
end Go.Proofs.Ytgihjgkpmochcaa

namespace Go.Proofs.Ytgihjgkpmochcaa
open Go.RowKit

/-- What face lays: the result, the error, none. -/
structure Three (w W : World) (t : Nat) (v u : Value) (y : Int) : Prop where
  ext : Ext w W
  size : W.heap.size = w.heap.size + 3
  o : Boxed W w.heap.size t v
  e : Boxed W (w.heap.size + 1) 27 (.int .i64 y)
  n : Boxed W (w.heap.size + 1 + 1) t u
theorem Three.new (w : World) (t : Nat) (v : Value) : Three w (((w.alloc (.cells #[v] t)).alloc (.cells #[.int .i64 0] 27)).alloc (.cells #[v] t)) t v v 0 := by
  refine ⟨(by repeat (first | with_reducible exact Ext.refl _ | with_reducible assumption | (with_reducible refine Ext.alloc ?_ _) | (with_reducible refine Ext.drew ?_) | (with_reducible refine Ext.drewN ?_ _) | (with_reducible refine Ext.set ?_ (by first | (simp; done) | (simp; omega)) _) | (with_reducible refine Ext.trans ?_ (by with_reducible assumption)))), by simp, ((Boxed.new w t v).alloc _).alloc _, ?_, ?_⟩
  · have := (Boxed.new (w.alloc (.cells #[v] t)) 27 (.int .i64 0)).alloc (.cells #[v] t)
    rw [World.size_alloc] at this; exact this
  · have := Boxed.new ((w.alloc (.cells #[v] t)).alloc (.cells #[.int .i64 0] 27)) t v
    rw [World.size_alloc, World.size_alloc] at this; exact this

set_option maxRecDepth 100000 in
set_option maxHeartbeats 2000000 in
theorem faceN_ok {w : World} {p i j m b1 b2 f : Nat} {s : ByteArray} (hf : f = 18 ∨ f = 24) (h : Src w p s i false)
    (hdo : ∀ W, Ext w W → Calls Try.prog f #[.pointer (some ⟨b1, 0, none⟩), .pointer (some ⟨b2, 0, none⟩)] W fun e w' => ∃ v, e = .returned v ∧ Mo p W w' ∧ Src w' p s j false ∧ Num w' v m) :
    Calls Try.prog 17 #[.pointer (some ⟨p, 0, none⟩), .bool true, .func (.func f) #[] #[.pointer (some ⟨b1, 0, none⟩), .pointer (some ⟨b2, 0, none⟩)]] w fun e w' =>
      ∃ v, e = .returned (.tuple #[v, .int .i64 0]) ∧ Mo p w w' ∧ Src w' p s j false ∧ Num w' v m := by
  have hpl := h.lt
  have hdo' := Lib.hid hdo
  have H := Lib.hid h
  clear hdo
  have hmf : ∀ (fn : Fn) (first cap : Array Value) (w : World), (Instr.makeFunc fn first cap).run Try.prog w = .ok (.func fn first cap) w := fun _ _ _ _ => rfl
  clear h
  rcases hf with rfl | rfl
  all_goals
    go_enter_defers Try.func17, Try.ntmps17
    go_wp2_with fail
    have HT := Lib.hid (Three.new w 26 (.slice none 0 0))
    generalize (((w.alloc (.cells #[.slice none 0 0] 26)).alloc (.cells #[.int .i64 0] 27)).alloc (.cells #[.slice none 0 0] 26)) = W at HT ⊢
    refine (there_src (H.out.ext HT.out.ext)).mono ?_
    rintro e w' ⟨rfl, rfl⟩
    have k3 := (H.out.ext HT.out.ext).c3
    go_wp2_with fail
    refine (hdo'.out W HT.out.ext).mono ?_
    rintro e w1 ⟨_, rfl, M1, S1, N1⟩
    obtain ⟨a, n, c, rfl, HN⟩ := num_open N1
    have b1 := boxMo HT.out.o M1 (by omega)
    have b2 := boxMo HT.out.e M1 (by omega)
    have b3 := boxMo HT.out.n M1 (by omega)
    have HS := Lib.hid (And.intro M1 S1)
    have c1 := b1.cell
    have c2 := b2.cell
    have f1 := b1.frozen
    have f2 := b2.frozen
    clear hdo' N1 k3 M1 S1 b1 b2 b3
    go_wp2
    refine leaves_cons (f := 38) (args := #[.pointer (some ⟨w.heap.size + 1 + 1, 0, none⟩), .pointer (some ⟨w.heap.size, 0, none⟩), .pointer (some ⟨w.heap.size + 1, 0, none⟩)]) (by simp) (by simp [go_sem]) ?_
    refine (faceN1_idle _ _ _ _).mono ?_
    rintro e u' w'' ⟨rfl, rfl, rfl⟩
    simp only [Leaves, settle]
    refine ⟨_, by simp [results, Try.results17, go_sem, c1, c2]; rfl, _, rfl, ?_⟩
    have hM := ((Mo.of_ext HT.out.ext).trans HS.out.1)
    exact ⟨(hM.set (.inr (Nat.le_refl _)) _).set (.inr (by simp)) _, (HS.out.2.setOther (by simp; omega) _).setOther (by simp; omega) _, HN.out.keep (((Keeps.refl w1).set ⟨_, c1, rfl⟩ _).set ⟨.int .i64 0, by rw [World.cell?_setCell_other] <;> simp [c2], rfl⟩ _)⟩

set_option maxRecDepth 100000 in
set_option maxHeartbeats 2000000 in
theorem faceN_dies {w : World} {p i b1 b2 f : Nat} {s : ByteArray} (hf : f = 18 ∨ f = 24) (h : Src w p s i false)
    (hdo : ∀ W, Ext w W → Calls Try.prog f #[.pointer (some ⟨b1, 0, none⟩), .pointer (some ⟨b2, 0, none⟩)] W fun e w' => e = dryPanic ∧ Mo p W w' ∧ ∃ j, Src w' p s j true) :
    Calls Try.prog 17 #[.pointer (some ⟨p, 0, none⟩), .bool true, .func (.func f) #[] #[.pointer (some ⟨b1, 0, none⟩), .pointer (some ⟨b2, 0, none⟩)]] w fun e w' =>
      e = .returned (.tuple #[.slice none 0 0, .int .i64 230]) ∧ Mo p w w' ∧ ∃ j, Src w' p s j true := by
  have hpl := h.lt
  have hdo' := Lib.hid hdo
  have H := Lib.hid h
  clear hdo
  have hmf : ∀ (fn : Fn) (first cap : Array Value) (w : World), (Instr.makeFunc fn first cap).run Try.prog w = .ok (.func fn first cap) w := fun _ _ _ _ => rfl
  clear h
  rcases hf with rfl | rfl
  all_goals
    go_enter_defers Try.func17, Try.ntmps17
    go_wp2_with fail
    have HT := Lib.hid (Three.new w 26 (.slice none 0 0))
    generalize (((w.alloc (.cells #[.slice none 0 0] 26)).alloc (.cells #[.int .i64 0] 27)).alloc (.cells #[.slice none 0 0] 26)) = W at HT ⊢
    refine (there_src (H.out.ext HT.out.ext)).mono ?_
    rintro e w' ⟨rfl, rfl⟩
    have k3 := (H.out.ext HT.out.ext).c3
    go_wp2_with fail
    refine (hdo'.out W HT.out.ext).mono ?_
    rintro e w1 ⟨rfl, M1, j, S1⟩
    unfold dryPanic
    have b1 := boxMo HT.out.o M1 (by omega)
    have b2 := boxMo HT.out.e M1 (by omega)
    have b3 := boxMo HT.out.n M1 (by omega)
    have HS := Lib.hid (And.intro M1 S1)
    clear hdo' k3 M1 S1
    go_wp2
    refine leaves_cons (f := 38) (args := #[.pointer (some ⟨w.heap.size + 1 + 1, 0, none⟩), .pointer (some ⟨w.heap.size, 0, none⟩), .pointer (some ⟨w.heap.size + 1, 0, none⟩)]) (by simp) (by simp [go_sem]) ?_
    refine (faceN1_catch _ _ _ 230 none 0 0 0 [] w1 b3.cell b1.cell b2.cell b1.frozen b2.frozen).mono ?_
    rintro e u' w2 ⟨rfl, rfl, rfl⟩
    have c1 := (boxSet (b1.set (.slice none 0 0)) (q := ⟨w.heap.size + 1, 0, none⟩) (by simp) (.int .i64 230)).cell
    have c2 := ((boxSet b2 (q := ⟨w.heap.size, 0, none⟩) (by simp) (.slice none 0 0)).set (.int .i64 230)).cell
    show ∃ v, _ ∧ _
    refine ⟨_, by simp [results, Try.results17, go_sem, c1, c2]  , rfl, ?_⟩
    have hM := ((Mo.of_ext HT.out.ext).trans HS.out.1)
    exact ⟨(hM.set (.inr (Nat.le_refl _)) _).set (.inr (by simp)) _, _, (HS.out.2.setOther (by simp; omega) _).setOther (by simp; omega) _⟩

set_option maxRecDepth 100000 in
set_option maxHeartbeats 2000000 in
theorem faceN_dry {w : World} {p i b1 b2 f : Nat} {s : ByteArray} (hf : f = 18 ∨ f = 24) (h : Src w p s i true) :
    Calls Try.prog 17 #[.pointer (some ⟨p, 0, none⟩), .bool true, .func (.func f) #[] #[.pointer (some ⟨b1, 0, none⟩), .pointer (some ⟨b2, 0, none⟩)]] w fun e w' =>
      e = .returned (.tuple #[.slice none 0 0, .int .i64 230]) ∧ Ext w w' := by
  have hpl := h.lt
  have H := Lib.hid h
  have hmf : ∀ (fn : Fn) (first cap : Array Value) (w : World), (Instr.makeFunc fn first cap).run Try.prog w = .ok (.func fn first cap) w := fun _ _ _ _ => rfl
  clear h
  rcases hf with rfl | rfl
  all_goals
    go_enter_defers Try.func17, Try.ntmps17
    go_wp2_with fail
    have HT := Lib.hid (Three.new w 26 (.slice none 0 0))
    generalize (((w.alloc (.cells #[.slice none 0 0] 26)).alloc (.cells #[.int .i64 0] 27)).alloc (.cells #[.slice none 0 0] 26)) = W at HT ⊢
    refine (there_src (H.out.ext HT.out.ext)).mono ?_
    rintro e w' ⟨rfl, rfl⟩
    have k3 := (H.out.ext HT.out.ext).c3
    have b1 := HT.out.o
    have b2 := HT.out.e
    have b3 := HT.out.n
    have c1 := b1.cell
    have c2 := b2.cell
    have c3 := b3.cell
    have f1 := b1.frozen
    have f2 := b2.frozen
    clear b1 b2 b3
    go_wp2
    show ∃ v, _ ∧ _
    refine ⟨_, by simp [results, Try.results17, go_sem, c1, c2]  , rfl, ?_⟩
    exact (HT.out.ext.set (Nat.le_refl _) _).set (by simp) _
end Go.Proofs.Ytgihjgkpmochcaa

namespace Go.Proofs.Ytgihjgkpmochcaa
open Go.RowKit

theorem number1_ok {w : World} {p a n b1 b2 : Nat} {s : ByteArray} (h : Src w p s a false) (hs : s.size ≤ 1000000) (hf : a + n ≤ 8 * s.size) (hn : n ≤ 1000)
    (k1 : w.cell? ⟨b1, 0, none⟩ = some (.pointer (some ⟨p, 0, none⟩))) (k2 : w.cell? ⟨b2, 0, none⟩ = some (.int .i64 (n : Int))) :
    Calls Try.prog 18 #[.pointer (some ⟨b1, 0, none⟩), .pointer (some ⟨b2, 0, none⟩)] w fun e w' => ∃ v, e = .returned v ∧ Mo p w w' ∧ Src w' p s (a + n) false ∧ Num w' v (numAt s a n) := by
  have H := Lib.hid (number_ok h hs hf hn)
  clear h
  go_enter Try.func18, Try.ntmps18
  go_wp2_with fail
  refine H.out.mono ?_
  rintro e w1 ⟨v, rfl, h1, h2, h3⟩
  go_wp2
  go_ret
  exact ⟨_, rfl, h1, h2, h3⟩
theorem number1_dry {w : World} {p a n b1 b2 : Nat} {s : ByteArray} (h : Src w p s a false) (hs : s.size ≤ 1000000) (ha : a ≤ 8 * s.size) (hf : 8 * s.size < a + n) (hn : n ≤ 1000)
    (k1 : w.cell? ⟨b1, 0, none⟩ = some (.pointer (some ⟨p, 0, none⟩))) (k2 : w.cell? ⟨b2, 0, none⟩ = some (.int .i64 (n : Int))) :
    Calls Try.prog 18 #[.pointer (some ⟨b1, 0, none⟩), .pointer (some ⟨b2, 0, none⟩)] w fun e w' => e = dryPanic ∧ Mo p w w' ∧ ∃ i, Src w' p s i true := by
  have H := Lib.hid (number_dry h hs ha hf hn)
  clear h
  go_enter Try.func18, Try.ntmps18
  go_wp2_with fail
  refine H.out.mono ?_
  rintro e w1 ⟨rfl, h1, h2⟩
  unfold dryPanic
  go_wp2
  exact ⟨rfl, rfl, h1, h2⟩

/-- What Number lays: its boxes. -/
structure Twob (w W : World) (t1 t2 : Nat) (v u : Value) : Prop where
  ext : Ext w W
  a : Boxed W w.heap.size t1 v
  b : Boxed W (w.heap.size + 1) t2 u
theorem Twob.new (w : World) (t1 t2 : Nat) (v u : Value) : Twob w ((w.alloc (.cells #[v] t1)).alloc (.cells #[u] t2)) t1 t2 v u := by
  refine ⟨(by repeat (first | with_reducible exact Ext.refl _ | with_reducible assumption | (with_reducible refine Ext.alloc ?_ _) | (with_reducible refine Ext.drew ?_) | (with_reducible refine Ext.drewN ?_ _) | (with_reducible refine Ext.set ?_ (by first | (simp; done) | (simp; omega)) _) | (with_reducible refine Ext.trans ?_ (by with_reducible assumption)))), (Boxed.new w t1 v).alloc _, ?_⟩
  have := Boxed.new (w.alloc (.cells #[v] t1)) t2 u
  rw [World.size_alloc] at this; exact this

theorem Number_ok {w : World} {p a n : Nat} {s : ByteArray} (h : Src w p s a false) (hs : s.size ≤ 1000000) (hf : a + n ≤ 8 * s.size) (hn : n ≤ 1000) :
    Calls Try.prog 6 #[.pointer (some ⟨p, 0, none⟩), .int .i64 (n : Int)] w fun e w' => ∃ v, e = .returned (.tuple #[v, .int .i64 0]) ∧ Mo p w w' ∧ Src w' p s (a + n) false ∧ Num w' v (numAt s a n) := by
  have hpl := h.lt
  have hfine : decide ((n : Int) ≤ 100000) = true := decide_eq_true (by omega)
  have H := Lib.hid h
  clear h
  have hmf : ∀ (fn : Fn) (first cap : Array Value) (w : World), (Instr.makeFunc fn first cap).run Try.prog w = .ok (.func fn first cap) w := fun _ _ _ _ => rfl
  go_enter Try.func6, Try.ntmps6
  go_wp2_with fail
  have HT := Lib.hid (Twob.new w 23 3 (.pointer (some ⟨p, 0, none⟩)) (.int .i64 (n : Int)))
  generalize ((w.alloc (.cells #[.pointer (some ⟨p, 0, none⟩)] 23)).alloc (.cells #[.int .i64 (n : Int)] 3)) = W at HT ⊢
  refine (faceN_ok (.inl rfl) (H.out.ext HT.out.ext) (j := a + n) (m := numAt s a n) fun W' E => number1_ok ((H.out.ext HT.out.ext).ext E) hs hf hn (E.cell HT.out.a.cell) (E.cell HT.out.b.cell)).mono ?_
  rintro e w1 ⟨v, rfl, h1, h2, h3⟩
  go_wp2
  go_ret2
  exact ⟨_, rfl, (Mo.of_ext HT.out.ext).trans h1, h2, h3⟩
theorem Number_dies {w : World} {p a n : Nat} {s : ByteArray} (h : Src w p s a false) (hs : s.size ≤ 1000000) (ha : a ≤ 8 * s.size) (hf : 8 * s.size < a + n) (hn : n ≤ 1000) :
    Calls Try.prog 6 #[.pointer (some ⟨p, 0, none⟩), .int .i64 (n : Int)] w fun e w' => e = .returned (.tuple #[.slice none 0 0, .int .i64 230]) ∧ Mo p w w' ∧ ∃ i, Src w' p s i true := by
  have hpl := h.lt
  have hfine : decide ((n : Int) ≤ 100000) = true := decide_eq_true (by omega)
  have H := Lib.hid h
  clear h
  have hmf : ∀ (fn : Fn) (first cap : Array Value) (w : World), (Instr.makeFunc fn first cap).run Try.prog w = .ok (.func fn first cap) w := fun _ _ _ _ => rfl
  go_enter Try.func6, Try.ntmps6
  go_wp2_with fail
  have HT := Lib.hid (Twob.new w 23 3 (.pointer (some ⟨p, 0, none⟩)) (.int .i64 (n : Int)))
  generalize ((w.alloc (.cells #[.pointer (some ⟨p, 0, none⟩)] 23)).alloc (.cells #[.int .i64 (n : Int)] 3)) = W at HT ⊢
  refine (faceN_dies (.inl rfl) (H.out.ext HT.out.ext) fun W' E => number1_dry ((H.out.ext HT.out.ext).ext E) hs ha hf hn (E.cell HT.out.a.cell) (E.cell HT.out.b.cell)).mono ?_
  rintro e w1 ⟨rfl, h1, h2⟩
  go_wp2
  go_ret2
  exact ⟨rfl, (Mo.of_ext HT.out.ext).trans h1, h2⟩
theorem Number_dry {w : World} {p i n : Nat} {s : ByteArray} (h : Src w p s i true) (hn : n ≤ 1000) :
    Calls Try.prog 6 #[.pointer (some ⟨p, 0, none⟩), .int .i64 (n : Int)] w fun e w' => e = .returned (.tuple #[.slice none 0 0, .int .i64 230]) ∧ Ext w w' := by
  have hpl := h.lt
  have hfine : decide ((n : Int) ≤ 100000) = true := decide_eq_true (by omega)
  have H := Lib.hid h
  clear h
  have hmf : ∀ (fn : Fn) (first cap : Array Value) (w : World), (Instr.makeFunc fn first cap).run Try.prog w = .ok (.func fn first cap) w := fun _ _ _ _ => rfl
  go_enter Try.func6, Try.ntmps6
  go_wp2_with fail
  have HT := Lib.hid (Twob.new w 23 3 (.pointer (some ⟨p, 0, none⟩)) (.int .i64 (n : Int)))
  generalize ((w.alloc (.cells #[.pointer (some ⟨p, 0, none⟩)] 23)).alloc (.cells #[.int .i64 (n : Int)] 3)) = W at HT ⊢
  refine (faceN_dry (.inl rfl) (H.out.ext HT.out.ext)).mono ?_
  rintro e w1 ⟨rfl, h1⟩
  go_wp2
  go_ret2
  exact ⟨rfl, HT.out.ext.trans h1⟩
end Go.Proofs.Ytgihjgkpmochcaa

namespace Go.Proofs.Ytgihjgkpmochcaa
open Go.RowKit

set_option maxRecDepth 100000 in
set_option maxHeartbeats 2000000 in
theorem faceB_coin {w : World} {p i j b1 b2 : Nat} {s : ByteArray} {r : Bool} (h : Src w p s i false)
    (hdo : ∀ W, Ext w W → Calls Try.prog 30 #[.pointer (some ⟨b1, 0, none⟩), .pointer (some ⟨b2, 0, none⟩)] W fun e w' => e = .returned (.bool r) ∧ Mo p W w' ∧ Src w' p s j false) :
    Calls Try.prog 26 #[.pointer (some ⟨p, 0, none⟩), .bool true, .func (.func 30) #[] #[.pointer (some ⟨b1, 0, none⟩), .pointer (some ⟨b2, 0, none⟩)]] w fun e w' =>
      e = .returned (.tuple #[.bool r, .int .i64 0]) ∧ Mo p w w' ∧ Src w' p s j false := by
  have hpl := h.lt
  have H := Lib.hid h
  have hdo' := Lib.hid hdo
  clear hdo
  have hmf : ∀ (fn : Fn) (first cap : Array Value) (w : World), (Instr.makeFunc fn first cap).run Try.prog w = .ok (.func fn first cap) w := fun _ _ _ _ => rfl
  clear h
  go_enter_defers Try.func26, Try.ntmps26
  go_wp2_with fail
  have HT := Lib.hid (Three.new w 4 (.bool false))
  generalize (((w.alloc (.cells #[.bool false] 4)).alloc (.cells #[.int .i64 0] 27)).alloc (.cells #[.bool false] 4)) = W at HT ⊢
  refine (there_src (H.out.ext HT.out.ext)).mono ?_
  rintro e w' ⟨rfl, rfl⟩
  have k3 := (H.out.ext HT.out.ext).c3
  go_wp2_with fail
  refine (hdo'.out W HT.out.ext).mono ?_
  rintro e w1 ⟨rfl, M1, S1⟩
  clear hdo'
  have b1 := boxMo HT.out.o M1 (by omega)
  have b2 := boxMo HT.out.e M1 (by omega)
  have b3 := boxMo HT.out.n M1 (by omega)
  have HS := Lib.hid (And.intro M1 S1)
  have c1 := b1.cell
  have c2 := b2.cell
  have f1 := b1.frozen
  have f2 := b2.frozen
  clear k3 M1 S1 b1 b2 b3
  go_wp2
  refine leaves_cons (f := 44) (args := #[.pointer (some ⟨w.heap.size + 1 + 1, 0, none⟩), .pointer (some ⟨w.heap.size, 0, none⟩), .pointer (some ⟨w.heap.size + 1, 0, none⟩)]) (by simp) (by simp [go_sem]) ?_
  refine (faceB1_idle _ _ _ _).mono ?_
  rintro e u' w'' ⟨rfl, rfl, rfl⟩
  simp only [Leaves, settle]
  refine ⟨_, by simp [results, Try.results26, go_sem, c1, c2], rfl, ?_⟩
  have hM := ((Mo.of_ext HT.out.ext).trans HS.out.1)
  exact ⟨(hM.set (.inr (Nat.le_refl _)) _).set (.inr (by simp)) _, (HS.out.2.setOther (by simp; omega) _).setOther (by simp; omega) _⟩

set_option maxRecDepth 100000 in
set_option maxHeartbeats 2000000 in
theorem faceB_bit {w : World} {p i : Nat} {s : ByteArray} (h : Src w p s i false) (hs : s.size ≤ 1000000) (hi : i < 8 * s.size) :
    Calls Try.prog 26 #[.pointer (some ⟨p, 0, none⟩), .bool true, .func (.func 27) #[.pointer (some ⟨p, 0, none⟩)] #[]] w fun e w' =>
      e = .returned (.tuple #[.bool (bitAt s i), .int .i64 0]) ∧ Mo p w w' ∧ Src w' p s (i + 1) false := by
  have hpl := h.lt
  have H := Lib.hid h
  have hmf : ∀ (fn : Fn) (first cap : Array Value) (w : World), (Instr.makeFunc fn first cap).run Try.prog w = .ok (.func fn first cap) w := fun _ _ _ _ => rfl
  clear h
  go_enter_defers Try.func26, Try.ntmps26
  go_wp2_with fail
  have HT := Lib.hid (Three.new w 4 (.bool false))
  generalize (((w.alloc (.cells #[.bool false] 4)).alloc (.cells #[.int .i64 0] 27)).alloc (.cells #[.bool false] 4)) = W at HT ⊢
  refine (there_src (H.out.ext HT.out.ext)).mono ?_
  rintro e w' ⟨rfl, rfl⟩
  have k3 := (H.out.ext HT.out.ext).c3
  go_wp2_with fail
  refine (next_ok (H.out.ext HT.out.ext) hi hs).mono ?_
  rintro e w1 ⟨rfl, M1, S1⟩
  have b1 := boxMo HT.out.o M1 (by omega)
  have b2 := boxMo HT.out.e M1 (by omega)
  have b3 := boxMo HT.out.n M1 (by omega)
  have HS := Lib.hid (And.intro M1 S1)
  have c1 := b1.cell
  have c2 := b2.cell
  have f1 := b1.frozen
  have f2 := b2.frozen
  clear k3 M1 S1 b1 b2 b3
  go_wp2
  refine leaves_cons (f := 44) (args := #[.pointer (some ⟨w.heap.size + 1 + 1, 0, none⟩), .pointer (some ⟨w.heap.size, 0, none⟩), .pointer (some ⟨w.heap.size + 1, 0, none⟩)]) (by simp) (by simp [go_sem]) ?_
  refine (faceB1_idle _ _ _ _).mono ?_
  rintro e u' w'' ⟨rfl, rfl, rfl⟩
  simp only [Leaves, settle]
  refine ⟨_, by simp [results, Try.results26, go_sem, c1, c2], rfl, ?_⟩
  have hM := ((Mo.of_ext HT.out.ext).trans HS.out.1)
  exact ⟨(hM.set (.inr (Nat.le_refl _)) _).set (.inr (by simp)) _, (HS.out.2.setOther (by simp; omega) _).setOther (by simp; omega) _⟩

set_option maxRecDepth 100000 in
set_option maxHeartbeats 2000000 in
theorem faceB_dies {w : World} {p i : Nat} {s : ByteArray} (h : Src w p s i false) (hs : s.size ≤ 1000000) (hi : 8 * s.size ≤ i) :
    Calls Try.prog 26 #[.pointer (some ⟨p, 0, none⟩), .bool true, .func (.func 27) #[.pointer (some ⟨p, 0, none⟩)] #[]] w fun e w' =>
      e = .returned (.tuple #[.bool false, .int .i64 230]) ∧ Mo p w w' ∧ Src w' p s i true := by
  have hpl := h.lt
  have H := Lib.hid h
  have hmf : ∀ (fn : Fn) (first cap : Array Value) (w : World), (Instr.makeFunc fn first cap).run Try.prog w = .ok (.func fn first cap) w := fun _ _ _ _ => rfl
  clear h
  go_enter_defers Try.func26, Try.ntmps26
  go_wp2_with fail
  have HT := Lib.hid (Three.new w 4 (.bool false))
  generalize (((w.alloc (.cells #[.bool false] 4)).alloc (.cells #[.int .i64 0] 27)).alloc (.cells #[.bool false] 4)) = W at HT ⊢
  refine (there_src (H.out.ext HT.out.ext)).mono ?_
  rintro e w' ⟨rfl, rfl⟩
  have k3 := (H.out.ext HT.out.ext).c3
  go_wp2_with fail
  refine (next_dry (H.out.ext HT.out.ext) hi hs).mono ?_
  rintro e w1 ⟨rfl, M1, S1⟩
  have b1 := boxMo HT.out.o M1 (by omega)
  have b2 := boxMo HT.out.e M1 (by omega)
  have b3 := boxMo HT.out.n M1 (by omega)
  have HS := Lib.hid (And.intro M1 S1)
  clear k3 M1 S1
  go_wp2
  refine leaves_cons (f := 44) (args := #[.pointer (some ⟨w.heap.size + 1 + 1, 0, none⟩), .pointer (some ⟨w.heap.size, 0, none⟩), .pointer (some ⟨w.heap.size + 1, 0, none⟩)]) (by simp) (by simp [go_sem]) ?_
  refine (faceB1_catch _ _ _ 230 false 0 [] w1 b3.cell b1.cell b2.cell b1.frozen b2.frozen).mono ?_
  rintro e u' w2 ⟨rfl, rfl, rfl⟩
  have c1 := (boxSet (b1.set (.bool false)) (q := ⟨w.heap.size + 1, 0, none⟩) (by simp) (.int .i64 230)).cell
  have c2 := ((boxSet b2 (q := ⟨w.heap.size, 0, none⟩) (by simp) (.bool false)).set (.int .i64 230)).cell
  show ∃ v, _ ∧ _
  refine ⟨_, by simp [results, Try.results26, go_sem, c1, c2], rfl, ?_⟩
  have hM := ((Mo.of_ext HT.out.ext).trans HS.out.1)
  exact ⟨(hM.set (.inr (Nat.le_refl _)) _).set (.inr (by simp)) _, (HS.out.2.setOther (by simp; omega) _).setOther (by simp; omega) _⟩

theorem Bit_ok {w : World} {p i : Nat} {s : ByteArray} (h : Src w p s i false) (hs : s.size ≤ 1000000) (hi : i < 8 * s.size) :
    Calls Try.prog 12 #[.pointer (some ⟨p, 0, none⟩)] w fun e w' => e = .returned (.tuple #[.bool (bitAt s i), .int .i64 0]) ∧ Mo p w w' ∧ Src w' p s (i + 1) false := by
  have hmf : ∀ (fn : Fn) (first cap : Array Value) (w : World), (Instr.makeFunc fn first cap).run Try.prog w = .ok (.func fn first cap) w := fun _ _ _ _ => rfl
  have H := Lib.hid (faceB_bit h hs hi)
  clear h
  go_enter Try.func12, Try.ntmps12
  go_wp2_with fail
  refine H.out.mono ?_
  rintro e w1 ⟨rfl, h1, h2⟩
  go_wp2
  go_ret2
  exact ⟨rfl, h1, h2⟩
theorem Bit_dies {w : World} {p i : Nat} {s : ByteArray} (h : Src w p s i false) (hs : s.size ≤ 1000000) (hi : 8 * s.size ≤ i) :
    Calls Try.prog 12 #[.pointer (some ⟨p, 0, none⟩)] w fun e w' => e = .returned (.tuple #[.bool false, .int .i64 230]) ∧ Mo p w w' ∧ Src w' p s i true := by
  have hmf : ∀ (fn : Fn) (first cap : Array Value) (w : World), (Instr.makeFunc fn first cap).run Try.prog w = .ok (.func fn first cap) w := fun _ _ _ _ => rfl
  have H := Lib.hid (faceB_dies h hs hi)
  clear h
  go_enter Try.func12, Try.ntmps12
  go_wp2_with fail
  refine H.out.mono ?_
  rintro e w1 ⟨rfl, h1, h2⟩
  go_wp2
  go_ret2
  exact ⟨rfl, h1, h2⟩
end Go.Proofs.Ytgihjgkpmochcaa

namespace Go.Proofs.Ytgihjgkpmochcaa
open Go.RowKit

theorem Num.mo {w w' : World} {p i : Nat} {s : ByteArray} {d : Bool} {v : Value} {m : Nat} (h : Num w v m) (hs : Src w p s i d) (e : Mo p w w') : Num w' v m := h.keep (hs.keeps e)
theorem lt_neg {m n : Nat} (h : m < n) : decide (cmpN m n < 0) = true := by
  unfold cmpN
  rw [if_pos h]; rfl
theorem lt_not {m n : Nat} (h : n ≤ m) : decide (cmpN m n < 0) = false := by
  unfold cmpN
  rw [if_neg (by omega)]
  split <;> rfl

set_option maxRecDepth 100000 in
set_option maxHeartbeats 2000000 in
theorem below_ok {w : World} {p a m r nb : Nat} {s : ByteArray} {mv : Value} (h : Src w p s a false) (hs : s.size ≤ 1000000) (hm : Num w mv m) (h0 : 1 ≤ m) (hb : blen (m - 1) = nb) (hn : nb ≤ 1000)
    (hno : ∀ j, j < r → m ≤ numAt s (a + j * nb) nb) (hyes : numAt s (a + r * nb) nb < m) (hf : a + r * nb + nb ≤ 8 * s.size) :
    Calls Try.prog 25 #[.pointer (some ⟨p, 0, none⟩), mv] w fun e w' => ∃ v, e = .returned v ∧ Mo p w w' ∧ Src w' p s (a + r * nb + nb) false ∧ Num w' v (numAt s (a + r * nb) nb) := by
  have hpl := h.lt
  have H := Lib.hid h
  have HM := Lib.hid hm
  have HB := Lib.hid (And.intro hb (And.intro hno (And.intro hyes hf)))
  obtain ⟨y, hy⟩ : ∃ y, m - 1 = y := ⟨_, rfl⟩
  have HY := Lib.hid hy
  clear h hm hb hno hyes hf hy
  go_enter Try.func25, Try.ntmps25
  go_wp2_with fail
  refine (of_n (x := 1) (by unfold B64; omega) _).mono ?_
  rintro e w1 ⟨ov, rfl, E1, ho⟩
  go_wp2_with fail
  refine (sub_ok (HM.out.ext E1).is ho.is HM.out.lt h0).mono ?_
  rintro e w2 ⟨_, rfl, E2, lv, rfl, hl⟩
  rw [HY.out] at hl
  have HL := Lib.hid hl
  have E12 : Ext w w2 := E1.trans E2
  have HE := Lib.hid E12
  have HS2 := Lib.hid (H.out.ext E12)
  have HM2 := Lib.hid (HM.out.ext E12)
  clear hl ho
  obtain ⟨la, ln, lc, rfl, _⟩ := num_open HL.out
  go_wp2
  go_loopg [] r (fun g wr => ∃ k, k ≤ r ∧ Hid (g = r - k) ∧ Mo p w2 wr ∧ Src wr p s (a + k * nb) false)
  case atStart => exact ⟨0, by omega, Lib.hid rfl, Mo.refl _ _, by rw [Nat.zero_mul]; exact HS2.out⟩
  case round =>
    obtain ⟨k, hk, HG, hM, hS⟩ := hrel
    have hLr := HL.out.mo HS2.out hM
    have hMr := HM2.out.mo HS2.out hM
    have hfit : a + k * nb + nb ≤ 8 * s.size := by
      have := HB.out.2.2.2
      have := Nat.mul_le_mul_right nb hk
      omega
    have HN := Lib.hid fun W (E : Ext wr W) => number_ok (hS.ext E) hs hfit hn
    have HX := Lib.hid (And.intro hM (And.intro hS hMr))
    clear hM hS hMr hfit
    go_wp2_with fail
    refine (bits_n hLr.is).mono ?_
    rintro e w3 ⟨_, rfl, E3, rfl⟩
    rw [← HY.out, HB.out.1]
    go_wp2_with fail
    refine (HN.out _ E3).mono ?_
    rintro e w4 ⟨v, rfl, M4, S4, N4⟩
    obtain ⟨va, vn, vc, rfl, HV⟩ := num_open N4
    have M34 : Mo p wr w4 := (Mo.of_ext E3).trans M4
    have hm4 := HX.out.2.2.mo HX.out.2.1 M34
    have HS4 := Lib.hid (And.intro M34 S4)
    clear M4 S4 N4 M34 HN hLr
    go_wp2_with fail
    refine (cmp_n HV.out.is hm4.is).mono ?_
    rintro e w5 ⟨_, rfl, E5, rfl⟩
    by_cases hlt : numAt s (a + k * nb) nb < m
    · have hc := lt_neg hlt
      have hkr : k = r := by
        rcases Nat.lt_or_ge k r with h1 | h1
        · have := HB.out.2.1 k h1; omega
        · omega
      generalize cmpN (numAt s (a + k * nb) nb) m = cc at hc
      go_wp2
      go_ret
      subst hkr
      exact ⟨_, rfl, (((Mo.of_ext (HE.out)).trans HX.out.1).trans HS4.out.1).ext E5, HS4.out.2.ext E5, HV.out.ext E5⟩
    · have hc := lt_not (Nat.le_of_not_lt hlt)
      have hkr : k < r := by
        rcases Nat.lt_or_ge k r with h1 | h1
        · exact h1
        · obtain rfl : k = r := by omega
          exact absurd HB.out.2.2.1 hlt
      generalize cmpN (numAt s (a + k * nb) nb) m = cc at hc
      go_wp2
      go_roundg (r - (k + 1))
      case rel => exact ⟨k + 1, hkr, Lib.hid rfl, (HX.out.1.trans HS4.out.1).ext E5, by rw [Nat.succ_mul, ← Nat.add_assoc]; exact HS4.out.2.ext E5⟩
      case measure => have := HG.out; omega
theorem below1_ok {w : World} {p a m r nb b1 b2 : Nat} {s : ByteArray} {mv : Value} (h : Src w p s a false) (hs : s.size ≤ 1000000) (hm : Num w mv m) (h0 : 1 ≤ m) (hb : blen (m - 1) = nb) (hn : nb ≤ 1000)
    (hno : ∀ j, j < r → m ≤ numAt s (a + j * nb) nb) (hyes : numAt s (a + r * nb) nb < m) (hf : a + r * nb + nb ≤ 8 * s.size)
    (k1 : w.cell? ⟨b1, 0, none⟩ = some (.pointer (some ⟨p, 0, none⟩))) (k2 : w.cell? ⟨b2, 0, none⟩ = some mv) :
    Calls Try.prog 24 #[.pointer (some ⟨b1, 0, none⟩), .pointer (some ⟨b2, 0, none⟩)] w fun e w' => ∃ v, e = .returned v ∧ Mo p w w' ∧ Src w' p s (a + r * nb + nb) false ∧ Num w' v (numAt s (a + r * nb) nb) := by
  have H := Lib.hid (below_ok h hs hm h0 hb hn hno hyes hf)
  obtain ⟨ma, mn, mc, rfl, _⟩ := num_open hm
  clear h hm hno hyes hb
  go_enter Try.func24, Try.ntmps24
  go_wp2_with fail
  refine H.out.mono ?_
  rintro e w1 ⟨v, rfl, h1, h2, h3⟩
  go_wp2
  go_ret
  exact ⟨_, rfl, h1, h2, h3⟩
theorem num_pos {w : World} {v : Value} {m : Nat} (h : Num w v m) (h0 : 1 ≤ m) : ∃ a n c, v = .slice a n c ∧ 1 ≤ n ∧ Hid (Num w v m) := by
  obtain ⟨t, a, n, c, e, k⟩ := h
  refine ⟨a, n, c, e, ?_, Lib.hid ⟨t, a, n, c, e, k⟩⟩
  have hl := k.len
  obtain ⟨xs, z, e2, _⟩ := limbs_last (n := m) (by omega)
  rw [e2] at hl
  simp at hl
  omega

set_option maxRecDepth 100000 in
set_option maxHeartbeats 2000000 in
theorem Below_ok {w : World} {p a m r nb : Nat} {s : ByteArray} {mv : Value} (h : Src w p s a false) (hs : s.size ≤ 1000000) (hm : IsN w mv m) (ht : m < Top) (h0 : 1 ≤ m) (hb : blen (m - 1) = nb) (hn : nb ≤ 1000)
    (hno : ∀ j, j < r → m ≤ numAt s (a + j * nb) nb) (hyes : numAt s (a + r * nb) nb < m) (hf : a + r * nb + nb ≤ 8 * s.size) :
    Calls Try.prog 10 #[.pointer (some ⟨p, 0, none⟩), mv] w fun e w' => ∃ v, e = .returned (.tuple #[v, .int .i64 0]) ∧ Mo p w w' ∧ Src w' p s (a + r * nb + nb) false ∧ Num w' v (numAt s (a + r * nb) nb) := by
  have hpl := h.lt
  have H := Lib.hid h
  have HM := Lib.hid (And.intro hm ht)
  have HB := Lib.hid (And.intro hb (And.intro hno (And.intro hyes hf)))
  obtain ⟨ma, mn, mc, mxs, rfl, _⟩ := hm
  have hmf : ∀ (fn : Fn) (first cap : Array Value) (w : World), (Instr.makeFunc fn first cap).run Try.prog w = .ok (.func fn first cap) w := fun _ _ _ _ => rfl
  clear h hno hyes hb hf ht
  go_enter Try.func10, Try.ntmps10
  go_wp2_with fail
  refine (norm_n (HM.out.1.ext (Ext.of_alloc _ _)) HM.out.2).mono ?_
  rintro e w1 ⟨_, rfl, E1, x, rfl, hx⟩
  obtain ⟨xa, xn, xc, rfl, hxn, HX⟩ := num_pos hx h0
  have hB : Boxed w1 w.heap.size 23 (.pointer (some ⟨p, 0, none⟩)) := E1.block (Boxed.new w _ _)
  have HE := Lib.hid (And.intro ((Ext.of_alloc w (.cells #[.pointer (some ⟨p, 0, none⟩)] 23)).trans E1) hB)
  have hpos : decide (0 < xn) = true := decide_eq_true (by omega)
  have hsz := HE.out.1.size
  have c0 := hB.cell
  have hl1 := hB.lt
  clear hx hB E1
  go_wp2_with fail
  have hX := Boxed.new w1 26 (.slice xa xn xc)
  have EX := Ext.of_alloc w1 (.cells #[.slice xa xn xc] 26)
  generalize w1.alloc (.cells #[.slice xa xn xc] 26) = W at hX EX ⊢
  refine (faceN_ok (.inr rfl) (H.out.ext (HE.out.1.trans EX)) (j := a + r * nb + nb) (m := numAt s (a + r * nb) nb) fun W' E => below1_ok (H.out.ext ((HE.out.1.trans EX).trans E)) hs (HX.out.ext (EX.trans E)) h0 HB.out.1 hn HB.out.2.1 HB.out.2.2.1 HB.out.2.2.2 ((EX.trans E).cell c0) (E.cell hX.cell)).mono ?_
  rintro e w2 ⟨v, rfl, h1, h2, h3⟩
  go_wp2
  go_ret2
  exact ⟨_, rfl, (Mo.of_ext (HE.out.1.trans EX)).trans h1, h2, h3⟩
end Go.Proofs.Ytgihjgkpmochcaa
