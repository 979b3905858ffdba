/- The limbs of two numbers side by side. -/
import Derived.Test.YtnecpkoibknacaaFence
import Derived.Test.YtnecpkoibknacaaW2
import Derived.Test.YtnecpkoibknacaaPlainB
namespace Go.Proofs.Ytnecpkoibknacaa
set_option linter.unusedVariables false
open Go.RowKit Go.Shelf

attribute [local go_sem] Oper.semAt_some

theorem at_any (a : Option Addr) (n c : Nat) (xs : List Nat) (i : Nat) (w : World) (h : Nums w a n c xs) (hi : i ≤ 1000000) :
    Calls Try.prog 70 #[.slice a n c, .int .i64 i] w fun e w' => e = .returned (.int .u64 ((xs[i]?.getD 0 : Nat) : Int)) ∧ w' = w := by
  obtain rfl := h.len
  have hfew := h.few
  by_cases hlt : i < xs.length
  · rcases h.at_ with h0 | ⟨b, off, rfl, hc⟩
    · omega
    have hcell := hc i (by omega)
    clear hc
    go_enter Try.func70, Try.ntmps70
    go_wp2
    go_ret
    exact ⟨by simp [hlt], rfl⟩
  · rw [List.getElem?_eq_none (by omega)]
    go_enter Try.func70, Try.ntmps70
    go_wp2
    go_ret
    exact ⟨rfl, rfl⟩

set_option maxHeartbeats 400000 in
theorem pairs_any (v1 v2 : Value) (a1 a2 : Option Addr) (n1 c1 n2 c2 : Nat) (w : World) (e1 : v1 = .slice a1 n1 c1) (e2 : v2 = .slice a2 n2 c2) :
    Calls Try.prog 59 #[v1, v2] w fun e w' => e = .returned (.func (.func 71) #[] #[.pointer (some ⟨w.heap.size, 0, none⟩), .pointer (some ⟨w.heap.size + 1, 0, none⟩), .pointer (some ⟨w.heap.size + 1 + 1, 0, none⟩)]) ∧
      w' = ((w.alloc (.cells #[v1] 23)).alloc (.cells #[v2] 23)).alloc (.cells #[.func (.func 70) #[] #[]] 58) := by
  subst e1 e2
  have hmf : ∀ (fn : Fn) (first cap : Array Value) (w : World), (Instr.makeFunc fn first cap).run Try.prog w = .ok (.func fn first cap) w := fun _ _ _ _ => rfl
  go_enter Try.func59, Try.ntmps59
  go_wp2
  go_ret
  exact ⟨rfl, rfl⟩

/-- A place and the two limbs there. -/
structure Pr where
  i : Nat
  x : Nat
  y : Nat
  hx : x < B64
  hy : y < B64
def Pr.enc (p : Pr) : Array Value := #[.int .i64 p.i, .agg #[.int .u64 p.x, .int .u64 p.y]]

set_option maxRecDepth 100000 in
set_option maxHeartbeats 1000000 in
theorem pairs2_in (l : Nat) (B : Nat) (a1 a2 : Option Addr) (n1 c1 n2 c2 : Nat) (xs ys : List Nat) (w W0 : World) (hw : Ext w W0) (hwB : w.heap.size ≤ B)
    (h1 : Nums w a1 n1 c1 xs) (h2 : Nums w a2 n2 c2 ys)
    (b1 : W0.cell? ⟨B, 0, none⟩ = some (.slice a1 n1 c1)) (b2 : W0.cell? ⟨B + 1, 0, none⟩ = some (.slice a2 n2 c2)) (b3 : W0.cell? ⟨B + 1 + 1, 0, none⟩ = some (.func (.func 70) #[] #[]))
    (J Jx : List Pr → World → Prop)
    (hY : ∀ pre x W, J pre W → pre.length < max n1 n2 → YieldAt Fence.wide 2 Try.prog l x.enc W fun e W' =>
      (e = .returned (.bool true) ∧ J (pre ++ [x]) W' ∧ Hole w.heap.size B W0.heap.size W W') ∨ (e = .returned (.bool false) ∧ Jx (pre ++ [x]) W'))
    (W : World) (hW : Ext W0 W) (hJ : AbidesFrom W.heap.size J) (h0 : J [] W) :
    CallsIn Fence.wide 3 Try.prog 71 #[.func (.yield l) #[] #[], .pointer (some ⟨B, 0, none⟩), .pointer (some ⟨B + 1, 0, none⟩), .pointer (some ⟨B + 1 + 1, 0, none⟩)] W fun e W' => (∃ v, e = .returned v) ∧
      ((∃ zs : List Pr, (zs.map fun p => (p.x, p.y)) = prs xs ys (max n1 n2) ∧ J zs W') ∨ (∃ pre, Jx pre W')) := by
  have k1 : B < W0.heap.size := World.block_lt_of_cell? W0 ⟨B, 0, none⟩ b1
  have k2 : B + 1 < W0.heap.size := World.block_lt_of_cell? W0 ⟨B + 1, 0, none⟩ b2
  have k3 : B + 1 + 1 < W0.heap.size := World.block_lt_of_cell? W0 ⟨B + 1 + 1, 0, none⟩ b3
  have f1 := h1.few
  have f2 := h2.few
  have g1 := hW.cell b1
  have g2 := hW.cell b2
  refine callsIn_of_wp Try.func71 rfl trivial ?_ rfl
  simp only [Try.ntmps71, List.size_toArray, List.length_cons, List.length_nil, Nat.reduceAdd, Nat.reduceSub, Array.replicate_succ, Array.replicate_zero, List.push_toArray, List.append_toArray, List.nil_append, List.cons_append]
  rcases Nat.lt_or_ge n1 n2 with h12 | h12
  all_goals
    gi_wp2
    gi_loopw [11] (fun k wr => ∃ (j : Nat) (zs : List Pr), j ≤ max n1 n2 ∧ k = .int .i64 j ∧ (zs.map fun p => (p.x, p.y)) = prs xs ys j ∧ Hole w.heap.size B W0.heap.size W0 wr ∧ J zs wr)
      (fun k _ => max n1 n2 - (intOf k).toNat)
    case atStart => exact ⟨0, [], by omega, rfl, rfl, .of_below hW, h0⟩
    case round =>
      obtain ⟨j, zs, hj, rfl, hzs, hext, hJs⟩ := hrel
      have HZ := Lib.hid hzs
      clear hzs
      have g3 := hext.cell k1 (.inr (Nat.le_refl _)) b1
      have g4 := hext.cell k2 (.inr (by simp)) b2
      have g5 := hext.cell k3 (.inr (by simp; omega)) b3
      have hwr := hext.ext hw hw.size
      by_cases hlt : j < max n1 n2
      · gi_wp2
        refine wpIn_region_tail open_wide 11 (by kernel_rfl) (by kernel_rfl) ?_
        simp only [List.take_succ_cons, List.take_zero, List.drop_succ_cons, List.drop_zero]
        repeat (go_big_quiet_step ((go_at_call 70; first | exact Calls.quiet_of_same (at_any _ _ _ _ _ _ (h1.ext (hwr.drewN _)) (by omega)) | exact Calls.quiet_of_same (at_any _ _ _ _ _ _ (h2.ext (hwr.drewN _)) (by omega)))))
        refine wpQuiet_nil ?_
        rintro _ ⟨nq, rfl⟩
        have hd : Hole w.heap.size B W0.heap.size W0 (wr.drewN nq) := hext.drewN nq
        have hJd : J zs (wr.drewN nq) := hJ zs wr (wr.drewN nq) none hJs ⟨rfl, rfl, rfl, Nat.le_refl _, fun _ _ _ => rfl⟩ (fun r e => by cases e)
        obtain ⟨fn, tmps, assign, body, hy, hR⟩ := hY zs ⟨j, _, _, h1.bd j, h2.bd j⟩ (wr.drewN nq) hJd (by have := congrArg List.length HZ.out; simp [prs] at this; omega)
        simp only [Pr.enc] at hy
        have HR := Lib.hid hR
        clear hR hY hJ h0 hwr
        gi_wp2
        refine HR.out.mono ?_
        rintro e W3 (⟨rfl, hJ3, hk3⟩ | ⟨rfl, hJx3⟩)
        · gi_wp2
          go_roundw
          case rel => exact ⟨j + 1, _, by omega, by go_num, by rw [prs_succ, List.map_append, HZ.out]; rfl, hd.trans hk3, hJ3⟩
          case measure => simp [intOf]; omega
        · gi_wp2
          refine bodyPost_ret (results_none rfl _ _ _) rfl ?_
          exact ⟨⟨_, rfl⟩, .inr ⟨_, hJx3⟩⟩
      · gi_wp2
        go_end0
        have : j = max n1 n2 := by omega
        subst this
        exact ⟨⟨_, rfl⟩, .inl ⟨zs, HZ.out, hJs⟩⟩

/-- What pairs hands back, as an iterator. -/
theorem pairs_stops (B : Nat) (a1 a2 : Option Addr) (n1 c1 n2 c2 : Nat) (xs ys : List Nat) (w W0 : World) (hw : Ext w W0) (hwB : w.heap.size ≤ B)
    (h1 : Nums w a1 n1 c1 xs) (h2 : Nums w a2 n2 c2 ys)
    (b1 : W0.cell? ⟨B, 0, none⟩ = some (.slice a1 n1 c1)) (b2 : W0.cell? ⟨B + 1, 0, none⟩ = some (.slice a2 n2 c2)) (b3 : W0.cell? ⟨B + 1 + 1, 0, none⟩ = some (.func (.func 70) #[] #[])) :
    SeqStopsK Fence.wide 3 Try.prog 71 #[.pointer (some ⟨B, 0, none⟩), .pointer (some ⟨B + 1, 0, none⟩), .pointer (some ⟨B + 1 + 1, 0, none⟩)] Pr.enc (Hole w.heap.size B W0.heap.size)
      (fun zs => (zs.map fun p => (p.x, p.y)) = prs xs ys (max n1 n2)) (fun _ => True) (max n1 n2) W0 := fun l J Jx W hW hJ _ hY h0 =>
  (pairs2_in l B a1 a2 n1 c1 n2 c2 xs ys w W0 hw hwB h1 h2 b1 b2 b3 J Jx hY W hW hJ h0).mono fun _ _ ⟨hv, h⟩ => ⟨hv, h.imp (fun ⟨zs, hz, hj⟩ => ⟨zs, hz, hj⟩) fun ⟨pre, hp⟩ => ⟨pre, trivial, hp⟩⟩

end Go.Proofs.Ytnecpkoibknacaa
