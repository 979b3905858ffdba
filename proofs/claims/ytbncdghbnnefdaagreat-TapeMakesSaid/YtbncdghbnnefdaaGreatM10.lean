/- Parts of the proof: contracts of the functions that the law reaches, and the arithmetic that they rest on; no condition beyond those that each theorem states. -/
import Derived.Deep.LoopGhost
import Derived.Maps.Own
import Derived.WideKeyEntry
import Derived.DeepKeys4
import Derived.Maps.AppendAt
import Derived.Deep.AppendLies
import Derived.OrdersHeld
import Derived.Deep.RegionHeld
import Derived.Test.YtbncdghbnnefdaaGreatChecked
import Derived.Test.YtbncdghbnnefdaaGreatM1
import Derived.Test.YtbncdghbnnefdaaGreatM9

namespace Go.Proofs.YtbncdghbnnefdaaGreat

/-- Which fields a step has, by its Op. -/
def fieldsN (op : Nat) : Nat := if op = 1 then 1 else if op = 2 then 2 else if 3 ≤ op ∧ op ≤ 6 then 3 else if 7 ≤ op ∧ op ≤ 11 then 4 else 0
/-- A step as data: its number by its sign and its limbs. -/
structure Step where
  op : Nat
  a : Int
  b : Int
  neg : Bool
  xs : List Nat
  ys : List Nat
/-- Two rows of limbs are the same. -/
def sameL (xs ys : List Nat) : Bool := decide (xs = ys)
def sameC (m n : Step) : Bool := decide (m.neg = n.neg) && (sameL m.xs n.xs && sameL m.ys n.ys)
def sameS (m n : Step) : Bool := decide (m.op = n.op) && (decide (m.a = n.a) && (decide (m.b = n.b) && sameC m n))
theorem sameS_iff (m n : Step) : sameS m n = true ↔ m = n := by
  cases m; cases n
  simp [sameS, sameC, sameL]
/-- The numbers' rows have none on top that is 0, and so on: the number is normal. -/
def normC (s : Step) : Bool :=
  let n := val s.xs
  let d := val s.ys
  decide (d ≠ 0) && (decide (sg s.neg (n / Nat.gcd n d) = s.neg) && (sameL (limbs (n / Nat.gcd n d)) s.xs && sameL (limbs (d / Nat.gcd n d)) s.ys))
/-- The step bears no number. -/
def noneC (s : Step) : Bool := decide (s.xs.length = 0) && (decide (s.ys.length = 0) && !s.neg)
def ahead (i lim : Int) : Bool := decide (0 ≤ i) && decide (i < lim)
/-- May the step be, at this place, with so many parameters? -/
def rightP (s : Step) (lim pars : Int) : Bool :=
  if fieldsN s.op = 1 then normC s && (decide (s.a = 0) && decide (s.b = 0))
  else if fieldsN s.op = 2 then noneC s && (ahead s.a pars && decide (s.b = 0))
  else if fieldsN s.op = 3 then noneC s && (ahead s.a lim && ahead s.b lim)
  else if fieldsN s.op = 4 then noneC s && (ahead s.a lim && decide (s.b = 0))
  else false
end Go.Proofs.YtbncdghbnnefdaaGreat

namespace Go.Proofs.YtbncdghbnnefdaaGreat
open Go.RowKit

set_option maxRecDepth 100000 in
set_option maxHeartbeats 6000000 in
theorem fields_any (op : Nat) (h : op < 256) (w : World) : Calls Tryz.prog 41 #[.int .u8 op] w (Post w fun v _ => v = .int .i64 (fieldsN op)) := by
  by_cases h12 : op < 12
  · have : op = 0 ∨ op = 1 ∨ op = 2 ∨ op = 3 ∨ op = 4 ∨ op = 5 ∨ op = 6 ∨ op = 7 ∨ op = 8 ∨ op = 9 ∨ op = 10 ∨ op = 11 := by omega
    rcases this with rfl | rfl | rfl | rfl | rfl | rfl | rfl | rfl | rfl | rfl | rfl | rfl
    all_goals
      go_enter Tryz.func41, Tryz.ntmps41
      go_wp2
      go_ret
      exact Post.mk (by repeat (first | with_reducible exact Ext.refl _ | with_reducible assumption | (with_reducible refine Ext.alloc ?_ _) | (with_reducible refine Ext.drew ?_) | (with_reducible refine Ext.drewN ?_ _) | (with_reducible refine Ext.set ?_ (by first | (simp; done) | (simp; omega)) _) | (with_reducible refine Ext.trans ?_ (by with_reducible assumption)))) rfl
  · have e : fieldsN op = 0 := by
      unfold fieldsN
      rw [if_neg (by omega), if_neg (by omega), if_neg (by omega), if_neg (by omega)]
    have E := Lib.hid e
    clear e
    go_enter Tryz.func41, Tryz.ntmps41
    go_wp2
    go_ret
    exact Post.mk (by repeat (first | with_reducible exact Ext.refl _ | with_reducible assumption | (with_reducible refine Ext.alloc ?_ _) | (with_reducible refine Ext.drew ?_) | (with_reducible refine Ext.drewN ?_ _) | (with_reducible refine Ext.set ?_ (by first | (simp; done) | (simp; omega)) _) | (with_reducible refine Ext.trans ?_ (by with_reducible assumption)))) (by rw [E.out]; rfl)
end Go.Proofs.YtbncdghbnnefdaaGreat

namespace Go.Proofs.YtbncdghbnnefdaaGreat
open Go.RowKit

theorem getD_bd {xs : List Nat} (h : ∀ x ∈ xs, x < B64) (i : Nat) : xs[i]?.getD 0 < B64 := by
  cases hi : xs[i]? with
  | none => simp [B64]
  | some x => exact h x (List.mem_of_getElem? hi)
theorem take_same {xs ys : List Nat} {i : Nat} (h1 : i < xs.length) (h2 : i < ys.length) (h : xs.take i = ys.take i) (he : xs[i]?.getD 0 = ys[i]?.getD 0) : xs.take (i + 1) = ys.take (i + 1) := by
  rw [List.take_succ_eq_append_getElem h1, List.take_succ_eq_append_getElem h2, h]
  rw [List.getElem?_eq_getElem h1, List.getElem?_eq_getElem h2] at he
  simp only [Option.getD_some] at he
  rw [he]
theorem ne_of_at {xs ys : List Nat} {i : Nat} (he : xs[i]?.getD 0 ≠ ys[i]?.getD 0) : xs ≠ ys := fun e => he (by rw [e])

set_option maxHeartbeats 1000000 in
theorem equalN_any (a1 a2 : Option Addr) (n1 c1 n2 c2 : Nat) (xs ys : List Nat) (w : World) (h1 : Nums w a1 n1 c1 xs) (h2 : Nums w a2 n2 c2 ys) :
    Calls Tryz.prog 62 #[.slice a1 n1 c1, .slice a2 n2 c2] w (Post w fun v _ => v = .bool (sameL xs ys)) := by
  have f1 := h1.few
  have f2 := h2.few
  obtain rfl := h1.len
  obtain rfl := h2.len
  by_cases hl : xs.length = ys.length
  · have hl' : (((xs.length : Nat) : Int) != ((ys.length : Nat) : Int)) = false := by rw [hl]; simp
    have Hl := Lib.hid hl
    clear hl
    go_enter Tryz.func62, Tryz.ntmps62
    go_wp2
    go_loopw [13] (fun k wr => ∃ j : Nat, j ≤ xs.length ∧ k = .int .i64 j ∧ Hid (xs.take j = ys.take j) ∧ Ext w wr) (fun k _ => xs.length - (intOf k).toNat)
    case atStart => exact ⟨0, Nat.zero_le _, rfl, Lib.hid rfl, (by repeat (first | with_reducible exact Ext.refl _ | with_reducible assumption | (with_reducible refine Ext.alloc ?_ _) | (with_reducible refine Ext.drew ?_) | (with_reducible refine Ext.drewN ?_ _) | (with_reducible refine Ext.set ?_ (by first | (simp; done) | (simp; omega)) _) | (with_reducible refine Ext.trans ?_ (by with_reducible assumption))))⟩
    case round =>
      obtain ⟨j, hj, rfl, ht, hext⟩ := hrel
      by_cases hlt : j < xs.length
      · obtain ⟨b1, o1, rfl, k1⟩ := h1.at hlt
        obtain ⟨b2, o2, rfl, k2⟩ := h2.at (by rw [← Hl.out]; exact hlt)
        have e1 := hext.cell k1
        have e2 := hext.cell k2
        have hlt2 : j < ys.length := by rw [← Hl.out]; exact hlt
        obtain ⟨x, hx⟩ : ∃ x, x = xs[j]?.getD 0 := ⟨_, rfl⟩
        obtain ⟨y, hy⟩ : ∃ y, y = ys[j]?.getD 0 := ⟨_, rfl⟩
        rw [← hx] at e1
        rw [← hy] at e2
        clear k1 k2
        have Hx := Lib.hid hx
        have Hy := Lib.hid hy
        clear hx hy
        by_cases he : x = y
        · have hne : (((x : Nat) : Int) != ((y : Nat) : Int)) = false := by rw [he]; simp
          have He := Lib.hid he
          clear he
          go_wp2
          go_region
          go_wp2
          exact ⟨⟨j + 1, by omega, by go_num, Lib.hid (take_same hlt hlt2 ht.out (by rw [← Hx.out, ← Hy.out, He.out])), (by repeat (first | with_reducible exact Ext.refl _ | with_reducible assumption | (with_reducible refine Ext.alloc ?_ _) | (with_reducible refine Ext.drew ?_) | (with_reducible refine Ext.drewN ?_ _) | (with_reducible refine Ext.set ?_ (by first | (simp; done) | (simp; omega)) _) | (with_reducible refine Ext.trans ?_ (by with_reducible assumption))))⟩, by simp [intOf]; omega⟩
        · have hne : (((x : Nat) : Int) != ((y : Nat) : Int)) = true := by simp; omega
          have hf : sameL xs ys = false := by
            unfold sameL
            exact decide_eq_false (ne_of_at (i := j) (by rw [← Hx.out, ← Hy.out]; exact he))
          have Hf := Lib.hid hf
          clear he hf
          go_wp2
          go_region
          go_wp2
          go_ret
          exact Post.mk (by repeat (first | with_reducible exact Ext.refl _ | with_reducible assumption | (with_reducible refine Ext.alloc ?_ _) | (with_reducible refine Ext.drew ?_) | (with_reducible refine Ext.drewN ?_ _) | (with_reducible refine Ext.set ?_ (by first | (simp; done) | (simp; omega)) _) | (with_reducible refine Ext.trans ?_ (by with_reducible assumption)))) (by rw [Hf.out]; rfl)
      · obtain rfl : j = xs.length := by omega
        have hf : sameL xs ys = true := by
          unfold sameL
          have := ht.out
          rw [List.take_length, Hl.out, List.take_length] at this
          exact decide_eq_true this
        have Hf := Lib.hid hf
        clear hf
        go_wp2
        go_ret
        exact Post.mk (by repeat (first | with_reducible exact Ext.refl _ | with_reducible assumption | (with_reducible refine Ext.alloc ?_ _) | (with_reducible refine Ext.drew ?_) | (with_reducible refine Ext.drewN ?_ _) | (with_reducible refine Ext.set ?_ (by first | (simp; done) | (simp; omega)) _) | (with_reducible refine Ext.trans ?_ (by with_reducible assumption)))) (by rw [Hf.out]; rfl)
  · have hl' : (((xs.length : Nat) : Int) != ((ys.length : Nat) : Int)) = true := by simp; omega
    have hf : sameL xs ys = false := by
      unfold sameL
      exact decide_eq_false (fun e => hl (by rw [e]))
    have Hf := Lib.hid hf
    clear hl hf
    go_enter Tryz.func62, Tryz.ntmps62
    go_wp2
    go_ret
    exact Post.mk (by repeat (first | with_reducible exact Ext.refl _ | with_reducible assumption | (with_reducible refine Ext.alloc ?_ _) | (with_reducible refine Ext.drew ?_) | (with_reducible refine Ext.drewN ?_ _) | (with_reducible refine Ext.set ?_ (by first | (simp; done) | (simp; omega)) _) | (with_reducible refine Ext.trans ?_ (by with_reducible assumption)))) (by rw [Hf.out]; rfl)
end Go.Proofs.YtbncdghbnnefdaaGreat

namespace Go.Proofs.YtbncdghbnnefdaaGreat
open Go.RowKit

set_option maxHeartbeats 2000000 in
theorem sameNum_any (g1 g2 : Bool) (a1 a2 a3 a4 : Option Addr) (n1 c1 n2 c2 n3 c3 n4 c4 : Nat) (xs ys us vs : List Nat) (w : World)
    (h1 : Nums w a1 n1 c1 xs) (h2 : Nums w a2 n2 c2 ys) (h3 : Nums w a3 n3 c3 us) (h4 : Nums w a4 n4 c4 vs) :
    Calls Tryz.prog 45 #[.agg #[.bool g1, .slice a1 n1 c1, .slice a2 n2 c2], .agg #[.bool g2, .slice a3 n3 c3, .slice a4 n4 c4]] w
      (Post w fun v _ => v = .bool (decide (g1 = g2) && (sameL xs us && sameL ys vs))) := by
  obtain ⟨p, hp⟩ : ∃ p, p = sameL xs us := ⟨_, rfl⟩
  obtain ⟨q, hq⟩ : ∃ q, q = sameL ys vs := ⟨_, rfl⟩
  rw [← hp, ← hq]
  have Hp := Lib.hid hp
  have Hq := Lib.hid hq
  clear hp hq
  by_cases hg : g1 = g2
  · subst hg
    cases p
    · cases g1
      all_goals
        go_enter Tryz.func45, Tryz.ntmps45
        go_wp2_with fail
        refine (equalN_any a1 a3 n1 c1 n3 c3 xs us _ (h1.ext (by repeat (first | with_reducible exact Ext.refl _ | with_reducible assumption | (with_reducible refine Ext.alloc ?_ _) | (with_reducible refine Ext.drew ?_) | (with_reducible refine Ext.drewN ?_ _) | (with_reducible refine Ext.set ?_ (by first | (simp; done) | (simp; omega)) _) | (with_reducible refine Ext.trans ?_ (by with_reducible assumption))))) (h3.ext (by repeat (first | with_reducible exact Ext.refl _ | with_reducible assumption | (with_reducible refine Ext.alloc ?_ _) | (with_reducible refine Ext.drew ?_) | (with_reducible refine Ext.drewN ?_ _) | (with_reducible refine Ext.set ?_ (by first | (simp; done) | (simp; omega)) _) | (with_reducible refine Ext.trans ?_ (by with_reducible assumption)))))).mono ?_
        rintro e w1 ⟨_, rfl, E1, rfl⟩
        rw [← Hp.out]
        go_wp2
        go_ret
        exact Post.mk (by repeat (first | with_reducible exact Ext.refl _ | with_reducible assumption | (with_reducible refine Ext.alloc ?_ _) | (with_reducible refine Ext.drew ?_) | (with_reducible refine Ext.drewN ?_ _) | (with_reducible refine Ext.set ?_ (by first | (simp; done) | (simp; omega)) _) | (with_reducible refine Ext.trans ?_ (by with_reducible assumption)))) rfl
    · cases g1
      all_goals
        go_enter Tryz.func45, Tryz.ntmps45
        go_wp2_with fail
        refine (equalN_any a1 a3 n1 c1 n3 c3 xs us _ (h1.ext (by repeat (first | with_reducible exact Ext.refl _ | with_reducible assumption | (with_reducible refine Ext.alloc ?_ _) | (with_reducible refine Ext.drew ?_) | (with_reducible refine Ext.drewN ?_ _) | (with_reducible refine Ext.set ?_ (by first | (simp; done) | (simp; omega)) _) | (with_reducible refine Ext.trans ?_ (by with_reducible assumption))))) (h3.ext (by repeat (first | with_reducible exact Ext.refl _ | with_reducible assumption | (with_reducible refine Ext.alloc ?_ _) | (with_reducible refine Ext.drew ?_) | (with_reducible refine Ext.drewN ?_ _) | (with_reducible refine Ext.set ?_ (by first | (simp; done) | (simp; omega)) _) | (with_reducible refine Ext.trans ?_ (by with_reducible assumption)))))).mono ?_
        rintro e w1 ⟨_, rfl, E1, rfl⟩
        rw [← Hp.out]
        obtain ⟨hc, hf⟩ := E1.look
        go_wp2_with fail
        refine (equalN_any a2 a4 n2 c2 n4 c4 ys vs _ (h2.ext (by repeat (first | with_reducible exact Ext.refl _ | with_reducible assumption | (with_reducible refine Ext.alloc ?_ _) | (with_reducible refine Ext.drew ?_) | (with_reducible refine Ext.drewN ?_ _) | (with_reducible refine Ext.set ?_ (by first | (simp; done) | (simp; omega)) _) | (with_reducible refine Ext.trans ?_ (by with_reducible assumption))))) (h4.ext (by repeat (first | with_reducible exact Ext.refl _ | with_reducible assumption | (with_reducible refine Ext.alloc ?_ _) | (with_reducible refine Ext.drew ?_) | (with_reducible refine Ext.drewN ?_ _) | (with_reducible refine Ext.set ?_ (by first | (simp; done) | (simp; omega)) _) | (with_reducible refine Ext.trans ?_ (by with_reducible assumption)))))).mono ?_
        rintro e w2 ⟨_, rfl, E2, rfl⟩
        rw [← Hq.out]
        go_wp2
        go_ret
        exact Post.mk (by repeat (first | with_reducible exact Ext.refl _ | with_reducible assumption | (with_reducible refine Ext.alloc ?_ _) | (with_reducible refine Ext.drew ?_) | (with_reducible refine Ext.drewN ?_ _) | (with_reducible refine Ext.set ?_ (by first | (simp; done) | (simp; omega)) _) | (with_reducible refine Ext.trans ?_ (by with_reducible assumption)))) rfl
  · have hd : decide (g1 = g2) = false := decide_eq_false hg
    rw [hd]
    cases g1 <;> cases g2
    · exact absurd rfl hg
    · go_enter Tryz.func45, Tryz.ntmps45
      go_wp2
      go_ret
      exact Post.mk (by repeat (first | with_reducible exact Ext.refl _ | with_reducible assumption | (with_reducible refine Ext.alloc ?_ _) | (with_reducible refine Ext.drew ?_) | (with_reducible refine Ext.drewN ?_ _) | (with_reducible refine Ext.set ?_ (by first | (simp; done) | (simp; omega)) _) | (with_reducible refine Ext.trans ?_ (by with_reducible assumption)))) rfl
    · go_enter Tryz.func45, Tryz.ntmps45
      go_wp2
      go_ret
      exact Post.mk (by repeat (first | with_reducible exact Ext.refl _ | with_reducible assumption | (with_reducible refine Ext.alloc ?_ _) | (with_reducible refine Ext.drew ?_) | (with_reducible refine Ext.drewN ?_ _) | (with_reducible refine Ext.set ?_ (by first | (simp; done) | (simp; omega)) _) | (with_reducible refine Ext.trans ?_ (by with_reducible assumption)))) rfl
    · exact absurd rfl hg

/-- The value is a step. -/
def IsStep (w : World) (v : Value) (s : Step) : Prop := ∃ a1 n1 c1 a2 n2 c2, v = .agg #[.int .u8 s.op, .int .i64 s.a, .int .i64 s.b, .bool s.neg, .slice a1 n1 c1, .slice a2 n2 c2] ∧ Nums w a1 n1 c1 s.xs ∧ Nums w a2 n2 c2 s.ys ∧ s.op < 256 ∧ n1 ≤ 2048 ∧ n2 ≤ 2048
theorem IsStep.keep {w w' : World} {v : Value} {s : Step} (h : IsStep w v s) (e : Keeps w w') : IsStep w' v s := by
  obtain ⟨a1, n1, c1, a2, n2, c2, rfl, h1, h2, h3⟩ := h
  exact ⟨a1, n1, c1, a2, n2, c2, rfl, h1.keep e, h2.keep e, h3⟩

theorem ahead_any (i lim : Int) (b : Nat) (w : World) (k : w.cell? ⟨b, 0, none⟩ = some (.int .i64 lim)) :
    Calls Tryz.prog 59 #[.int .i64 i, .pointer (some ⟨b, 0, none⟩)] w fun e w' => e = .returned (.bool (ahead i lim)) ∧ w = w' := by
  by_cases h : 0 ≤ i
  · go_enter Tryz.func59, Tryz.ntmps59
    go_wp2
    go_ret
    exact ⟨by simp [ahead, h], rfl⟩
  · go_enter Tryz.func59, Tryz.ntmps59
    go_wp2
    go_ret
    exact ⟨by simp [ahead]; omega, rfl⟩
end Go.Proofs.YtbncdghbnnefdaaGreat

namespace Go.Proofs.YtbncdghbnnefdaaGreat
open Go.RowKit

theorem beq_dec (b : Int) : (b == 0) = decide (b = 0) := by rw [Bool.eq_iff_iff]; simp
theorem Num.nums {w : World} {a : Option Addr} {n c m : Nat} (h : Num w (.slice a n c) m) : Nums w a n c (limbs m) := by
  obtain ⟨_, a', n', c', he, h⟩ := h
  cases he
  exact h
theorem pow_le_topOf (n k : Nat) (h : n ≤ k) : B64 ^ n ≤ topOf k := by
  unfold topOf
  exact Nat.pow_le_pow_right B64_pos h
theorem Nums.top {w : World} {a : Option Addr} {n c : Nat} {xs : List Nat} (h : Nums w a n c xs) (hn : n ≤ 2048) : val xs < Top := by
  have h1 := val_lt h.lt
  rw [h.len] at h1
  rw [Top_topOf]
  exact Nat.lt_of_lt_of_le h1 (pow_le_topOf n 2048 (by omega))

set_option maxRecDepth 100000 in
set_option maxHeartbeats 4000000 in
theorem right_one (op : Nat) (a b : Int) (neg : Bool) (xs ys : List Nat) (a1 a2 : Option Addr) (n1 c1 n2 c2 : Nat) (lim pars : Int) (w : World) (hop : op < 256) (hk : fieldsN op = 4)
    (h1 : Nums w a1 n1 c1 xs) (h2 : Nums w a2 n2 c2 ys) :
    Calls Tryz.prog 42 #[.agg #[.int .u8 op, .int .i64 a, .int .i64 b, .bool neg, .slice a1 n1 c1, .slice a2 n2 c2], .int .i64 lim, .int .i64 pars] w
      (Post w fun v _ => v = .bool (noneC ⟨op, a, b, neg, xs, ys⟩ && (ahead a lim && decide (b = 0)))) := by
  have hmf : ∀ (fn : Fn) (first cap : Array Value) (w : World), (Instr.makeFunc fn first cap).run Tryz.prog w = .ok (.func fn first cap) w := fun _ _ _ _ => rfl
  obtain ⟨r, hr⟩ : ∃ r, r = (noneC ⟨op, a, b, neg, xs, ys⟩ && (ahead a lim && decide (b = 0))) := ⟨_, rfl⟩
  rw [← hr]
  unfold noneC at hr
  simp only at hr
  rw [h1.len, h2.len] at hr
  have f1 := h1.few
  have f2 := h2.few
  have Hk := Lib.hid hk
  have Hr := Lib.hid hr
  clear hk hr h1 h2
  by_cases e1 : n1 = 0
  · subst e1
    by_cases e2 : n2 = 0
    · subst e2
      cases neg
      · go_enter Tryz.func42, Tryz.ntmps42
        go_wp2_with fail
        refine (fields_any op hop _).mono ?_
        rintro e w1 ⟨_, rfl, E1, rfl⟩
        rw [Hk.out]
        obtain ⟨hc, hf⟩ := E1.look
        have hz := E1.size
        simp at hz
        obtain ⟨p, hp⟩ : ∃ p, p = ahead a lim := ⟨_, rfl⟩
        rw [← hp] at Hr
        have hA := fun w' k' => ahead_any a lim (w.heap.size + 1) w' k'
        rw [← hp] at hA
        clear hp
        have HA := Lib.hid hA
        clear hA
        go_wp2_with fail
        refine (HA.out _ (by simp [go_sem, hc])).mono ?_
        rintro e w2 ⟨rfl, rfl⟩
        cases p
        · go_wp2
          go_ret
          exact Post.mk (by repeat (first | with_reducible exact Ext.refl _ | with_reducible assumption | (with_reducible refine Ext.alloc ?_ _) | (with_reducible refine Ext.drew ?_) | (with_reducible refine Ext.drewN ?_ _) | (with_reducible refine Ext.set ?_ (by first | (simp; done) | (simp; omega)) _) | (with_reducible refine Ext.trans ?_ (by with_reducible assumption)))) (by rw [Hr.out]; simp)
        · go_wp2
          go_ret
          exact Post.mk (by repeat (first | with_reducible exact Ext.refl _ | with_reducible assumption | (with_reducible refine Ext.alloc ?_ _) | (with_reducible refine Ext.drew ?_) | (with_reducible refine Ext.drewN ?_ _) | (with_reducible refine Ext.set ?_ (by first | (simp; done) | (simp; omega)) _) | (with_reducible refine Ext.trans ?_ (by with_reducible assumption)))) (by rw [Hr.out]; simp; exact beq_dec _)
      · go_enter Tryz.func42, Tryz.ntmps42
        go_wp2_with fail
        refine (fields_any op hop _).mono ?_
        rintro e w1 ⟨_, rfl, E1, rfl⟩
        rw [Hk.out]
        go_wp2
        go_ret
        exact Post.mk (by repeat (first | with_reducible exact Ext.refl _ | with_reducible assumption | (with_reducible refine Ext.alloc ?_ _) | (with_reducible refine Ext.drew ?_) | (with_reducible refine Ext.drewN ?_ _) | (with_reducible refine Ext.set ?_ (by first | (simp; done) | (simp; omega)) _) | (with_reducible refine Ext.trans ?_ (by with_reducible assumption)))) (by rw [Hr.out]; simp)
    · have e2' : (((n2 : Nat) : Int) == 0) = false := by simp; omega
      have E2' := Lib.hid e2
      clear e2
      go_enter Tryz.func42, Tryz.ntmps42
      go_wp2_with fail
      refine (fields_any op hop _).mono ?_
      rintro e w1 ⟨_, rfl, E1, rfl⟩
      rw [Hk.out]
      go_wp2
      go_ret
      exact Post.mk (by repeat (first | with_reducible exact Ext.refl _ | with_reducible assumption | (with_reducible refine Ext.alloc ?_ _) | (with_reducible refine Ext.drew ?_) | (with_reducible refine Ext.drewN ?_ _) | (with_reducible refine Ext.set ?_ (by first | (simp; done) | (simp; omega)) _) | (with_reducible refine Ext.trans ?_ (by with_reducible assumption)))) (by rw [Hr.out]; simp [E2'.out])
  · have e1' : (((n1 : Nat) : Int) == 0) = false := by simp; omega
    have E1' := Lib.hid e1
    clear e1
    go_enter Tryz.func42, Tryz.ntmps42
    go_wp2_with fail
    refine (fields_any op hop _).mono ?_
    rintro e w1 ⟨_, rfl, E1, rfl⟩
    rw [Hk.out]
    go_wp2
    go_ret
    exact Post.mk (by repeat (first | with_reducible exact Ext.refl _ | with_reducible assumption | (with_reducible refine Ext.alloc ?_ _) | (with_reducible refine Ext.drew ?_) | (with_reducible refine Ext.drewN ?_ _) | (with_reducible refine Ext.set ?_ (by first | (simp; done) | (simp; omega)) _) | (with_reducible refine Ext.trans ?_ (by with_reducible assumption)))) (by rw [Hr.out]; simp [E1'.out])

set_option maxRecDepth 100000 in
set_option maxHeartbeats 4000000 in
theorem right_two (op : Nat) (a b : Int) (neg : Bool) (xs ys : List Nat) (a1 a2 : Option Addr) (n1 c1 n2 c2 : Nat) (lim pars : Int) (w : World) (hop : op < 256) (hk : fieldsN op = 3)
    (h1 : Nums w a1 n1 c1 xs) (h2 : Nums w a2 n2 c2 ys) :
    Calls Tryz.prog 42 #[.agg #[.int .u8 op, .int .i64 a, .int .i64 b, .bool neg, .slice a1 n1 c1, .slice a2 n2 c2], .int .i64 lim, .int .i64 pars] w
      (Post w fun v _ => v = .bool (noneC ⟨op, a, b, neg, xs, ys⟩ && (ahead a lim && ahead b lim))) := by
  have hmf : ∀ (fn : Fn) (first cap : Array Value) (w : World), (Instr.makeFunc fn first cap).run Tryz.prog w = .ok (.func fn first cap) w := fun _ _ _ _ => rfl
  obtain ⟨r, hr⟩ : ∃ r, r = (noneC ⟨op, a, b, neg, xs, ys⟩ && (ahead a lim && ahead b lim)) := ⟨_, rfl⟩
  rw [← hr]
  unfold noneC at hr
  simp only at hr
  rw [h1.len, h2.len] at hr
  have f1 := h1.few
  have f2 := h2.few
  have Hk := Lib.hid hk
  have Hr := Lib.hid hr
  clear hk hr h1 h2
  by_cases e1 : n1 = 0
  · subst e1
    by_cases e2 : n2 = 0
    · subst e2
      cases neg
      · go_enter Tryz.func42, Tryz.ntmps42
        go_wp2_with fail
        refine (fields_any op hop _).mono ?_
        rintro e w1 ⟨_, rfl, E1, rfl⟩
        rw [Hk.out]
        obtain ⟨hc, hf⟩ := E1.look
        have hz := E1.size
        simp at hz
        obtain ⟨p, hp⟩ : ∃ p, p = ahead a lim := ⟨_, rfl⟩
        obtain ⟨q, hq⟩ : ∃ q, q = ahead b lim := ⟨_, rfl⟩
        rw [← hp, ← hq] at Hr
        have hA := fun w' k' => ahead_any a lim (w.heap.size + 1) w' k'
        have hB := fun w' k' => ahead_any b lim (w.heap.size + 1) w' k'
        rw [← hp] at hA
        rw [← hq] at hB
        clear hp hq
        have HA := Lib.hid hA
        have HB := Lib.hid hB
        clear hA hB
        go_wp2_with fail
        refine (HA.out _ (by simp [go_sem, hc])).mono ?_
        rintro e w2 ⟨rfl, rfl⟩
        cases p
        · go_wp2
          go_ret
          exact Post.mk (by repeat (first | with_reducible exact Ext.refl _ | with_reducible assumption | (with_reducible refine Ext.alloc ?_ _) | (with_reducible refine Ext.drew ?_) | (with_reducible refine Ext.drewN ?_ _) | (with_reducible refine Ext.set ?_ (by first | (simp; done) | (simp; omega)) _) | (with_reducible refine Ext.trans ?_ (by with_reducible assumption)))) (by rw [Hr.out]; simp)
        · go_wp2_with fail
          refine (HB.out _ (by simp [go_sem, hc])).mono ?_
          rintro e w2 ⟨rfl, rfl⟩
          go_wp2
          go_ret
          exact Post.mk (by repeat (first | with_reducible exact Ext.refl _ | with_reducible assumption | (with_reducible refine Ext.alloc ?_ _) | (with_reducible refine Ext.drew ?_) | (with_reducible refine Ext.drewN ?_ _) | (with_reducible refine Ext.set ?_ (by first | (simp; done) | (simp; omega)) _) | (with_reducible refine Ext.trans ?_ (by with_reducible assumption)))) (by rw [Hr.out]; simp)
      · go_enter Tryz.func42, Tryz.ntmps42
        go_wp2_with fail
        refine (fields_any op hop _).mono ?_
        rintro e w1 ⟨_, rfl, E1, rfl⟩
        rw [Hk.out]
        go_wp2
        go_ret
        exact Post.mk (by repeat (first | with_reducible exact Ext.refl _ | with_reducible assumption | (with_reducible refine Ext.alloc ?_ _) | (with_reducible refine Ext.drew ?_) | (with_reducible refine Ext.drewN ?_ _) | (with_reducible refine Ext.set ?_ (by first | (simp; done) | (simp; omega)) _) | (with_reducible refine Ext.trans ?_ (by with_reducible assumption)))) (by rw [Hr.out]; simp)
    · have e2' : (((n2 : Nat) : Int) == 0) = false := by simp; omega
      have E2' := Lib.hid e2
      clear e2
      go_enter Tryz.func42, Tryz.ntmps42
      go_wp2_with fail
      refine (fields_any op hop _).mono ?_
      rintro e w1 ⟨_, rfl, E1, rfl⟩
      rw [Hk.out]
      go_wp2
      go_ret
      exact Post.mk (by repeat (first | with_reducible exact Ext.refl _ | with_reducible assumption | (with_reducible refine Ext.alloc ?_ _) | (with_reducible refine Ext.drew ?_) | (with_reducible refine Ext.drewN ?_ _) | (with_reducible refine Ext.set ?_ (by first | (simp; done) | (simp; omega)) _) | (with_reducible refine Ext.trans ?_ (by with_reducible assumption)))) (by rw [Hr.out]; simp [E2'.out])
  · have e1' : (((n1 : Nat) : Int) == 0) = false := by simp; omega
    have E1' := Lib.hid e1
    clear e1
    go_enter Tryz.func42, Tryz.ntmps42
    go_wp2_with fail
    refine (fields_any op hop _).mono ?_
    rintro e w1 ⟨_, rfl, E1, rfl⟩
    rw [Hk.out]
    go_wp2
    go_ret
    exact Post.mk (by repeat (first | with_reducible exact Ext.refl _ | with_reducible assumption | (with_reducible refine Ext.alloc ?_ _) | (with_reducible refine Ext.drew ?_) | (with_reducible refine Ext.drewN ?_ _) | (with_reducible refine Ext.set ?_ (by first | (simp; done) | (simp; omega)) _) | (with_reducible refine Ext.trans ?_ (by with_reducible assumption)))) (by rw [Hr.out]; simp [E1'.out])

set_option maxRecDepth 100000 in
set_option maxHeartbeats 4000000 in
theorem right_par (op : Nat) (a b : Int) (neg : Bool) (xs ys : List Nat) (a1 a2 : Option Addr) (n1 c1 n2 c2 : Nat) (lim pars : Int) (w : World) (hop : op < 256) (hk : fieldsN op = 2)
    (h1 : Nums w a1 n1 c1 xs) (h2 : Nums w a2 n2 c2 ys) :
    Calls Tryz.prog 42 #[.agg #[.int .u8 op, .int .i64 a, .int .i64 b, .bool neg, .slice a1 n1 c1, .slice a2 n2 c2], .int .i64 lim, .int .i64 pars] w
      (Post w fun v _ => v = .bool (noneC ⟨op, a, b, neg, xs, ys⟩ && (ahead a pars && decide (b = 0)))) := by
  have hmf : ∀ (fn : Fn) (first cap : Array Value) (w : World), (Instr.makeFunc fn first cap).run Tryz.prog w = .ok (.func fn first cap) w := fun _ _ _ _ => rfl
  obtain ⟨r, hr⟩ : ∃ r, r = (noneC ⟨op, a, b, neg, xs, ys⟩ && (ahead a pars && decide (b = 0))) := ⟨_, rfl⟩
  rw [← hr]
  unfold noneC at hr
  simp only at hr
  rw [h1.len, h2.len] at hr
  have f1 := h1.few
  have f2 := h2.few
  have Hk := Lib.hid hk
  have Hr := Lib.hid hr
  clear hk hr h1 h2
  by_cases e1 : n1 = 0
  · subst e1
    by_cases e2 : n2 = 0
    · subst e2
      cases neg
      · go_enter Tryz.func42, Tryz.ntmps42
        go_wp2_with fail
        refine (fields_any op hop _).mono ?_
        rintro e w1 ⟨_, rfl, E1, rfl⟩
        rw [Hk.out]
        obtain ⟨hc, hf⟩ := E1.look
        have hz := E1.size
        simp at hz
        by_cases ha : 0 ≤ a
        · by_cases hl : a < pars
          · go_wp2
            go_ret
            exact Post.mk (by repeat (first | with_reducible exact Ext.refl _ | with_reducible assumption | (with_reducible refine Ext.alloc ?_ _) | (with_reducible refine Ext.drew ?_) | (with_reducible refine Ext.drewN ?_ _) | (with_reducible refine Ext.set ?_ (by first | (simp; done) | (simp; omega)) _) | (with_reducible refine Ext.trans ?_ (by with_reducible assumption)))) (by rw [Hr.out]; simp [ahead, ha, hl]; exact beq_dec _)
          · go_wp2
            go_ret
            exact Post.mk (by repeat (first | with_reducible exact Ext.refl _ | with_reducible assumption | (with_reducible refine Ext.alloc ?_ _) | (with_reducible refine Ext.drew ?_) | (with_reducible refine Ext.drewN ?_ _) | (with_reducible refine Ext.set ?_ (by first | (simp; done) | (simp; omega)) _) | (with_reducible refine Ext.trans ?_ (by with_reducible assumption)))) (by rw [Hr.out]; simp [ahead]; omega)
        · go_wp2
          go_ret
          exact Post.mk (by repeat (first | with_reducible exact Ext.refl _ | with_reducible assumption | (with_reducible refine Ext.alloc ?_ _) | (with_reducible refine Ext.drew ?_) | (with_reducible refine Ext.drewN ?_ _) | (with_reducible refine Ext.set ?_ (by first | (simp; done) | (simp; omega)) _) | (with_reducible refine Ext.trans ?_ (by with_reducible assumption)))) (by rw [Hr.out]; simp [ahead]; omega)
      · go_enter Tryz.func42, Tryz.ntmps42
        go_wp2_with fail
        refine (fields_any op hop _).mono ?_
        rintro e w1 ⟨_, rfl, E1, rfl⟩
        rw [Hk.out]
        go_wp2
        go_ret
        exact Post.mk (by repeat (first | with_reducible exact Ext.refl _ | with_reducible assumption | (with_reducible refine Ext.alloc ?_ _) | (with_reducible refine Ext.drew ?_) | (with_reducible refine Ext.drewN ?_ _) | (with_reducible refine Ext.set ?_ (by first | (simp; done) | (simp; omega)) _) | (with_reducible refine Ext.trans ?_ (by with_reducible assumption)))) (by rw [Hr.out]; simp)
    · have e2' : (((n2 : Nat) : Int) == 0) = false := by simp; omega
      have E2' := Lib.hid e2
      clear e2
      go_enter Tryz.func42, Tryz.ntmps42
      go_wp2_with fail
      refine (fields_any op hop _).mono ?_
      rintro e w1 ⟨_, rfl, E1, rfl⟩
      rw [Hk.out]
      go_wp2
      go_ret
      exact Post.mk (by repeat (first | with_reducible exact Ext.refl _ | with_reducible assumption | (with_reducible refine Ext.alloc ?_ _) | (with_reducible refine Ext.drew ?_) | (with_reducible refine Ext.drewN ?_ _) | (with_reducible refine Ext.set ?_ (by first | (simp; done) | (simp; omega)) _) | (with_reducible refine Ext.trans ?_ (by with_reducible assumption)))) (by rw [Hr.out]; simp [E2'.out])
  · have e1' : (((n1 : Nat) : Int) == 0) = false := by simp; omega
    have E1' := Lib.hid e1
    clear e1
    go_enter Tryz.func42, Tryz.ntmps42
    go_wp2_with fail
    refine (fields_any op hop _).mono ?_
    rintro e w1 ⟨_, rfl, E1, rfl⟩
    rw [Hk.out]
    go_wp2
    go_ret
    exact Post.mk (by repeat (first | with_reducible exact Ext.refl _ | with_reducible assumption | (with_reducible refine Ext.alloc ?_ _) | (with_reducible refine Ext.drew ?_) | (with_reducible refine Ext.drewN ?_ _) | (with_reducible refine Ext.set ?_ (by first | (simp; done) | (simp; omega)) _) | (with_reducible refine Ext.trans ?_ (by with_reducible assumption)))) (by rw [Hr.out]; simp [E1'.out])
end Go.Proofs.YtbncdghbnnefdaaGreat

namespace Go.Proofs.YtbncdghbnnefdaaGreat
open Go.RowKit

set_option maxRecDepth 100000 in
set_option maxHeartbeats 4000000 in
theorem right_num (op : Nat) (a b : Int) (neg : Bool) (xs ys : List Nat) (a1 a2 : Option Addr) (n1 c1 n2 c2 : Nat) (lim pars : Int) (w : World) (hop : op < 256) (hk : fieldsN op = 1)
    (h1 : Nums w a1 n1 c1 xs) (h2 : Nums w a2 n2 c2 ys) (hn1 : n1 ≤ 2048) (hn2 : n2 ≤ 2048) :
    Calls Tryz.prog 42 #[.agg #[.int .u8 op, .int .i64 a, .int .i64 b, .bool neg, .slice a1 n1 c1, .slice a2 n2 c2], .int .i64 lim, .int .i64 pars] w
      (Post w fun v _ => v = .bool (normC ⟨op, a, b, neg, xs, ys⟩ && (decide (a = 0) && decide (b = 0)))) := by
  have hmf : ∀ (fn : Fn) (first cap : Array Value) (w : World), (Instr.makeFunc fn first cap).run Tryz.prog w = .ok (.func fn first cap) w := fun _ _ _ _ => rfl
  obtain ⟨r, hr⟩ : ∃ r, r = (normC ⟨op, a, b, neg, xs, ys⟩ && (decide (a = 0) && decide (b = 0))) := ⟨_, rfl⟩
  rw [← hr]
  have k1 : IsN w (.slice a1 n1 c1) (val xs) := IsN.of h1 (by omega)
  have k2 : IsN w (.slice a2 n2 c2) (val ys) := IsN.of h2 (by omega)
  have t1 := h1.top hn1
  have t2 := h2.top hn2
  have f1 := h1.few
  have f2 := h2.few
  have Hk := Lib.hid hk
  clear hk
  have hway : (n1 = 0 ∧ n2 = 0 ∧ neg = true) ∨ (n1 = 0 ∧ n2 = 0 ∧ neg = false) ∨ (n1 = 0 ∧ (((n2 : Nat) : Int) == 0) = false) ∨ (((n1 : Nat) : Int) == 0) = false := by
    by_cases e1 : n1 = 0
    · by_cases e2 : n2 = 0
      · cases neg
        · exact .inr (.inl ⟨e1, e2, rfl⟩)
        · exact .inl ⟨e1, e2, rfl⟩
      · exact .inr (.inr (.inl ⟨e1, by simp; omega⟩))
    · exact .inr (.inr (.inr (by simp; omega)))
  by_cases hd : val ys = 0
  · have hr0 : r = false := by rw [hr]; unfold normC; simp [hd]
    have Hr := Lib.hid hr0
    have Hd := Lib.hid hd
    rw [hd] at k2
    clear hr hr0 hd h1 h2 t2
    rcases hway with ⟨rfl, rfl, rfl⟩ | ⟨rfl, rfl, rfl⟩ | ⟨rfl, e2⟩ | e1
    all_goals
      go_enter Tryz.func42, Tryz.ntmps42
      go_wp2_with fail
      refine (fields_any op hop _).mono ?_
      rintro e w1 ⟨_, rfl, E1, rfl⟩
      rw [Hk.out]
      obtain ⟨hc, hf⟩ := E1.look
      have hz := E1.size
      simp at hz
      go_wp2_with fail
      refine (fnorm_zero _ a1 a2 _ c1 _ c2 (val xs) _ (k1.ext (by repeat (first | with_reducible exact Ext.refl _ | with_reducible assumption | (with_reducible refine Ext.alloc ?_ _) | (with_reducible refine Ext.drew ?_) | (with_reducible refine Ext.drewN ?_ _) | (with_reducible refine Ext.set ?_ (by first | (simp; done) | (simp; omega)) _) | (with_reducible refine Ext.trans ?_ (by with_reducible assumption))))) (k2.ext (by repeat (first | with_reducible exact Ext.refl _ | with_reducible assumption | (with_reducible refine Ext.alloc ?_ _) | (with_reducible refine Ext.drew ?_) | (with_reducible refine Ext.drewN ?_ _) | (with_reducible refine Ext.set ?_ (by first | (simp; done) | (simp; omega)) _) | (with_reducible refine Ext.trans ?_ (by with_reducible assumption))))) t1).mono ?_
      rintro e w2 ⟨_, rfl, E2, rfl⟩
      go_wp2
      go_ret
      exact Post.mk (by repeat (first | with_reducible exact Ext.refl _ | with_reducible assumption | (with_reducible refine Ext.alloc ?_ _) | (with_reducible refine Ext.drew ?_) | (with_reducible refine Ext.drewN ?_ _) | (with_reducible refine Ext.set ?_ (by first | (simp; done) | (simp; omega)) _) | (with_reducible refine Ext.trans ?_ (by with_reducible assumption)))) (congrArg Value.bool Hr.out.symm)
  · obtain ⟨N, hN⟩ : ∃ N, N = val xs / Nat.gcd (val xs) (val ys) := ⟨_, rfl⟩
    obtain ⟨D, hD⟩ : ∃ D, D = val ys / Nat.gcd (val xs) (val ys) := ⟨_, rfl⟩
    have hF := fun w' u1 u2 => fnorm_ok neg a1 a2 n1 c1 n2 c2 (val xs) (val ys) w' u1 u2 t1 t2 hd
    rw [← hN, ← hD] at hF
    obtain ⟨p, hp⟩ : ∃ p, p = (decide (sg neg N = neg) && (sameL (limbs N) xs && sameL (limbs D) ys)) := ⟨_, rfl⟩
    have hr0 : r = (p && (decide (a = 0) && decide (b = 0))) := by
      rw [hr, hp]
      unfold normC
      simp only [← hN, ← hD]
      rw [decide_eq_true hd, Bool.true_and]
    have HF := Lib.hid hF
    have Hp := Lib.hid hp
    have Hr := Lib.hid hr0
    clear hr hr0 hd hF hp hN hD t1 t2
    have hq : p = false ∨ (p = true ∧ (a == 0) = false) ∨ (p = true ∧ a = 0) := by
      cases p
      · exact .inl rfl
      · by_cases ha : a = 0
        · exact .inr (.inr ⟨rfl, ha⟩)
        · exact .inr (.inl ⟨rfl, by simpa using ha⟩)
    rcases hq with rfl | ⟨rfl, ha⟩ | ⟨rfl, rfl⟩
    all_goals
      rcases hway with ⟨rfl, rfl, rfl⟩ | ⟨rfl, rfl, rfl⟩ | ⟨rfl, e2⟩ | e1
    all_goals
      go_enter Tryz.func42, Tryz.ntmps42
      go_wp2_with fail
      refine (fields_any op hop _).mono ?_
      rintro e w1 ⟨_, rfl, E1, rfl⟩
      rw [Hk.out]
      obtain ⟨hc, hf⟩ := E1.look
      have hz := E1.size
      simp at hz
      go_wp2_with fail
      refine (HF.out _ (k1.ext (by repeat (first | with_reducible exact Ext.refl _ | with_reducible assumption | (with_reducible refine Ext.alloc ?_ _) | (with_reducible refine Ext.drew ?_) | (with_reducible refine Ext.drewN ?_ _) | (with_reducible refine Ext.set ?_ (by first | (simp; done) | (simp; omega)) _) | (with_reducible refine Ext.trans ?_ (by with_reducible assumption))))) (k2.ext (by repeat (first | with_reducible exact Ext.refl _ | with_reducible assumption | (with_reducible refine Ext.alloc ?_ _) | (with_reducible refine Ext.drew ?_) | (with_reducible refine Ext.drewN ?_ _) | (with_reducible refine Ext.set ?_ (by first | (simp; done) | (simp; omega)) _) | (with_reducible refine Ext.trans ?_ (by with_reducible assumption)))))).mono ?_
      rintro e w2 ⟨_, rfl, E2, _, rfl, a5, n5, c5, a6, n6, c6, rfl, hu, hv⟩
      clear hc hf hz
      obtain ⟨hc, hf⟩ := (E1.trans E2).looka
      go_wp2_with fail
      refine (sameNum_any _ _ a5 a6 a1 a2 n5 c5 n6 c6 _ c1 _ c2 (limbs N) (limbs D) xs ys _ (hu.nums.keep (by repeat (first | with_reducible exact Keeps.refl _ | with_reducible assumption | (with_reducible refine Keeps.alloc ?_ _) | (with_reducible refine Keeps.drew ?_) | (with_reducible refine Keeps.drewN ?_ _) | (with_reducible refine Keeps.set ?_ (by simp [go_sem, isU, *]) _) | (with_reducible refine Keeps.trans ?_ (Ext.keeps (by with_reducible assumption))) | (with_reducible refine Keeps.trans ?_ (by with_reducible assumption))))) (hv.nums.keep (by repeat (first | with_reducible exact Keeps.refl _ | with_reducible assumption | (with_reducible refine Keeps.alloc ?_ _) | (with_reducible refine Keeps.drew ?_) | (with_reducible refine Keeps.drewN ?_ _) | (with_reducible refine Keeps.set ?_ (by simp [go_sem, isU, *]) _) | (with_reducible refine Keeps.trans ?_ (Ext.keeps (by with_reducible assumption))) | (with_reducible refine Keeps.trans ?_ (by with_reducible assumption))))) (h1.ext (by repeat (first | with_reducible exact Ext.refl _ | with_reducible assumption | (with_reducible refine Ext.alloc ?_ _) | (with_reducible refine Ext.drew ?_) | (with_reducible refine Ext.drewN ?_ _) | (with_reducible refine Ext.set ?_ (by first | (simp; done) | (simp; omega)) _) | (with_reducible refine Ext.trans ?_ (by with_reducible assumption))))) (h2.ext (by repeat (first | with_reducible exact Ext.refl _ | with_reducible assumption | (with_reducible refine Ext.alloc ?_ _) | (with_reducible refine Ext.drew ?_) | (with_reducible refine Ext.drewN ?_ _) | (with_reducible refine Ext.set ?_ (by first | (simp; done) | (simp; omega)) _) | (with_reducible refine Ext.trans ?_ (by with_reducible assumption)))))).mono ?_
      rintro e w3 ⟨_, rfl, E3, rfl⟩
      rw [← Hp.out]
      clear hc hf
      obtain ⟨hc, hf⟩ := ((E1.trans E2).trans ((Ext.of_alloc _ _).trans E3)).look
      go_wp2
      go_ret
      exact Post.mk (by repeat (first | with_reducible exact Ext.refl _ | with_reducible assumption | (with_reducible refine Ext.alloc ?_ _) | (with_reducible refine Ext.drew ?_) | (with_reducible refine Ext.drewN ?_ _) | (with_reducible refine Ext.set ?_ (by first | (simp; done) | (simp; omega)) _) | (with_reducible refine Ext.trans ?_ (by with_reducible assumption)))) (by rw [Hr.out]; first | rfl | (simp; exact beq_dec _) | (simp [show ¬ a = 0 from by simpa using ha]))

set_option maxRecDepth 100000 in
set_option maxHeartbeats 4000000 in
theorem right_no (op : Nat) (a b : Int) (neg : Bool) (xs ys : List Nat) (a1 a2 : Option Addr) (n1 c1 n2 c2 : Nat) (lim pars : Int) (w : World) (hop : op < 256) (hk : fieldsN op = 0)
    (h1 : Nums w a1 n1 c1 xs) (h2 : Nums w a2 n2 c2 ys) :
    Calls Tryz.prog 42 #[.agg #[.int .u8 op, .int .i64 a, .int .i64 b, .bool neg, .slice a1 n1 c1, .slice a2 n2 c2], .int .i64 lim, .int .i64 pars] w
      (Post w fun v _ => v = .bool false) := by
  have hmf : ∀ (fn : Fn) (first cap : Array Value) (w : World), (Instr.makeFunc fn first cap).run Tryz.prog w = .ok (.func fn first cap) w := fun _ _ _ _ => rfl
  have f1 := h1.few
  have f2 := h2.few
  have Hk := Lib.hid hk
  clear hk h1 h2
  have hway : (n1 = 0 ∧ n2 = 0 ∧ neg = true) ∨ (n1 = 0 ∧ n2 = 0 ∧ neg = false) ∨ (n1 = 0 ∧ (((n2 : Nat) : Int) == 0) = false) ∨ (((n1 : Nat) : Int) == 0) = false := by
    by_cases e1 : n1 = 0
    · by_cases e2 : n2 = 0
      · cases neg
        · exact .inr (.inl ⟨e1, e2, rfl⟩)
        · exact .inl ⟨e1, e2, rfl⟩
      · exact .inr (.inr (.inl ⟨e1, by simp; omega⟩))
    · exact .inr (.inr (.inr (by simp; omega)))
  rcases hway with ⟨rfl, rfl, rfl⟩ | ⟨rfl, rfl, rfl⟩ | ⟨rfl, e2⟩ | e1
  all_goals
    go_enter Tryz.func42, Tryz.ntmps42
    go_wp2_with fail
    refine (fields_any op hop _).mono ?_
    rintro e w1 ⟨_, rfl, E1, rfl⟩
    rw [Hk.out]
    go_wp2
    go_ret
    exact Post.mk (by repeat (first | with_reducible exact Ext.refl _ | with_reducible assumption | (with_reducible refine Ext.alloc ?_ _) | (with_reducible refine Ext.drew ?_) | (with_reducible refine Ext.drewN ?_ _) | (with_reducible refine Ext.set ?_ (by first | (simp; done) | (simp; omega)) _) | (with_reducible refine Ext.trans ?_ (by with_reducible assumption)))) rfl

theorem fieldsN_cases (op : Nat) : fieldsN op = 0 ∨ fieldsN op = 1 ∨ fieldsN op = 2 ∨ fieldsN op = 3 ∨ fieldsN op = 4 := by
  unfold fieldsN
  split
  · simp
  · split
    · simp
    · split
      · simp
      · split <;> simp
/-- May the step be, at its place? -/
theorem right_any (v : Value) (s : Step) (lim pars : Int) (w : World) (h : IsStep w v s) :
    Calls Tryz.prog 42 #[v, .int .i64 lim, .int .i64 pars] w (Post w fun r _ => r = .bool (rightP s lim pars)) := by
  obtain ⟨op, a, b, neg, xs, ys⟩ := s
  obtain ⟨a1, n1, c1, a2, n2, c2, rfl, h1, h2, hop, hn1, hn2⟩ := h
  simp only at *
  by_cases k1 : fieldsN op = 1
  · have e : rightP ⟨op, a, b, neg, xs, ys⟩ lim pars = (normC ⟨op, a, b, neg, xs, ys⟩ && (decide (a = 0) && decide (b = 0))) := by unfold rightP; simp only; rw [if_pos k1]
    rw [e]
    exact right_num op a b neg xs ys a1 a2 n1 c1 n2 c2 lim pars w hop k1 h1 h2 hn1 hn2
  · by_cases k2 : fieldsN op = 2
    · have e : rightP ⟨op, a, b, neg, xs, ys⟩ lim pars = (noneC ⟨op, a, b, neg, xs, ys⟩ && (ahead a pars && decide (b = 0))) := by unfold rightP; simp only; rw [if_neg k1, if_pos k2]
      rw [e]
      exact right_par op a b neg xs ys a1 a2 n1 c1 n2 c2 lim pars w hop k2 h1 h2
    · by_cases k3 : fieldsN op = 3
      · have e : rightP ⟨op, a, b, neg, xs, ys⟩ lim pars = (noneC ⟨op, a, b, neg, xs, ys⟩ && (ahead a lim && ahead b lim)) := by unfold rightP; simp only; rw [if_neg k1, if_neg k2, if_pos k3]
        rw [e]
        exact right_two op a b neg xs ys a1 a2 n1 c1 n2 c2 lim pars w hop k3 h1 h2
      · by_cases k4 : fieldsN op = 4
        · have e : rightP ⟨op, a, b, neg, xs, ys⟩ lim pars = (noneC ⟨op, a, b, neg, xs, ys⟩ && (ahead a lim && decide (b = 0))) := by unfold rightP; simp only; rw [if_neg k1, if_neg k2, if_neg k3, if_pos k4]
          rw [e]
          exact right_one op a b neg xs ys a1 a2 n1 c1 n2 c2 lim pars w hop k4 h1 h2
        · have e : rightP ⟨op, a, b, neg, xs, ys⟩ lim pars = false := by unfold rightP; simp only; rw [if_neg k1, if_neg k2, if_neg k3, if_neg k4]
          rw [e]
          have k0 : fieldsN op = 0 := by
            have := fieldsN_cases op
            omega
          exact right_no op a b neg xs ys a1 a2 n1 c1 n2 c2 lim pars w hop k0 h1 h2
end Go.Proofs.YtbncdghbnnefdaaGreat

namespace Go.Proofs.YtbncdghbnnefdaaGreat
open Go.RowKit

/-- The text of a step's number as a map's key has it. -/
def keyT (s : Step) : List Nat := if s.op = 1 then (if val s.ys = 1 then zT s.neg (val s.xs) else zT s.neg (val s.xs) ++ 47 :: decT (val s.ys)) else []
/-- A step as a map's key. -/
def keyV (s : Step) : Value := .agg #[.int .u8 s.op, .int .i64 s.a, .int .i64 s.b, .string (txt (keyT s))]
/-- The map's entries: each step, and its place. -/
def esOf (L : List Step) : Array MapEntry := (L.mapIdx fun i s => (⟨keyV s, .int .i64 (i : Nat), i⟩ : MapEntry)).toArray
theorem esOf_push (L : List Step) (s : Step) : esOf (L ++ [s]) = (esOf L).push ⟨keyV s, .int .i64 (L.length : Nat), L.length⟩ := by
  unfold esOf
  apply Array.ext'
  simp [List.mapIdx_append]
theorem esOf_size (L : List Step) : (esOf L).size = L.length := by simp [esOf]
theorem esOf_get {L : List Step} {j : Nat} {e : MapEntry} (h : (esOf L).toList[j]? = some e) : ∃ s, L[j]? = some s ∧ e = ⟨keyV s, .int .i64 (j : Nat), j⟩ := by
  simp only [esOf, List.getElem?_mapIdx] at h
  cases hj : L[j]? with
  | none => rw [hj] at h; cases h
  | some s => rw [hj] at h; simp at h; exact ⟨s, rfl, h.symm⟩
theorem esOf_mem {L : List Step} {s : Step} (h : s ∈ L) : ∃ e ∈ (esOf L).toList, e.key = keyV s := by
  obtain ⟨i, hi, rfl⟩ := List.getElem_of_mem h
  refine ⟨⟨keyV L[i], .int .i64 (i : Nat), i⟩, ?_, rfl⟩
  simp only [esOf]
  rw [List.mem_mapIdx]
  exact ⟨i, hi, rfl⟩

theorem key_laid : laidOutB Tryz.prog = true := by kernel_rfl
theorem key_law : WideMaps.KeyLaw Tryz.prog 98 := deep_law_laid key_laid (m := 4) (by omega) (of_decide_eq_true (by kernel_rfl)) (by kernel_rfl) (by kernel_rfl)

/-- A step's numbers are numbers of their kinds. -/
def Wf (s : Step) : Prop := s.op < 256 ∧ (Lit.int .i64 s.a).wf = true ∧ (Lit.int .i64 s.b).wf = true ∧ (txt (keyT s)).size ≤ maxLen
theorem key_cells : Tryz.prog.cellsOf 98 = 4 := by kernel_rfl
theorem key_c1 : Tryz.prog.cellsOf 5 = 1 := by kernel_rfl
theorem key_c2 : Tryz.prog.cellsOf 3 = 1 := by kernel_rfl
theorem key_c3 : Tryz.prog.cellsOf 9 = 1 := by kernel_rfl
theorem key_kt : Tryz.prog.keyType 98 = true := by kernel_rfl
theorem key_size : ∃ m, Tryz.prog.types.size = m + 1 := ⟨Tryz.prog.types.size - 1, by
  have : 0 < Tryz.prog.types.size := of_decide_eq_true (by kernel_rfl)
  omega⟩
theorem wf_u8 {n : Nat} (h : n < 256) : (Lit.int .u8 (n : Int)).wf = true := by
  have hmin : IntKind.u8.min = 0 := rfl
  have hmax : IntKind.u8.max = 255 := rfl
  simp only [Lit.wf, Bool.and_eq_true, decide_eq_true_eq]
  omega
theorem keyOf_key {s : Step} (h : Wf s) : ∃ l, keyOf Tryz.prog 98 (keyV s) = some l := by
  obtain ⟨h1, h2, h3, h4⟩ := h
  have h1' := wf_u8 h1
  obtain ⟨m, hm⟩ := key_size
  have hu := Tryz.underlying98
  have hf : (keyV s).formed Tryz.prog 98 = true := by
    unfold keyV Value.formed
    simp only [hu, key_cells]
    rfl
  unfold keyOf
  simp only [hu, key_kt, hf]
  rw [hm]
  unfold Program.keyLits
  simp only [hu]
  simp [Program.keyLits, keyV, Value.cells, key_cells, key_c1, key_c2, key_c3, Tryz.underlying5, Tryz.underlying3, Tryz.underlying9, h1', h2, h3, h4]

/-- No two steps have one key. -/
def Apart (L : List Step) : Prop := ∀ (i j : Nat) (s t : Step), L[i]? = some s → L[j]? = some t → keyV s = keyV t → i = j
theorem all_keys {L : List Step} (h : ∀ s ∈ L, Wf s) : ∀ e ∈ (esOf L).toList, ∃ l, keyOf Tryz.prog 98 e.key = some l := by
  intro e he
  obtain ⟨j, hj⟩ := List.getElem?_of_mem he
  obtain ⟨s, hs, rfl⟩ := esOf_get hj
  exact keyOf_key (h s (List.mem_of_getElem? hs))
theorem find_hit {L : List Step} {s : Step} {i : Nat} (hL : ∀ s ∈ L, Wf s) (hA : Apart L) (hi : L[i]? = some s) (w : World) :
    (Instr.findKey 98 (keyV s) (esOf L).toList).run Tryz.prog w = .ok (some (i, .int .i64 (i : Nat))) w := by
  obtain ⟨l, hl⟩ := keyOf_key (hL s (List.mem_of_getElem? hi))
  rcases key_law.find w hl (esOf L).toList (all_keys hL) with ⟨_, h2⟩ | ⟨j, e, h1, h2, h3⟩
  · obtain ⟨e, he, hk⟩ := esOf_mem (List.mem_of_getElem? hi)
    exact absurd hk (h2 e he)
  · obtain ⟨t, ht, rfl⟩ := esOf_get h2
    have := hA j i t s ht hi h3
    subst this
    exact h1
theorem find_miss {L : List Step} {s : Step} (hL : ∀ s ∈ L, Wf s) (hs : Wf s) (hn : ∀ t ∈ L, keyV t ≠ keyV s) (w : World) :
    (Instr.findKey 98 (keyV s) (esOf L).toList).run Tryz.prog w = .ok none w := by
  obtain ⟨l, hl⟩ := keyOf_key hs
  rcases key_law.find w hl (esOf L).toList (all_keys hL) with ⟨h1, _⟩ | ⟨j, e, h1, h2, h3⟩
  · exact h1
  · obtain ⟨t, ht, rfl⟩ := esOf_get h2
    exact absurd h3 (hn t (List.mem_of_getElem? ht))
theorem look_hit {L : List Step} {s : Step} {i mb n : Nat} (hL : ∀ s ∈ L, Wf s) (hA : Apart L) (hi : L[i]? = some s) (w : World) (hb : w.heap[mb]? = some (.map (esOf L) n)) :
    (Instr.lookup 70 (.map (some mb)) (keyV s) true).run Tryz.prog w = .ok (.tuple #[.int .i64 (i : Nat), .bool true]) w := by
  obtain ⟨l, hl⟩ := keyOf_key (hL s (List.mem_of_getElem? hi))
  simp [Instr.lookup, run_underlying Tryz.underlying70, MapKept.run_getObj_map hb, key_law.check w _ hl, find_hit hL hA hi, Result.andThen]
theorem look_miss {L : List Step} {s : Step} {mb n : Nat} (hL : ∀ s ∈ L, Wf s) (hs : Wf s) (hn : ∀ t ∈ L, keyV t ≠ keyV s) (w : World) (hb : w.heap[mb]? = some (.map (esOf L) n)) :
    (Instr.lookup 70 (.map (some mb)) (keyV s) true).run Tryz.prog w = .ok (.tuple #[.int .i64 0, .bool false]) w := by
  obtain ⟨l, hl⟩ := keyOf_key hs
  simp [Instr.lookup, run_underlying Tryz.underlying70, MapKept.run_getObj_map hb, key_law.check w _ hl, find_miss hL hs hn, Result.andThen]
/-- An entry is laid for a new key. -/
theorem entry_miss {L : List Step} {s : Step} {mb : Nat} (hL : ∀ s ∈ L, Wf s) (hs : Wf s) (hn : ∀ t ∈ L, keyV t ≠ keyV s) (w : World) (hb : w.heap[mb]? = some (.map (esOf L) L.length)) :
    (Instr.mapEntry 70 (.map (some mb)) (keyV s)).run Tryz.prog w =
      .ok (.tuple #[.int .i64 0, .int .i64 (L.length : Nat)]) (ChangeMaps.setBlock w mb (.map ((esOf L).push ⟨keyV s, .int .i64 0, L.length⟩) (L.length + 1))) := by
  obtain ⟨l, hl⟩ := keyOf_key hs
  simp [Instr.mapEntry, run_underlying Tryz.underlying70, MapKept.run_getObj_map hb, key_law.check w _ hl, find_miss hL hs hn, MapKept.run_setObj_map _ hb, Result.andThen, ChangeMaps.setBlock, goInt]
/-- And it is filled. -/
theorem entry_fill {L : List Step} {s : Step} {mb : Nat} (w : World) (hb : w.heap[mb]? = some (.map ((esOf L).push ⟨keyV s, .int .i64 0, L.length⟩) (L.length + 1))) :
    (Instr.entryStore 70 (.map (some mb)) (.int .i64 (L.length : Nat)) (.int .i64 (L.length : Nat))).run Tryz.prog w =
      .ok () (ChangeMaps.setBlock w mb (.map (esOf (L ++ [s])) (L ++ [s]).length)) := by
  have hidx : ((esOf L).push ⟨keyV s, .int .i64 0, L.length⟩).findIdx? (fun e => ((e.born : Nat) : Int) == ((L.length : Nat) : Int)) = some (esOf L).size := by
    rw [WideElems.findIdx_arr]
    refine WideElems.findIdx_born (l := ((esOf L).push ⟨keyV s, .int .i64 0, L.length⟩).toList) (j := (esOf L).size) (e0 := ⟨keyV s, .int .i64 0, L.length⟩) ?_ (by simp)
    rw [Array.toList_push, List.map_append]
    have hm : (esOf L).toList.map (·.born) = List.range L.length := by
      apply List.ext_getElem?
      intro i
      simp only [esOf, List.getElem?_map, List.getElem?_mapIdx]
      by_cases hi : i < L.length
      · simp [hi]
      · simp [hi]
    rw [hm]
    simp only [List.map_cons, List.map_nil]
    refine List.nodup_append.2 ⟨List.nodup_range, by simp, fun a ha c hc e1 => ?_⟩
    simp only [List.mem_singleton] at hc
    have := List.mem_range.1 ha
    omega
  have hmod : ((esOf L).push ⟨keyV s, .int .i64 0, L.length⟩).modify (esOf L).size (fun e => { e with val := .int .i64 (L.length : Nat) }) = esOf (L ++ [s]) := by
    rw [esOf_push]
    apply Array.ext'
    rw [Array.toList_modify, Array.toList_push, Array.toList_push, ← Array.length_toList, WideElems.modify_last]
  simp [Instr.entryStore, MapKept.run_getObj_map hb, asInt, asIntOf, hidx, hmod, MapKept.run_setObj_map _ hb, Result.andThen, ChangeMaps.setBlock]
end Go.Proofs.YtbncdghbnnefdaaGreat

namespace Go.Proofs.YtbncdghbnnefdaaGreat
open Go.RowKit

/-- The value owns a row; the row's block holds no limb. -/
def OwnsU (w : World) (base : Nat) (e : TypeId) (size : Nat) (v : Value) (n : Nat) (xs : List Value) : Prop :=
  w.ownsRow base e size v n xs ∧ ∀ g cur t fr, v.ownBlock = some g → w.heap[g]? = some (.cells cur t fr) → ∀ u ∈ cur.toList, isU u = false
theorem OwnsU.nil (w : World) (base : Nat) (e : TypeId) (size : Nat) : OwnsU w base e size (.slice none 0 0) 0 [] :=
  ⟨World.ownsRow_nil w base e size, fun g cur t fr hg => by simp [Value.ownBlock] at hg⟩
theorem OwnsU.kept {w w' : World} {base : Nat} {e : TypeId} {size : Nat} {v : Value} {n : Nat} {xs : List Value} (h : OwnsU w base e size v n xs) (hk : ∀ k, v.ownBlock = some k → w'.heap[k]? = w.heap[k]?) : OwnsU w' base e size v n xs := by
  obtain ⟨h1, h2⟩ := h
  refine ⟨⟨h1.1, ?_⟩, fun g cur t fr hg hh => h2 g cur t fr hg (by rw [← hk g hg]; exact hh)⟩
  rcases h1.2 with h0 | ⟨g, cap, cur, rfl, hb, hgg, rest⟩
  · exact .inl h0
  · exact .inr ⟨g, cap, cur, rfl, hb, by rw [hk g rfl]; exact hgg, rest⟩
theorem OwnsU.lt {w : World} {base : Nat} {e : TypeId} {size : Nat} {v : Value} {n : Nat} {xs : List Value} (h : OwnsU w base e size v n xs) : ∀ k, v.ownBlock = some k → base ≤ k ∧ k < w.heap.size := h.1.lt
theorem OwnsU.alloc {w : World} {base : Nat} {e : TypeId} {size : Nat} {v : Value} {n : Nat} {xs : List Value} (h : OwnsU w base e size v n xs) (o : Obj) : OwnsU (w.alloc o) base e size v n xs :=
  h.kept fun k hk => heap_alloc_old w o (h.lt k hk).2
theorem OwnsU.drew {w : World} {base : Nat} {e : TypeId} {size : Nat} {v : Value} {n : Nat} {xs : List Value} (h : OwnsU w base e size v n xs) : OwnsU w.drew base e size v n xs :=
  h.kept fun _ _ => rfl
/-- All limbs are kept where just the row and new blocks have turned. -/
theorem OwnsU.keeps {w w' : World} {base : Nat} {e : TypeId} {size : Nat} {v : Value} {n : Nat} {xs : List Value} (h : OwnsU w base e size v n xs) (hg : w.grownBy w' v.ownBlock) : Keeps w w' := by
  intro p x hp
  by_cases hr : some p.block = v.ownBlock
  · exfalso
    have hlt := World.block_lt_of_cell? w p hp
    unfold World.cell? at hp
    cases hb : w.heap[p.block]? with
    | none => rw [hb] at hp; cases hp
    | some o =>
      rw [hb] at hp
      cases o with
      | cells cur t fr =>
        simp only at hp
        split at hp
        · cases hp
        · have hm : Value.int .u64 x ∈ cur.toList := by
            rw [Array.mem_toList_iff]
            exact Array.mem_of_getElem? hp
          have := h.2 p.block cur t fr hr.symm hb _ hm
          cases this
      | _ => simp at hp
  · exact hg.cell hp hr

section
variable {P : Program} (w : World)
/-- append onto such a row. -/
theorem run_append_u (t ty : TypeId) (base : Nat) (e : TypeId) (i : TypeInfo) (z : Value) (size bytes : Nat) (ht : P.underlying t = some (.slice e)) (hi : P.info? e = some i) (hz : i.zero = some z)
    (hsize : i.size = size) (hby : i.bytes = bytes) (hzs : z.cells.size = size) (hsz : 0 < size) (hzu : ∀ u ∈ z.cells.toList, isU u = false)
    (v : Value) (n : Nat) (xs : List Value) (hown : OwnsU w base e size v n xs)
    (ad : Addr) (m c : Nat) (news : List Value) (hl : news.length = m * size) (hnews : ∀ j u, news[j]? = some u → w.cell? (ad.add j) = some u) (h1 : ∀ u ∈ news, u.oneCell' = true) (hu : ∀ u ∈ news, isU u = false)
    (hm : 0 < m) (h63 : n + m ≤ maxLen) (hbytes : (n + m) * bytes ≤ 140737488355328) (hbase : base ≤ w.heap.size) :
    ∃ g cap w', (Builtin.append_ #[t, t] ty #[v, .slice (some ad) m c]).run P w = .ok (.slice (some ⟨g, 0, none⟩) (n + m) cap) w' ∧
      OwnsU w' base e size (.slice (some ⟨g, 0, none⟩) (n + m) cap) (n + m) (xs ++ news) ∧ w.grownBy w' v.ownBlock ∧ (v.ownBlock = some g ∨ g = w.heap.size) := by
  obtain ⟨g, cap, w', hr, ho, hg, hlies, hlt⟩ := run_append_lies (P := P) w t ty base e i z size bytes ht hi hz hsize hby hzs hsz v n xs hown.1 ad m c news hl hnews h1 hm h63 hbytes hbase w.heap.size rfl
  refine ⟨g, cap, w', hr, ⟨ho, ?_⟩, hg, hlies⟩
  subst hsize
  subst hby
  have hzall : ∀ k, ∀ u ∈ (Builtin.zeroCells z.cells k).toList, isU u = false := by
    intro k u hu
    unfold Builtin.zeroCells at hu
    simp only [Array.toList_map, List.mem_map] at hu
    obtain ⟨j, _, rfl⟩ := hu
    have hlt : j % z.cells.size < z.cells.size := Nat.mod_lt _ (by omega)
    rw [getElem!_pos z.cells _ hlt]
    exact hzu _ (by rw [Array.mem_toList_iff]; exact Array.getElem_mem hlt)
  rcases hown.1.2 with ⟨rfl, rfl⟩ | ⟨g', cap', cur, rfl, hbg, hgg, hnc, hcm, hcs, htake⟩
  · have hx : xs = [] := List.eq_nil_of_length_eq_zero (by simpa using hown.1.1)
    subst hx
    have hr' := run_append_nil (P := P) w t ty e i z ht hi hz ad m c news hl hnews (by omega) (by unfold maxLen at h63; omega) (by have hb := hbytes; simp only [Nat.zero_add] at hb; omega)
    rw [hr'] at hr
    simp only [Result.ok.injEq, Value.slice.injEq, Option.some.injEq, Addr.mk.injEq] at hr
    obtain ⟨⟨⟨rfl, _⟩, _⟩, rfl⟩ := hr
    intro g1 cur1 t1 fr1 e1 e2 u hu1
    simp only [Value.ownBlock, Option.some.injEq] at e1
    subst e1
    have e3 := heap_alloc_new w.drew (.cells (news.toArray ++ Builtin.zeroCells z.cells (grownCap w m 0 e - m)) e)
    rw [show w.drew.heap.size = w.heap.size from rfl] at e3
    rw [e3] at e2
    simp only [Option.some.injEq, Obj.cells.injEq] at e2
    obtain ⟨rfl, _⟩ := e2
    rw [Array.toList_append, List.mem_append] at hu1
    rcases hu1 with h | h
    · exact hu u h
    · exact hzall _ u h
  · by_cases hroom : n + m ≤ cap'
    · have hfit : n * i.size + news.length ≤ cur.size := by rw [hl, hcs, ← Nat.add_mul]; exact Nat.mul_le_mul_right _ hroom
      have hr' := run_append_room (P := P) w t ty e i ht hi g' n cap' cur hgg ad m c news hl hnews h1 hroom hfit
      rw [hr'] at hr
      simp only [Result.ok.injEq, Value.slice.injEq, Option.some.injEq, Addr.mk.injEq] at hr
      obtain ⟨⟨⟨rfl, _⟩, _⟩, rfl⟩ := hr
      intro g1 cur1 t1 fr1 e1 e2 u hu1
      simp only [Value.ownBlock, Option.some.injEq] at e1
      subst e1
      rw [setRow_heap w g' cur _ e _ hgg] at e2
      simp only [Option.some.injEq, Obj.cells.injEq] at e2
      obtain ⟨rfl, _⟩ := e2
      have hall := hown.2 g' cur e (0, 0) rfl hgg
      simp only [List.mem_append] at hu1
      rcases hu1 with (h | h) | h
      · exact hall u (List.mem_of_mem_take h)
      · exact hu u h
      · exact hall u (List.mem_of_mem_drop h)
    · have holds : ∀ j u, xs[j]? = some u → w.cell? ((⟨g', 0, none⟩ : Addr).add j) = some u := hown.1.cells (g := g') rfl
      have hr' := run_append_grow (P := P) w t ty e i z ht hi hz ⟨g', 0, none⟩ n cap' xs hown.1.1 holds ad m c news hl hnews (by omega) (by unfold maxLen at h63; omega) (growslice_fits (by omega) hbytes)
      rw [hr'] at hr
      simp only [Result.ok.injEq, Value.slice.injEq, Option.some.injEq, Addr.mk.injEq] at hr
      obtain ⟨⟨⟨rfl, _⟩, _⟩, rfl⟩ := hr
      intro g1 cur1 t1 fr1 e1 e2 u hu1
      simp only [Value.ownBlock, Option.some.injEq] at e1
      subst e1
      have e3 := heap_alloc_new w.drew (.cells (xs.toArray ++ news.toArray ++ Builtin.zeroCells z.cells (grownCap w (n + m) cap' e - (n + m))) e)
      rw [show w.drew.heap.size = w.heap.size from rfl] at e3
      rw [e3] at e2
      simp only [Option.some.injEq, Obj.cells.injEq] at e2
      obtain ⟨rfl, _⟩ := e2
      have hall := hown.2 g' cur e (0, 0) rfl hgg
      rw [Array.toList_append, Array.toList_append, List.mem_append, List.mem_append] at hu1
      rcases hu1 with (h | h) | h
      · simp only at h
        rw [← htake] at h
        exact hall u (List.mem_of_mem_take h)
      · exact hu u h
      · exact hzall _ u h
end

section
variable {P : Program} (w : World)
theorem step_append_u {ops : Array Oper} {o : Oper} {a : Act} {K : Act → World → Prop} {Q : Exit → Act → World → Prop} {E : Prop} (hgd : o.guard = none) (s x : Operand) (t : TypeId)
    (ho : o.op = .call { callee := .builtin .append, args := #[s, x], argTypes := #[t, t] })
    (base : Nat) (e : TypeId) (i : TypeInfo) (z : Value) (size bytes : Nat) (ht : P.underlying t = some (.slice e)) (hi : P.info? e = some i) (hz : i.zero = some z)
    (hsize : i.size = size) (hby : i.bytes = bytes) (hzs : z.cells.size = size) (hsz : 0 < size) (hzu : ∀ u ∈ z.cells.toList, isU u = false)
    (v : Value) (n : Nat) (xs : List Value) (hs : a.eval s = v) (hown : OwnsU w base e size v n xs)
    (ad : Addr) (m c : Nat) (news : List Value) (hx : a.eval x = .slice (some ad) m c) (hl : news.length = m * size) (hnews : ∀ j u, news[j]? = some u → w.cell? (ad.add j) = some u) (h1 : ∀ u ∈ news, u.oneCell' = true) (hu : ∀ u ∈ news, isU u = false)
    (hm : 0 < m) (h63 : n + m ≤ maxLen) (hbytes : (n + m) * bytes ≤ 140737488355328) (hbase : base ≤ w.heap.size) (H : Nat) (hH : w.heap.size = H)
    (h : ∀ g cap w', OwnsU w' base e size (.slice (some ⟨g, 0, none⟩) (n + m) cap) (n + m) (xs ++ news) → w.grownBy w' v.ownBlock → (v.ownBlock = some g ∨ g = H) → K (a.put o.dst (.slice (some ⟨g, 0, none⟩) (n + m) cap)) w') :
    if Region.wanted o (yielded ops a.tmps) = true then Oper.wp P o a w K Q else E := by
  have hw : Region.wanted o (yielded ops a.tmps) = true := by simp [Region.wanted, hgd]
  rw [if_pos hw]
  obtain ⟨g, cap, w', hr, h2, h3, h4⟩ := run_append_u (P := P) w t o.type base e i z size bytes ht hi hz hsize hby hzs hsz hzu v n xs hown ad m c news hl hnews h1 hu hm h63 hbytes hbase
  unfold Oper.wp execOp
  simp only [ho, resolve, invoke, builtin, Sem.run_bind, Sem.run_pure, Result.andThen_ok, List.map_toArray, List.map_cons, List.map_nil, hs, hx, hr]
  exact h g cap w' h2 h3 (by rw [hH] at h4; exact h4)
end
end Go.Proofs.YtbncdghbnnefdaaGreat

namespace Go.Proofs.YtbncdghbnnefdaaGreat

section
variable {P : Program} {ops : Array Oper} {Q : Exit → Act → World → Prop} {md : Region.Mode} {S T : World → Prop} {k : Nat}

/-- Whatever order is picked from here on; T holds behind each operation, and S as long as operation k has not come up. -/
def wpAnyT (P : Program) (md : Region.Mode) (ops : Array Oper) (Q : Exit → Act → World → Prop) (S T : World → Prop) (k : Nat) : Nat → Array Bool → Act → World → Prop
  | 0, listed, a, w => Region.ready md ops listed = [] ∧ Q .normal a w
  | fuel + 1, listed, a, w =>
    (Region.ready md ops listed = [] → Q .normal a w) ∧
    ∀ i ∈ Region.ready md ops listed, wpOp P ops Q i (fun a' w' => (((listed.setIfInBounds i true).getD k true = false → S w') ∧ T w') ∧ wpAnyT P md ops Q S T k fuel (listed.setIfInBounds i true) a' w') a w
theorem wpAny_of_T : ∀ (fuel : Nat) (listed : Array Bool) (a : Act) (w : World), wpAnyT P md ops Q S T k fuel listed a w → wpAny P md ops Q fuel listed a w
  | 0, _, _, _, h => h
  | fuel + 1, _, _, _, h => ⟨h.1, fun i hi => wpOp_mono (fun a' w' h' => wpAny_of_T fuel _ a' w' h'.2) (h.2 i hi)⟩

/-- Operation i may be taken first: it yields in every world that meets U, and U holds as long as it has not come up. -/
theorem wpAnyT_first {i : Nat} {oi : Oper} {v : Value} {U : World → Prop} {I : Array Bool → Prop} (hi : ops[i]? = some oi)
    (hI : ∀ listed j, I listed → i ∈ Region.ready md ops listed → j ∈ Region.ready md ops listed → j ≠ i → I (listed.setIfInBounds j true))
    (hU : ∀ listed j w, I listed → i ∈ Region.ready md ops listed → j ∈ Region.ready md ops listed → j ≠ i → (((listed.setIfInBounds i true).setIfInBounds j true).getD k true = false → S w) → T w → U w)
    (hS' : ∀ listed j w, I listed → i ∈ Region.ready md ops listed → j ∈ Region.ready md ops listed → j ≠ i → (((listed.setIfInBounds i true).setIfInBounds j true).getD k true = false → S w) → (listed.setIfInBounds j true).getD k true = false → S w)
    (hsel : ∀ (j : Nat) (o : Oper) cs b, ops[j]? = some o → o.op ≠ .select cs b) (hQ : ∀ c a w, Q (.panic c) (a.put oi.dst v) w → Q (.panic c) a w) :
    ∀ (fuel : Nat) (listed : Array Bool) (a : Act) (w : World), I listed →
      (∀ j oj, ops[j]? = some oj → j ≠ i → listed.getD j true = false → (∀ e ∈ oj.after, Region.binds md e = true → e.on ≠ i) → oi.apart ops oj = true) →
      i ∈ Region.ready md ops listed → YieldsIf P ops U oi v a → U w → ((listed.setIfInBounds i true).getD k true = false → S w) → T w →
      wpAnyT P md ops Q S T k fuel (listed.setIfInBounds i true) (a.put oi.dst v) w → wpAnyT P md ops Q S T k (fuel + 1) listed a w := by
  intro fuel
  induction fuel with
  | zero =>
    intro listed a w hIl _ hr hy hu hS hT H
    refine ⟨fun h => (by rw [h] at hr; cases hr), fun j hj => ?_⟩
    by_cases hji : j = i
    · subst hji; exact hy.wpOp hi hu ⟨⟨hS, hT⟩, H⟩
    · have := ready_mono hj hji
      rw [H.1] at this
      cases this
  | succ fuel ih =>
    intro listed a w hIl hfree hr hy hu hS hT H
    refine ⟨fun h => (by rw [h] at hr; cases hr), fun j hj => ?_⟩
    by_cases hji : j = i
    · subst hji; exact hy.wpOp hi hu ⟨⟨hS, hT⟩, H⟩
    · have h1 := H.2 j (ready_mono hj hji)
      obtain ⟨hjun, oj, hoj, hall⟩ := mem_ready.1 hj
      have hnot : ∀ e ∈ oj.after, Region.binds md e = true → e.on ≠ i := fun e he hb heq => by
        have h1 := hall e he hb
        have h0 := (mem_ready.1 hr).1
        rw [heq] at h1
        rcases Nat.lt_or_ge i listed.size with h' | h'
        · simp [h'] at h0 h1; rw [h0] at h1; cases h1
        · simp [Array.getElem?_eq_none h'] at h1
      have h2 := wpOp_putIf hoj (hfree j oj hoj hji hjun hnot) (fun cs b => hsel i oi cs b hi) (fun cs b => hsel j oj cs b hoj) hQ hy h1
      have hfree' : ∀ m om, ops[m]? = some om → m ≠ i → (listed.setIfInBounds j true).getD m true = false →
          (∀ e ∈ om.after, Region.binds md e = true → e.on ≠ i) → oi.apart ops om = true := fun m om hm hmi hun hno => by
        refine hfree m om hm hmi ?_ hno
        by_cases hjm : j = m
        · subst hjm; exact hjun
        · rw [getD_set_ne true hjm] at hun; exact hun
      refine wpOp_mono (fun a' w' h3 => ?_) h2
      obtain ⟨h4, ⟨h5, h6⟩, h7⟩ := h3
      have h8 := hS' listed j w' hIl hr hj hji h5
      refine ⟨⟨h8, h6⟩, ih (listed.setIfInBounds j true) a' w' (hI listed j hIl hr hj hji) hfree' (ready_mono hr (Ne.symm hji)) h4 (hU listed j w' hIl hr hj hji h5 h6) ?_ h6 ?_⟩
      · rw [Array.setIfInBounds_comm _ _ hji]; exact h5
      · rw [Array.setIfInBounds_comm _ _ hji]; exact h7

theorem ready_ne {i j k : Nat} {ok : Oper} {listed : Array Bool} (hk : ops[k]? = some ok) (hw : ∃ e ∈ ok.after, Region.binds md e = true ∧ e.on = i) (hr : i ∈ Region.ready md ops listed) (hj : j ∈ Region.ready md ops listed) : j ≠ k := by
  intro e
  subst e
  obtain ⟨e, he, hb, heq⟩ := hw
  obtain ⟨_, o, ho, hall⟩ := mem_ready.1 hj
  rw [hk] at ho
  cases ho
  have h1 := hall e he hb
  have h0 := (mem_ready.1 hr).1
  rw [heq] at h1
  rcases Nat.lt_or_ge i listed.size with h' | h'
  · simp [h'] at h0 h1; rw [h0] at h1; cases h1
  · simp [Array.getElem?_eq_none h'] at h1

/-- Does operation k wait for operation i? -/
def waits (md : Region.Mode) (ops : Array Oper) (k i : Nat) : Bool := match ops[k]? with
  | some ok => ok.after.any fun e => Region.binds md e && e.on == i
  | none => false
/-- Taken first: what reads under S and T, if operation k waits for it. -/
theorem wpAnyT_take {i : Nat} (d : Option Tmp) {oi : Oper} {v : Value} {fuel : Nat} {listed : Array Bool} {a : Act} {w : World} (hi : ops[i]? = some oi) (hd : oi.dst = d)
    (hs : Region.noSelect ops = true) (hf : Region.free md ops listed i = true) (hr : (Region.ready md ops listed).contains i = true) (hw : waits md ops k i = true) (hku : listed.getD k true = false)
    (hQ : ∀ c a w, Q (.panic c) (a.put d v) w → Q (.panic c) a w) (hy : YieldsIf P ops (fun w => S w ∧ T w) oi v a) (hS : S w) (hT : T w)
    (h : wpAnyT P md ops Q S T k fuel (listed.setIfInBounds i true) (a.put d v) w) : wpAnyT P md ops Q S T k (fuel + 1) listed a w := by
  subst hd
  unfold waits at hw
  cases hk : ops[k]? with
  | none => rw [hk] at hw; cases hw
  | some ok =>
    rw [hk] at hw
    simp only [Array.any_eq_true', Bool.and_eq_true, beq_iff_eq] at hw
    have key : ∀ (l : Array Bool) (j : Nat), l.getD k true = false → i ∈ Region.ready md ops l → j ∈ Region.ready md ops l → ((l.setIfInBounds i true).setIfInBounds j true).getD k true = false ∧ (l.setIfInBounds j true).getD k true = false := fun l j h0 h1 h2 => by
      have e1 := ready_ne hk hw h1 h2
      have e2 := ready_ne hk hw h1 h1
      exact ⟨by rw [getD_set_ne true e1, getD_set_ne true e2]; exact h0, by rw [getD_set_ne true e1]; exact h0⟩
    exact wpAnyT_first (I := fun l => l.getD k true = false) hi (fun l j h0 h1 h2 _ => (key l j h0 h1 h2).2) (fun l j w h0 h1 h2 _ h3 h4 => ⟨h3 (key l j h0 h1 h2).1, h4⟩) (fun l j w h0 h1 h2 _ h3 _ => h3 (key l j h0 h1 h2).1)
      (Region.noSelect_spec hs) hQ fuel listed a w hku (Region.free_spec hi hf) (by simpa using hr) hy ⟨hS, hT⟩ (fun _ => hS) hT h
/-- Taken first: what reads under T alone. -/
theorem wpAnyT_take' {i : Nat} (d : Option Tmp) {oi : Oper} {v : Value} {fuel : Nat} {listed : Array Bool} {a : Act} {w : World} (hi : ops[i]? = some oi) (hd : oi.dst = d)
    (hs : Region.noSelect ops = true) (hf : Region.free md ops listed i = true) (hr : (Region.ready md ops listed).contains i = true) (hik : i ≠ k)
    (hQ : ∀ c a w, Q (.panic c) (a.put d v) w → Q (.panic c) a w) (hy : YieldsIf P ops T oi v a) (hS : listed.getD k true = false → S w) (hT : T w)
    (h : wpAnyT P md ops Q S T k fuel (listed.setIfInBounds i true) (a.put d v) w) : wpAnyT P md ops Q S T k (fuel + 1) listed a w := by
  subst hd
  exact wpAnyT_first (I := fun _ => True) hi (fun _ _ _ _ _ _ => trivial) (fun _ _ _ _ _ _ _ _ h4 => h4)
    (fun l j w _ _ _ hji h3 h5 => h3 (by rw [Array.setIfInBounds_comm _ _ (Ne.symm hji), getD_set_ne true hik]; exact h5))
    (Region.noSelect_spec hs) hQ fuel listed a w trivial (Region.free_spec hi hf) (by simpa using hr) hy hT (fun h => hS (by rw [getD_set_ne true hik] at h; exact h)) hT h
/-- One operation alone may come up. -/
theorem wpAnyT_one {i : Nat} {o : Oper} {fuel : Nat} {listed : Array Bool} {a : Act} {w : World} (hr : Region.ready md ops listed = [i]) (ho : ops[i]? = some o)
    (h : ∀ K : Act → World → Prop, (∀ a' w', ((listed.setIfInBounds i true).getD k true = false → S w') → T w' → wpAnyT P md ops Q S T k fuel (listed.setIfInBounds i true) a' w' → K a' w') →
      (if Region.wanted o (yielded ops a.tmps) = true then Oper.wp P o a w K Q else K (a.put o.dst undef) w)) : wpAnyT P md ops Q S T k (fuel + 1) listed a w := by
  refine ⟨fun h0 => (by rw [h0] at hr; cases hr), fun j hj => ?_⟩
  rw [hr] at hj
  simp only [List.mem_singleton] at hj
  subst hj
  have := h (fun a' w' => (((listed.setIfInBounds j true).getD k true = false → S w') ∧ T w') ∧ wpAnyT P md ops Q S T k fuel (listed.setIfInBounds j true) a' w') fun a' w' h1 h2 h3 => ⟨⟨h1, h2⟩, h3⟩
  unfold wpOp
  simp only [ho]
  split at this
  · rename_i hw
    rw [if_pos hw]
    exact .inl this
  · rename_i hw
    rw [if_neg hw]
    exact this
/-- One of two may come up. -/
theorem wpAnyT_two {i1 i2 : Nat} {o1 o2 : Oper} {fuel : Nat} {listed : Array Bool} {a : Act} {w : World} (hr : Region.ready md ops listed = [i1, i2]) (ho1 : ops[i1]? = some o1) (ho2 : ops[i2]? = some o2)
    (h1 : ∀ K : Act → World → Prop, (∀ a' w', ((listed.setIfInBounds i1 true).getD k true = false → S w') → T w' → wpAnyT P md ops Q S T k fuel (listed.setIfInBounds i1 true) a' w' → K a' w') →
      (if Region.wanted o1 (yielded ops a.tmps) = true then Oper.wp P o1 a w K Q else K (a.put o1.dst undef) w))
    (h2 : ∀ K : Act → World → Prop, (∀ a' w', ((listed.setIfInBounds i2 true).getD k true = false → S w') → T w' → wpAnyT P md ops Q S T k fuel (listed.setIfInBounds i2 true) a' w' → K a' w') →
      (if Region.wanted o2 (yielded ops a.tmps) = true then Oper.wp P o2 a w K Q else K (a.put o2.dst undef) w)) : wpAnyT P md ops Q S T k (fuel + 1) listed a w := by
  have key : ∀ (j : Nat) (o : Oper), ops[j]? = some o → (∀ K : Act → World → Prop, (∀ a' w', ((listed.setIfInBounds j true).getD k true = false → S w') → T w' → wpAnyT P md ops Q S T k fuel (listed.setIfInBounds j true) a' w' → K a' w') →
      (if Region.wanted o (yielded ops a.tmps) = true then Oper.wp P o a w K Q else K (a.put o.dst undef) w)) →
      wpOp P ops Q j (fun a' w' => (((listed.setIfInBounds j true).getD k true = false → S w') ∧ T w') ∧ wpAnyT P md ops Q S T k fuel (listed.setIfInBounds j true) a' w') a w := by
    intro j o ho h
    have := h (fun a' w' => (((listed.setIfInBounds j true).getD k true = false → S w') ∧ T w') ∧ wpAnyT P md ops Q S T k fuel (listed.setIfInBounds j true) a' w') fun a' w' h1 h2 h3 => ⟨⟨h1, h2⟩, h3⟩
    unfold wpOp
    simp only [ho]
    split at this
    · rename_i hw
      rw [if_pos hw]
      exact .inl this
    · rename_i hw
      rw [if_neg hw]
      exact this
  refine ⟨fun h0 => (by rw [h0] at hr; cases hr), fun j hj => ?_⟩
  rw [hr] at hj
  simp only [List.mem_cons, List.not_mem_nil, or_false] at hj
  rcases hj with rfl | rfl
  · exact key _ _ ho1 h1
  · exact key _ _ ho2 h2
theorem wpAnyT_done {listed : Array Bool} {a : Act} {w : World} (hr : Region.ready md ops listed = []) (h : Q .normal a w) :
    ∀ fuel, wpAnyT P md ops Q S T k fuel listed a w
  | 0 => ⟨hr, h⟩
  | _ + 1 => ⟨fun _ => h, by rw [hr]; simp⟩
theorem wp_region_T (S T : World → Prop) (k n : Nat) {id : Nat} {a : Act} {w : World} (hn : ops.size = n) (hm : P.follows .mixedOrders = true)
    (h : wpAnyT P .any ops Q S T k n (Array.replicate n false) a w.drew) : (Code.region id ops true).wp P Q a w := by
  subst hn
  exact wp_region_any hm (wpAny_of_T _ _ _ _ h)
end
end Go.Proofs.YtbncdghbnnefdaaGreat
