/- Parts of the proof: contracts of the functions that the law reaches, and the arithmetic that they rest on; no condition beyond those that each theorem states. -/
import Derived.WalkKit
import Derived.Lib.Hide
import Derived.Deep.QuietTactic
import Derived.BigQuiet
import Derived.WalkSpells
import Derived.Laws.AppendOwnNone
import Derived.Laws.CopyOwn
import Derived.Lib.ItoaNum
import Derived.Laws.Bits64b
import Derived.RangeFuncNested
import Derived.RangeFuncBound
import Derived.RangeFuncCalls
import Derived.RangeFuncLeaves
import Derived.Shelf.Abstract
import Derived.Shelf.RegionOpen
import Derived.OwnWalkIn
import Derived.TacticsInMore
import Derived.LoopNIn
import Derived.LoopIn
import Derived.Laws.EntriesVeiled
import Derived.StillTailTactics
import Derived.OrdersIn

namespace Go.Proofs.Ytgihjgkpmochcaa
open Go.RowKit

/-- The second world has all that the first one had. -/
def Ext (w w' : World) : Prop := Below w.heap.size w w'

theorem Ext.below {w w' : World} (h : Ext w w') : Below w.heap.size w w' := h
theorem Ext.refl (w : World) : Ext w w := Below.refl _ _
theorem Ext.size {w w' : World} (h : Ext w w') : w.heap.size ≤ w'.heap.size := Below.size h
theorem Ext.trans {a b c : World} (h : Ext a b) (k : Ext b c) : Ext a c := Below.trans h (Below.mono k h.size)
theorem Ext.alloc {a w : World} (h : Ext a w) (o : Obj) : Ext a (w.alloc o) := Below.alloc h h.size o
theorem Ext.drew {a w : World} (h : Ext a w) : Ext a w.drew := Below.drew h
theorem Ext.drewN {a w : World} (h : Ext a w) (n : Nat) : Ext a (w.drewN n) := ⟨h.os, h.tape, h.output, h.size, h.block⟩
theorem Ext.set {a w : World} (h : Ext a w) {p : Addr} (hp : a.heap.size ≤ p.block) (v : Value) : Ext a (w.setCell p v) := Below.setCell h hp v
theorem Ext.grown {a w w' : World} {row : Option Nat} (h : Ext a w) (hg : w.grownBy w' row) (hr : ∀ k, row = some k → a.heap.size ≤ k) : Ext a w' := Below.grown h hg h.size hr
theorem Ext.block {w w' : World} (h : Ext w w') {k : Nat} {o : Obj} (hk : w.heap[k]? = some o) : w'.heap[k]? = some o := by
  rw [Below.block h k (Array.getElem?_eq_some_iff.1 hk).1]; exact hk
theorem Ext.cell {w w' : World} (h : Ext w w') {p : Addr} {v : Value} (hv : w.cell? p = some v) : w'.cell? p = some v := by
  rw [Below.cell h (World.block_lt_of_cell? w p hv)]; exact hv
theorem Ext.frozen {w w' : World} (h : Ext w w') {p : Addr} {v : Value} (hv : w.cell? p = some v) : w'.frozen? p = w.frozen? p :=
  Below.frozen h (World.block_lt_of_cell? w p hv)
/-- Of two worlds that each keep the first: what lay in the first is kept. -/
theorem Ext.of_alloc (w : World) (o : Obj) : Ext w (w.alloc o) := (Ext.refl w).alloc o

/-- A call's end: it returns, has kept what lay, and Q holds. -/
def Post (w : World) (Q : Value → World → Prop) (e : Ending) (w' : World) : Prop := ∃ v, e = .returned v ∧ Ext w w' ∧ Q v w'

theorem Post.mk {w : World} {Q : Value → World → Prop} {v : Value} {w' : World} (hb : Ext w w') (h : Q v w') : Post w Q (.returned v) w' := ⟨v, rfl, hb, h⟩

/-- The bound of a limb. -/
def B64 : Nat := 18446744073709551616

/-- The slice (a, n, c) reads as the limbs xs. -/
structure Nums (w : World) (a : Option Addr) (n c : Nat) (xs : List Nat) : Prop where
  len : xs.length = n
  few : n ≤ 65536
  cap : n ≤ c
  lt : ∀ x ∈ xs, x < B64
  at_ : n = 0 ∨ ∃ b off, a = some ⟨b, off, none⟩ ∧ ∀ i, i < n → w.cell? ⟨b, off + i, none⟩ = some (.int .u64 ((xs[i]?.getD 0 : Nat) : Int))

theorem Nums.ext {w w' : World} {a : Option Addr} {n c : Nat} {xs : List Nat} (h : Nums w a n c xs) (e : Ext w w') : Nums w' a n c xs :=
  ⟨h.len, h.few, h.cap, h.lt, h.at_.imp id fun ⟨b, off, ha, hc⟩ => ⟨b, off, ha, fun i hi => e.cell (hc i hi)⟩⟩
theorem Nums.nil (w : World) (a : Option Addr) (c : Nat) : Nums w a 0 c [] := ⟨rfl, by omega, by omega, fun _ h => by simp at h, .inl rfl⟩
theorem Nums.bd {w : World} {a : Option Addr} {n c : Nat} {xs : List Nat} (h : Nums w a n c xs) (i : Nat) : xs[i]?.getD 0 < B64 := by
  cases hi : xs[i]? with
  | none => simp [B64]
  | some x => exact h.lt x (List.mem_of_getElem? hi)
theorem Nums.take {w : World} {a : Option Addr} {n c : Nat} {xs : List Nat} (h : Nums w a n c xs) (k c' : Nat) (hk : k ≤ n) (hc' : k ≤ c') : Nums w a k c' (xs.take k) := by
  refine ⟨by simp [h.len]; omega, by have := h.few; omega, hc', fun x hx => h.lt x (List.mem_of_mem_take hx), ?_⟩
  rcases h.at_ with h0 | ⟨b, off, ha, hc⟩
  · exact .inl (by omega)
  · exact .inr ⟨b, off, ha, fun i hi => by rw [hc i (by omega), List.getElem?_take, if_pos hi]⟩
theorem Nums.at {w : World} {a : Option Addr} {n c : Nat} {xs : List Nat} (h : Nums w a n c xs) {i : Nat} (hi : i < n) : ∃ b off, a = some ⟨b, off, none⟩ ∧ w.cell? ⟨b, off + i, none⟩ = some (.int .u64 ((xs[i]?.getD 0 : Nat) : Int)) := by
  rcases h.at_ with h0 | ⟨b, off, ha, hc⟩
  · omega
  · exact ⟨b, off, ha, hc i hi⟩
/-- What a row of the call's own holds reads as limbs. -/
theorem Nums.of_own {w : World} {B e : Nat} {v : Value} {xs : List Nat} (h : w.ownsRow B e 1 v xs.length (xs.map fun (x : Nat) => Value.int .u64 (x : Int))) (hf : xs.length ≤ 65536) (hx : ∀ x ∈ xs, x < B64) :
    ∃ a c, v = .slice a xs.length c ∧ Nums w a xs.length c xs := by
  have h' := h
  obtain ⟨_, h2⟩ := h
  rcases h2 with ⟨rfl, h0⟩ | ⟨g, cap, cur, rfl, hg, hh, hr⟩
  · refine ⟨none, 0, by rw [h0], ⟨rfl, hf, by omega, hx, .inl h0⟩⟩
  · refine ⟨some ⟨g, 0, none⟩, cap, rfl, ⟨rfl, hf, hr.1, hx, .inr ⟨g, 0, rfl, fun i hi => ?_⟩⟩⟩
    have := h'.cells (g := g) rfl i (.int .u64 ((xs[i]?.getD 0 : Nat) : Int)) (by simp [List.getElem?_eq_getElem hi])
    rw [← this]; congr 1; unfold Addr.add; split <;> simp_all

/-- The slice (a, n, c) reads as the cells vs, of so many a limb. -/
def CellsAt (w : World) (a : Option Addr) (vs : List Value) : Prop := vs = [] ∨ ∃ ad, a = some ad ∧ ∀ j u, vs[j]? = some u → w.cell? (ad.add j) = some u

theorem addr_add (b off j : Nat) : (⟨b, off, none⟩ : Addr).add j = ⟨b, off + j, none⟩ := by unfold Addr.add; split <;> simp_all
theorem CellsAt.ext {w w' : World} {a : Option Addr} {vs : List Value} (h : CellsAt w a vs) (e : Ext w w') : CellsAt w' a vs :=
  h.imp id fun ⟨ad, ha, hc⟩ => ⟨ad, ha, fun j u hj => e.cell (hc j u hj)⟩
theorem Nums.cells {w : World} {a : Option Addr} {n c : Nat} {xs : List Nat} (h : Nums w a n c xs) : CellsAt w a (xs.map fun (x : Nat) => Value.int .u64 (x : Int)) := by
  rcases h.at_ with h0 | ⟨b, off, ha, hc⟩
  · left; have := h.len; rw [h0] at this; rw [List.eq_nil_of_length_eq_zero this]; rfl
  · right
    refine ⟨_, ha, fun j u hj => ?_⟩
    rw [List.getElem?_map] at hj
    have hlt : j < xs.length := by
      cases hx : xs[j]? with
      | none => rw [hx] at hj; cases hj
      | some x => exact (List.getElem?_eq_some_iff.1 hx).1
    rw [addr_add, hc j (by have := h.len; omega)]
    rw [List.getElem?_eq_getElem hlt] at hj ⊢
    simpa using hj

theorem run_append_zero {P : Program} (w : World) (base : Nat) (t ty e : TypeId) (i : TypeInfo) (size : Nat) (ht : P.underlying t = some (.slice e)) (hi : P.info? e = some i)
    (v : Value) (n : Nat) (xs : List Value) (hown : w.ownsRow base e size v n xs) (sa : Option Addr) (c : Nat) :
    (Builtin.append_ #[t, t] ty #[v, .slice sa 0 c]).run P w = .ok v w := by
  have hf : (Builtin.firstCells i.size 0 (.slice sa 0 c)).run P w = .ok #[] w := by
    cases sa with
    | none => exact run_firstCells_none (P := P) w i.size 0 0 c
    | some ad => have := run_firstCells_some (P := P) w i.size 0 ad 0 c [] (by simp) (fun j v h => by simp at h); simpa using this
  rcases hown.2 with ⟨rfl, rfl⟩ | ⟨g, cap, cur, rfl, _, _, hnc, _⟩
  · simp [Builtin.append_, run_underlying ht, sizeOf, typeInfo, hi, Builtin.lenOf, hf]
  · simp [Builtin.append_, run_underlying ht, sizeOf, typeInfo, hi, Builtin.lenOf, hf, hnc, storeCells]

/-- append onto a slice of the call's own, from whatever source. -/
theorem wpList_append_cells {P : Program} {w : World} {ops : Array Oper} {rest : List Oper} {o : Oper} {a : Act} {Q : Exit → Act → World → Prop} (hgd : o.guard = none) (s x : Operand) (t : TypeId)
    (ho : o.op = .call { callee := .builtin .append, args := #[s, x], argTypes := #[t, t] })
    (base : Nat) (e : TypeId) (i : TypeInfo) (z : Value) (size bytes : Nat) (ht : P.underlying t = some (.slice e)) (hi : P.info? e = some i) (hz : i.zero = some z)
    (hsize : i.size = size) (hby : i.bytes = bytes) (hzs : z.cells.size = size) (hsz : 0 < size)
    (v : Value) (n : Nat) (xs : List Value) (hs : a.eval s = v) (hown : w.ownsRow base e size v n xs)
    (sa : Option Addr) (m c : Nat) (news : List Value) (hx : a.eval x = .slice sa m c) (hl : news.length = m * size) (hnews : CellsAt w sa news) (h1 : ∀ u ∈ news, u.oneCell' = true)
    (h63 : n + m ≤ maxLen) (hbytes : (n + m) * bytes ≤ 140737488355328) (hbase : base ≤ w.heap.size)
    (h : ∀ v' w', w'.ownsRow base e size v' (n + m) (xs ++ news) → w.grownBy w' v.ownBlock → wpList P ops Q rest (a.put o.dst v') w') : wpList P ops Q (o :: rest) a w := by
  by_cases hm : m = 0
  · subst hm
    have hn : news = [] := List.eq_nil_of_length_eq_zero (by simpa using hl)
    subst hn
    refine wpList_plain hgd fun K hK => ?_
    have hrun := run_append_zero (P := P) w base t o.type e i size ht hi v n xs hown sa c
    unfold Oper.wp
    simp [execOp, ho, resolve, invoke, builtin, hs, hx, hrun, Result.andThen]
    exact hK _ _ (h v w (by simpa using hown) ⟨rfl, rfl, rfl, Nat.le_refl _, fun _ _ _ => rfl⟩)
  · rcases hnews with hn | ⟨ad, rfl, hc⟩
    · rw [hn] at hl
      have : 0 < m * size := Nat.mul_pos (by omega) hsz
      simp at hl; omega
    · exact wpList_append_own w hgd s x t ho base e i z size bytes ht hi hz hsize hby hzs hsz v n xs hs hown ad m c news hx hl hc h1 h63 hbytes hbase (fun v' w' a b _ => h v' w' a b)
theorem own_block {w : World} {base e size n : Nat} {v : Value} {xs : List Value} (h : w.ownsRow base e size v n xs) : ∀ k, v.ownBlock = some k → base ≤ k := fun k hk => (h.lt k hk).1
/-- The same, with what lay before the call in sight. -/
theorem wpList_app {P : Program} {w : World} {ops : Array Oper} {rest : List Oper} {o : Oper} {a : Act} {Q : Exit → Act → World → Prop} (w0 : World) (hw : Ext w0 w) (hgd : o.guard = none) (s x : Operand) (t : TypeId)
    (ho : o.op = .call { callee := .builtin .append, args := #[s, x], argTypes := #[t, t] })
    (e : TypeId) (i : TypeInfo) (z : Value) (size bytes : Nat) (ht : P.underlying t = some (.slice e)) (hi : P.info? e = some i) (hz : i.zero = some z)
    (hsize : i.size = size) (hby : i.bytes = bytes) (hzs : z.cells.size = size) (hsz : 0 < size)
    (v : Value) (n : Nat) (xs : List Value) (hs : a.eval s = v) (hown : w.ownsRow w0.heap.size e size v n xs)
    (sa : Option Addr) (m c : Nat) (news : List Value) (hx : a.eval x = .slice sa m c) (hl : news.length = m * size) (hnews : CellsAt w sa news) (h1 : ∀ u ∈ news, u.oneCell' = true)
    (hbytes : (n + m) * bytes ≤ 140737488355328) (h63 : n + m ≤ 140737488355328)
    (h : ∀ v' w', w'.ownsRow w0.heap.size e size v' (n + m) (xs ++ news) → Ext w0 w' → w.grownBy w' v.ownBlock → wpList P ops Q rest (a.put o.dst v') w') : wpList P ops Q (o :: rest) a w :=
  wpList_append_cells hgd s x t ho w0.heap.size e i z size bytes ht hi hz hsize hby hzs hsz v n xs hs hown sa m c news hx hl hnews h1 (by unfold maxLen; omega) hbytes hw.size
    fun v' w' h2 h3 => h v' w' h2 (hw.grown h3 (own_block hown)) h3
theorem oneCell_u64 (xs : List Nat) : ∀ u ∈ (xs.map fun (x : Nat) => Value.int .u64 (x : Int)), u.oneCell' = true := by
  intro u hu
  obtain ⟨x, _, rfl⟩ := List.mem_map.1 hu
  rfl
end Go.Proofs.Ytgihjgkpmochcaa

namespace Go.Proofs.Ytgihjgkpmochcaa

theorem B64_pos : 0 < B64 := by unfold B64; omega
theorem B64_one : 1 < B64 := by unfold B64; omega

/-- What limbs come to. -/
def val : List Nat → Nat
  | [] => 0
  | x :: xs => x + B64 * val xs

/-- The limbs of a number, normal. -/
def limbs (n : Nat) : List Nat := if _h : n = 0 then [] else n % B64 :: limbs (n / B64)
termination_by n
decreasing_by exact Nat.div_lt_self (by omega) B64_one

theorem limbs_zero : limbs 0 = [] := by rw [limbs]; simp
theorem limbs_pos {n : Nat} (h : n ≠ 0) : limbs n = n % B64 :: limbs (n / B64) := by rw [limbs, dif_neg h]
theorem val_limbs (n : Nat) : val (limbs n) = n := by
  induction n using Nat.strongRecOn with
  | _ n ih =>
    by_cases h : n = 0
    · subst h; rw [limbs_zero]; rfl
    · rw [limbs_pos h, val, ih _ (Nat.div_lt_self (by omega) B64_one)]
      exact Nat.mod_add_div n B64
theorem lt_limbs (n : Nat) : ∀ x ∈ limbs n, x < B64 := by
  induction n using Nat.strongRecOn with
  | _ n ih =>
    by_cases h : n = 0
    · subst h; rw [limbs_zero]; intro x hx; simp at hx
    · rw [limbs_pos h]
      intro x hx
      rcases List.mem_cons.1 hx with rfl | hx
      · exact Nat.mod_lt _ B64_pos
      · exact ih _ (Nat.div_lt_self (by omega) B64_one) x hx
theorem limbs_eq_nil {n : Nat} : limbs n = [] ↔ n = 0 := by
  constructor
  · intro h; have := val_limbs n; rw [h] at this; exact this.symm
  · rintro rfl; exact limbs_zero
theorem limbs_inj {m n : Nat} (h : limbs m = limbs n) : m = n := by rw [← val_limbs m, h, val_limbs]

theorem val_append (xs ys : List Nat) : val (xs ++ ys) = val xs + B64 ^ xs.length * val ys := by
  induction xs with
  | nil => simp [val]
  | cons x xs ih => rw [List.cons_append, val, val, ih, List.length_cons, Nat.pow_succ, Nat.mul_add, Nat.add_assoc]; congr 2; rw [← Nat.mul_assoc, Nat.mul_comm B64]
theorem val_zeros (k : Nat) : val (List.replicate k 0) = 0 := by
  induction k with
  | zero => rfl
  | succ k ih => rw [List.replicate_succ, val, ih]; simp
theorem val_lt {xs : List Nat} (h : ∀ x ∈ xs, x < B64) : val xs < B64 ^ xs.length := by
  induction xs with
  | nil => simp [val]
  | cons x xs ih =>
    have h1 := h x (by simp)
    have h2 := ih fun y hy => h y (by simp [hy])
    rw [val, List.length_cons, Nat.pow_succ]
    have : B64 * (val xs + 1) ≤ B64 * B64 ^ xs.length := Nat.mul_le_mul_left _ h2
    rw [Nat.mul_comm (B64 ^ xs.length)]
    rw [Nat.mul_add] at this
    omega

/-- Limbs whose last one is not 0 are normal. -/
theorem limbs_val {xs : List Nat} (h : ∀ x ∈ xs, x < B64) (hl : xs = [] ∨ xs.getLast?.getD 0 ≠ 0) : limbs (val xs) = xs := by
  induction xs with
  | nil => exact limbs_zero
  | cons x xs ih =>
    have hx := h x (by simp)
    have ht : ∀ y ∈ xs, y < B64 := fun y hy => h y (by simp [hy])
    have hpos : val (x :: xs) ≠ 0 := by
      intro h0
      rw [val] at h0
      have hx0 : x = 0 := by omega
      have hv : val xs = 0 := by
        have : B64 * val xs = 0 := by omega
        rcases Nat.mul_eq_zero.1 this with h | h
        · exact absurd h (by have := B64_pos; omega)
        · exact h
      rcases hl with hl | hl
      · cases hl
      · cases xs with
        | nil => simp at hl; exact hl hx0
        | cons y ys =>
          have := ih ht (.inr (by simpa using hl))
          rw [hv, limbs_zero] at this
          cases this
    rw [limbs_pos hpos]
    have e1 : val (x :: xs) % B64 = x := by rw [val, Nat.add_mul_mod_self_left, Nat.mod_eq_of_lt hx]
    have e2 : val (x :: xs) / B64 = val xs := by
      rw [val, Nat.add_mul_div_left _ _ B64_pos, Nat.div_eq_of_lt hx, Nat.zero_add]
    rw [e1, e2]
    cases xs with
    | nil => rw [val, limbs_zero]
    | cons y ys => rw [ih ht (.inr (by rcases hl with hl | hl; · cases hl
                                       · simpa using hl))]

theorem val_take_drop (xs : List Nat) (k : Nat) (hk : k ≤ xs.length) : val xs = val (xs.take k) + B64 ^ k * val (xs.drop k) := by
  have := val_append (xs.take k) (xs.drop k)
  rw [List.take_append_drop, List.length_take, Nat.min_eq_left hk] at this
  exact this
/-- Zeros on top say nothing. -/
theorem val_take_of_zeros {xs : List Nat} {k : Nat} (hk : k ≤ xs.length) (h : ∀ i, k ≤ i → xs[i]?.getD 0 = 0) : val (xs.take k) = val xs := by
  have e : xs.drop k = List.replicate (xs.length - k) 0 := by
    apply List.ext_getElem
    · simp
    · intro i h1 h2
      have := h (k + i) (by omega)
      simp only [List.length_drop] at h1
      rw [List.getElem?_eq_getElem (by omega)] at this
      simpa using this
  rw [val_take_drop xs k hk, e, val_zeros]; simp
/-- What is left of limbs without zeros on top is normal. -/
theorem take_normal {xs : List Nat} {k : Nat} (hk : k ≤ xs.length) (hx : ∀ x ∈ xs, x < B64) (h : ∀ i, k ≤ i → xs[i]?.getD 0 = 0) (hn : k = 0 ∨ xs[k - 1]?.getD 0 ≠ 0) : xs.take k = limbs (val xs) := by
  rw [← val_take_of_zeros hk h]
  refine (limbs_val (fun x hx' => hx x (List.mem_of_mem_take hx')) ?_).symm
  rcases hn with rfl | hn
  · exact .inl rfl
  · by_cases h0 : k = 0
    · subst h0; exact .inl rfl
    · right
      rw [List.getLast?_eq_getElem?, List.length_take, Nat.min_eq_left hk, List.getElem?_take, if_pos (by omega)]
      exact hn
theorem length_limbs_le {n k : Nat} (h : n < B64 ^ k) : (limbs n).length ≤ k := by
  induction k generalizing n with
  | zero => have : n = 0 := by simpa using h
            subst this; rw [limbs_zero]; simp
  | succ k ih =>
    by_cases h0 : n = 0
    · subst h0; rw [limbs_zero]; simp
    · rw [limbs_pos h0, List.length_cons]
      have := ih (n := n / B64) (Nat.div_lt_of_lt_mul (by rw [Nat.mul_comm, ← Nat.pow_succ]; exact h))
      omega
theorem lt_of_length_limbs {n k : Nat} (h : (limbs n).length ≤ k) : n < B64 ^ k := by
  have := val_lt (lt_limbs n)
  rw [val_limbs] at this
  exact Nat.lt_of_lt_of_le this (Nat.pow_le_pow_right B64_pos h)

/-- Numbers of k limbs lie below. -/
def topOf (k : Nat) : Nat := B64 ^ k
theorem topOf_iff (n k : Nat) : (limbs n).length ≤ k ↔ n < topOf k := ⟨lt_of_length_limbs, length_limbs_le⟩
/-- Numbers from here on are too long. -/
def Top : Nat := topOf 2048
theorem fits_iff (n : Nat) : (limbs n).length ≤ 2048 ↔ n < Top := topOf_iff n 2048
attribute [irreducible] Top topOf
end Go.Proofs.Ytgihjgkpmochcaa

namespace Go.Proofs.Ytgihjgkpmochcaa

theorem snoc_ind {α : Type} {p : List α → Prop} (h0 : p []) (h1 : ∀ l a, p l → p (l ++ [a])) (l : List α) : p l := by
  have : ∀ r : List α, p r.reverse := by
    intro r
    induction r with
    | nil => exact h0
    | cons a r ih => rw [List.reverse_cons]; exact h1 _ _ ih
  have h := this l.reverse
  rwa [List.reverse_reverse] at h

/-- What the first k limbs come to. -/
def pv (xs : List Nat) : Nat → Nat
  | 0 => 0
  | k + 1 => pv xs k + B64 ^ k * xs[k]?.getD 0
theorem getD_lt {xs : List Nat} (h : ∀ x ∈ xs, x < B64) (k : Nat) : xs[k]?.getD 0 < B64 := by
  cases hi : xs[k]? with
  | none => simp [B64]
  | some x => exact h x (List.mem_of_getElem? hi)
theorem pv_lt {xs : List Nat} (h : ∀ x ∈ xs, x < B64) (k : Nat) : pv xs k < B64 ^ k := by
  induction k with
  | zero => simp [pv]
  | succ k ih =>
    have hb := getD_lt h k
    have : B64 ^ k * (xs[k]?.getD 0 + 1) ≤ B64 ^ k * B64 := Nat.mul_le_mul_left _ hb
    rw [pv, Nat.pow_succ]
    rw [Nat.mul_add] at this
    omega
theorem pv_take (xs : List Nat) (k : Nat) (hk : k ≤ xs.length) : pv xs k = val (xs.take k) := by
  induction k with
  | zero => simp [pv, val]
  | succ k ih =>
    rw [pv, ih (by omega), List.take_add_one, val_append, List.length_take, Nat.min_eq_left (by omega), List.getElem?_eq_getElem (by omega)]
    simp [val]
theorem pv_add (xs : List Nat) (k : Nat) (hk : xs.length ≤ k) : pv xs k = val xs := by
  induction k with
  | zero => have : xs = [] := List.eq_nil_of_length_eq_zero (by omega)
            subst this; rfl
  | succ k ih =>
    by_cases h : xs.length ≤ k
    · rw [pv, ih h, List.getElem?_eq_none h]; simp
    · have : k + 1 = xs.length := by omega
      rw [pv_take xs (k + 1) (by omega), this, List.take_length]
theorem pow_pos' (k : Nat) : 0 < B64 ^ k := Nat.pow_pos B64_pos

/-- Holding numbers against each other, from below. -/
def cmpL (l : List (Nat × Nat)) : Int := l.foldl (fun o p => if p.1 < p.2 then -1 else if p.2 < p.1 then 1 else o) 0
def cmpN (x y : Nat) : Int := if x < y then -1 else if y < x then 1 else 0
theorem cmpL_snoc (l : List (Nat × Nat)) (p : Nat × Nat) : cmpL (l ++ [p]) = if p.1 < p.2 then -1 else if p.2 < p.1 then 1 else cmpL l := by simp [cmpL]
def prs (xs ys : List Nat) (k : Nat) : List (Nat × Nat) := (List.range k).map fun i => (xs[i]?.getD 0, ys[i]?.getD 0)
theorem prs_succ (xs ys : List Nat) (k : Nat) : prs xs ys (k + 1) = prs xs ys k ++ [(xs[k]?.getD 0, ys[k]?.getD 0)] := by simp [prs, List.range_succ]
theorem length_prs (xs ys : List Nat) (k : Nat) : (prs xs ys k).length = k := by simp [prs]
theorem mul_lt_add {B x y u v : Nat} (hu : u < B) (h : x < y) : u + B * x < v + B * y := by
  have : B * (x + 1) ≤ B * y := Nat.mul_le_mul_left _ h
  rw [Nat.mul_add] at this
  omega
theorem cmpL_prs {xs ys : List Nat} (hx : ∀ x ∈ xs, x < B64) (hy : ∀ y ∈ ys, y < B64) (k : Nat) : cmpL (prs xs ys k) = cmpN (pv xs k) (pv ys k) := by
  induction k with
  | zero => rfl
  | succ k ih =>
    rw [prs_succ, cmpL_snoc, ih]
    have h1 := pv_lt hx k
    have h2 := pv_lt hy k
    unfold cmpN
    simp only [pv]
    by_cases a : xs[k]?.getD 0 < ys[k]?.getD 0
    · have := mul_lt_add (v := pv ys k) h1 a
      simp [a, this]
    · by_cases b : ys[k]?.getD 0 < xs[k]?.getD 0
      · have := mul_lt_add (v := pv xs k) h2 b
        have h3 : ¬ (pv xs k + B64 ^ k * xs[k]?.getD 0 < pv ys k + B64 ^ k * ys[k]?.getD 0) := by omega
        simp [a, b, this, h3]
      · have e : xs[k]?.getD 0 = ys[k]?.getD 0 := by omega
        simp [e]
theorem cmpL_val {xs ys : List Nat} (hx : ∀ x ∈ xs, x < B64) (hy : ∀ y ∈ ys, y < B64) (k : Nat) (h1 : xs.length ≤ k) (h2 : ys.length ≤ k) : cmpL (prs xs ys k) = cmpN (val xs) (val ys) := by
  rw [cmpL_prs hx hy, pv_add _ _ h1, pv_add _ _ h2]

/-- Adding, from below: the limbs told, and the carry. -/
def addL (l : List (Nat × Nat)) : List Nat × Nat := l.foldl (fun s p => (s.1 ++ [(p.1 + p.2 + s.2) % B64], (p.1 + p.2 + s.2) / B64)) ([], 0)
theorem addL_snoc (l : List (Nat × Nat)) (p : Nat × Nat) : addL (l ++ [p]) = ((addL l).1 ++ [(p.1 + p.2 + (addL l).2) % B64], (p.1 + p.2 + (addL l).2) / B64) := by simp [addL]
theorem addL_ok (l : List (Nat × Nat)) (h : ∀ p ∈ l, p.1 < B64 ∧ p.2 < B64) : (addL l).1.length = l.length ∧ (addL l).2 ≤ 1 ∧ ∀ x ∈ (addL l).1, x < B64 := by
  induction l using snoc_ind with
  | h0 => simp [addL]
  | h1 l p ih =>
    obtain ⟨h1, h2, h3⟩ := ih fun q hq => h q (by simp [hq])
    obtain ⟨h4, h5⟩ := h p (by simp)
    rw [addL_snoc]
    refine ⟨by simp [h1], ?_, ?_⟩
    · have : (p.1 + p.2 + (addL l).2) / B64 < 2 := Nat.div_lt_of_lt_mul (by omega)
      show _ / B64 ≤ 1
      omega
    · intro x hx
      rcases List.mem_append.1 hx with hx | hx
      · exact h3 x hx
      · rw [List.mem_singleton.1 hx]; exact Nat.mod_lt _ B64_pos
theorem addL_prs (xs ys : List Nat) (k : Nat) : val (addL (prs xs ys k)).1 + B64 ^ k * (addL (prs xs ys k)).2 = pv xs k + pv ys k ∧ (addL (prs xs ys k)).1.length = k := by
  induction k with
  | zero => simp [prs, addL, val, pv]
  | succ k ih =>
    obtain ⟨e, hl⟩ := ih
    rw [prs_succ, addL_snoc]
    refine ⟨?_, by simp [hl]⟩
    show val (_ ++ [_]) + _ * _ = _
    rw [val_append, hl]
    simp only [val, Nat.mul_zero, Nat.add_zero, pv]
    generalize xs[k]?.getD 0 = x at *
    generalize ys[k]?.getD 0 = y at *
    generalize (addL (prs xs ys k)).2 = c at *
    have h1 := Nat.mod_add_div (x + y + c) B64
    have h2 : B64 ^ k * ((x + y + c) % B64) + B64 ^ (k + 1) * ((x + y + c) / B64) = B64 ^ k * (x + y + c) := by
      conv => rhs; rw [← h1]
      rw [Nat.pow_succ, Nat.mul_assoc, ← Nat.mul_add]
    rw [Nat.mul_add, Nat.mul_add] at h2
    omega

theorem sub_key (B x y c : Nat) (hx : x < B) (hy : y < B) (hc : c ≤ 1) : (x + 2 * B - y - c) % B + y + c = x + B * (if x < y + c then 1 else 0) := by
  split
  · have : x + 2 * B - y - c = (x + B - y - c) + B := by omega
    rw [this, Nat.add_mod_right, Nat.mod_eq_of_lt (by omega)]
    omega
  · have : x + 2 * B - y - c = (x - y - c) + B + B := by omega
    rw [this, Nat.add_mod_right, Nat.add_mod_right, Nat.mod_eq_of_lt (by omega)]
    omega
theorem sub_step (B k v p q x y c r t : Nat) (key : r + y + c = x + B * t) (e : v + p = q + B ^ k * c) : v + B ^ k * r + (p + B ^ k * y) = q + B ^ k * x + B ^ (k + 1) * t := by
  have h2 := congrArg (B ^ k * ·) key
  simp only [Nat.mul_add, ← Nat.mul_assoc, ← Nat.pow_succ, Nat.succ_eq_add_one] at h2
  omega
/-- A limb less another one, and the borrow. -/
def difOf (B x y c : Nat) : Nat := (x + 2 * B - y - c) % B
def borOf (x y c : Nat) : Nat := if x < y + c then 1 else 0
theorem borOf_le (x y c : Nat) : borOf x y c ≤ 1 := by unfold borOf; split <;> omega
theorem difOf_lt {B : Nat} (hB : 0 < B) (x y c : Nat) : difOf B x y c < B := Nat.mod_lt _ hB
theorem difOf_key (B x y c : Nat) (hx : x < B) (hy : y < B) (hc : c ≤ 1) : difOf B x y c + y + c = x + B * borOf x y c := sub_key B x y c hx hy hc

/-- Subtracting, from below. -/
def subS (s : List Nat × Nat) (p : Nat × Nat) : List Nat × Nat := (s.1 ++ [difOf B64 p.1 p.2 s.2], borOf p.1 p.2 s.2)
def subL (l : List (Nat × Nat)) : List Nat × Nat := l.foldl subS ([], 0)
theorem subL_snoc (l : List (Nat × Nat)) (p : Nat × Nat) : subL (l ++ [p]) = subS (subL l) p := by rw [subL, List.foldl_append]; rfl
theorem subL_ok (l : List (Nat × Nat)) : (subL l).1.length = l.length ∧ (subL l).2 ≤ 1 ∧ ∀ x ∈ (subL l).1, x < B64 := by
  induction l using snoc_ind with
  | h0 => simp [subL]
  | h1 l p ih =>
    obtain ⟨h1, h2, h3⟩ := ih
    rw [subL_snoc]
    unfold subS
    refine ⟨by simp [h1], borOf_le _ _ _, ?_⟩
    · intro x hx
      rcases List.mem_append.1 hx with hx | hx
      · exact h3 x hx
      · rw [List.mem_singleton.1 hx]; exact difOf_lt B64_pos _ _ _
theorem subL_prs {xs ys : List Nat} (hx : ∀ x ∈ xs, x < B64) (hy : ∀ y ∈ ys, y < B64) (k : Nat) : val (subL (prs xs ys k)).1 + pv ys k = pv xs k + B64 ^ k * (subL (prs xs ys k)).2 ∧ (subL (prs xs ys k)).1.length = k := by
  induction k with
  | zero => exact ⟨rfl, rfl⟩
  | succ k ih =>
    obtain ⟨e, hl⟩ := ih
    have hc := (subL_ok (prs xs ys k)).2.1
    have hx' := getD_lt hx k
    have hy' := getD_lt hy k
    rw [prs_succ, subL_snoc]
    unfold subS
    dsimp only
    rw [val_append, hl]
    refine ⟨?_, by simp [hl]⟩
    rw [val, val, Nat.mul_zero, Nat.add_zero, pv, pv]
    exact sub_step B64 k _ _ _ _ _ _ _ _ (difOf_key B64 _ _ _ hx' hy' hc) e
theorem sub_end (P v y x c : Nat) (hv : v < P) (e : v + y = x + P * c) (hle : y ≤ x) (hc : c ≤ 1) : v = x - y := by
  have : c = 0 ∨ c = 1 := by omega
  rcases this with rfl | rfl
  · omega
  · rw [Nat.mul_one] at e; omega
theorem subL_val {xs ys : List Nat} (hx : ∀ x ∈ xs, x < B64) (hy : ∀ y ∈ ys, y < B64) (k : Nat) (h1 : xs.length ≤ k) (h2 : ys.length ≤ k) (hle : val ys ≤ val xs) : val (subL (prs xs ys k)).1 = val xs - val ys := by
  obtain ⟨e, hl⟩ := subL_prs hx hy k
  obtain ⟨_, hc, hlt⟩ := subL_ok (prs xs ys k)
  rw [pv_add _ _ h1, pv_add _ _ h2] at e
  have hv := val_lt hlt
  rw [hl] at hv
  exact sub_end _ _ _ _ _ hv e hle hc
theorem addL_val {xs ys : List Nat} (k : Nat) (h1 : xs.length ≤ k) (h2 : ys.length ≤ k) : val ((addL (prs xs ys k)).1 ++ [(addL (prs xs ys k)).2]) = val xs + val ys := by
  obtain ⟨e, hl⟩ := addL_prs xs ys k
  rw [pv_add _ _ h1, pv_add _ _ h2] at e
  rw [val_append, hl, val, val, Nat.mul_zero, Nat.add_zero]
  exact e
end Go.Proofs.Ytgihjgkpmochcaa

namespace Go.Proofs.Ytgihjgkpmochcaa

/-- How many bits a number has. -/
def blen (n : Nat) : Nat := if n = 0 then 0 else Nat.log2 n + 1
theorem blen_iff (n k : Nat) : n < 2 ^ k ↔ blen n ≤ k := by
  unfold blen
  split
  · rename_i h; subst h; simp [Nat.two_pow_pos]
  · rename_i h; rw [← Nat.log2_lt h]; omega
theorem lt_blen (n : Nat) : n < 2 ^ blen n := (blen_iff n _).2 (Nat.le_refl _)
theorem blen_zero : blen 0 = 0 := by simp [blen]
theorem blen_le_of {n k : Nat} (h : 2 ^ k ≤ n) : k < blen n := by
  by_cases h' : blen n ≤ k
  · have := (blen_iff n k).2 h'; omega
  · omega
theorem blen_eq {n k : Nat} (h1 : 2 ^ k ≤ n) (h2 : n < 2 ^ (k + 1)) : blen n = k + 1 := by
  have a := blen_le_of h1
  have b := (blen_iff n (k + 1)).1 h2
  omega
theorem pow_blen {n : Nat} (h : n ≠ 0) : 2 ^ (blen n - 1) ≤ n := by
  have h1 : ¬ blen n ≤ blen n - 1 := by
    have : 0 < blen n := by
      have := lt_blen n
      by_cases h0 : blen n = 0
      · rw [h0] at this; simp at this; omega
      · omega
    omega
  have := mt (blen_iff n (blen n - 1)).1 h1
  omega
theorem bitLen_blen (x : Nat) (hx : x < B64) : Lib.bitLen x = blen x := by
  by_cases h : x = 0
  · subst h; rw [blen_zero]; rfl
  · have hx' : x < 2 ^ 64 := hx
    obtain ⟨h1, h2, h3⟩ := Lib.bitLenAux_bounds 64 x hx' h
    have e : Lib.bitLen x = Lib.bitLenAux 64 x := rfl
    rw [e]
    have := blen_eq (n := x) (k := Lib.bitLenAux 64 x - 1) h2 (by rw [show Lib.bitLenAux 64 x - 1 + 1 = Lib.bitLenAux 64 x by omega]; exact h3)
    omega
theorem B64_two : B64 = 2 ^ 64 := rfl
theorem B64_pow (k : Nat) : B64 ^ k = 2 ^ (64 * k) := by rw [B64_two, ← Nat.pow_mul]
theorem blen_mul_add {x n k : Nat} (hx : x < 2 ^ k) (hn : n ≠ 0) : blen (x + 2 ^ k * n) = k + blen n := by
  have h1 := pow_blen hn
  have h2 := lt_blen n
  have hb : 0 < blen n := by
    by_cases h0 : blen n = 0
    · rw [h0] at h2; simp at h2; omega
    · omega
  have := blen_eq (n := x + 2 ^ k * n) (k := k + blen n - 1) (by
    rw [show k + blen n - 1 = k + (blen n - 1) by omega, Nat.pow_add]
    exact Nat.le_trans (Nat.mul_le_mul_left _ h1) (Nat.le_add_left _ _)) (by
    rw [show k + blen n - 1 + 1 = k + blen n by omega, Nat.pow_add]
    have : 2 ^ k * (n + 1) ≤ 2 ^ k * 2 ^ blen n := Nat.mul_le_mul_left _ h2
    rw [Nat.mul_add] at this
    omega)
  omega
/-- Of normal limbs: 64 for each but the last one. -/
theorem blen_snoc (xs : List Nat) (t : Nat) (hx : ∀ x ∈ xs, x < B64) (ht : t ≠ 0) : blen (val (xs ++ [t])) = 64 * xs.length + blen t := by
  rw [val_append]
  have h := val_lt hx
  rw [B64_pow] at h ⊢
  rw [val, val, Nat.mul_zero, Nat.add_zero]
  exact blen_mul_add h ht
/-- Normal limbs have a last one that is not 0. -/
theorem limbs_last {n : Nat} (h : n ≠ 0) : ∃ xs t, limbs n = xs ++ [t] ∧ t ≠ 0 ∧ t < B64 ∧ (∀ x ∈ xs, x < B64) := by
  have hl : limbs n ≠ [] := fun e => h (limbs_eq_nil.1 e)
  obtain ⟨xs, t, e⟩ : ∃ xs t, limbs n = xs ++ [t] := ⟨_, _, (List.dropLast_concat_getLast hl).symm⟩
  have hlt := lt_limbs n
  refine ⟨xs, t, e, ?_, hlt t (by rw [e]; simp), fun x hx => hlt x (by rw [e]; simp [hx])⟩
  intro ht
  subst ht
  have hv := val_limbs n
  rw [e, val_append, val, val, Nat.mul_zero, Nat.add_zero, Nat.mul_zero, Nat.add_zero] at hv
  have h1 := val_lt (xs := xs) fun x hx => hlt x (by rw [e]; simp [hx])
  rw [hv] at h1
  have h2 := length_limbs_le h1
  rw [e] at h2
  simp at h2
  omega
theorem blen_limbs {n : Nat} (h : n ≠ 0) : blen n = 64 * ((limbs n).length - 1) + blen ((limbs n)[(limbs n).length - 1]?.getD 0) := by
  obtain ⟨xs, t, e, h0, h1, h2⟩ := limbs_last h
  have hv := val_limbs n
  conv => lhs; rw [← hv, e]
  rw [blen_snoc xs t h2 h0, e]
  simp
theorem length_limbs_pos {n : Nat} (h : n ≠ 0) : 0 < (limbs n).length := by
  cases e : limbs n with
  | nil => exact absurd (limbs_eq_nil.1 e) h
  | cons _ _ => simp
end Go.Proofs.Ytgihjgkpmochcaa

namespace Go.Proofs.Ytgihjgkpmochcaa
set_option linter.unusedVariables false
open Go.RowKit

/-- Limbs as cells. -/
def lims (l : List Nat) : List Value := l.map fun (x : Nat) => Value.int .u64 (x : Int)
theorem lims_snoc (l : List Nat) (x : Nat) : lims (l ++ [x]) = lims l ++ [Value.int .u64 (x : Int)] := by simp [lims]
theorem length_lims (l : List Nat) : (lims l).length = l.length := by simp [lims]

/-- Block b holds the limbs L, and may be written. -/
def Row (w : World) (b T : Nat) (L : List Nat) : Prop := w.heap[b]? = some (.cells (lims L).toArray T (0, 0))
theorem Row.lt {w : World} {b T : Nat} {L : List Nat} (h : Row w b T L) : b < w.heap.size := (Array.getElem?_eq_some_iff.1 h).1
theorem Row.cell {w : World} {b T : Nat} {L : List Nat} (h : Row w b T L) {i : Nat} (hi : i < L.length) : w.cell? ⟨b, i, none⟩ = some (.int .u64 ((L[i]?.getD 0 : Nat) : Int)) := by
  simp [World.cell?, show w.heap[b]? = _ from h, lims, hi]
theorem Row.frozen {w : World} {b T : Nat} {L : List Nat} (h : Row w b T L) (i : Nat) : w.frozen? ⟨b, i, none⟩ = false := by simp [World.frozen?, show w.heap[b]? = _ from h]
theorem Row.set {w : World} {b T : Nat} {L : List Nat} (h : Row w b T L) (i x : Nat) : Row (w.setCell ⟨b, i, none⟩ (.int .u64 (x : Int))) b T (L.set i x) := by
  obtain ⟨hlt, hk⟩ := Array.getElem?_eq_some_iff.1 h
  show (w.heap.modify b _)[b]? = _
  rw [Array.getElem?_eq_getElem (by rw [Array.size_modify]; exact hlt), Array.getElem_modify_self, hk]
  simp [lims]
theorem Row.other {w : World} {b T : Nat} {L : List Nat} (h : Row w b T L) {p : Addr} (hp : p.block ≠ b) (v : Value) : Row (w.setCell p v) b T L :=
  (Below.heap_setCell w p v b (Ne.symm hp)).trans h
theorem Row.ext {w w' : World} {b T : Nat} {L : List Nat} (h : Row w b T L) (e : Ext w w') : Row w' b T L := e.block h
theorem Row.drewN {w : World} {b T : Nat} {L : List Nat} (h : Row w b T L) (q : Nat) : Row (w.drewN q) b T L := h
theorem Row.nums {w : World} {b T c : Nat} {L : List Nat} (h : Row w b T L) (hf : L.length ≤ 65536) (hc : L.length ≤ c) (hx : ∀ x ∈ L, x < B64) : Nums w (some ⟨b, 0, none⟩) L.length c L :=
  ⟨rfl, hf, hc, hx, .inr ⟨b, 0, rfl, fun i hi => by rw [Nat.zero_add]; exact h.cell hi⟩⟩
theorem madeCells_lims (n : Nat) : madeCells #[Value.int .u64 0] n = (lims (List.replicate n 0)).toArray := by
  apply Array.ext
  · simp [madeCells, lims]
  · intro i h1 h2
    simp [madeCells, lims, Nat.mod_one]

/-- make of limbs. -/
theorem wpList_make_row {P : Program} (w : World) {ops : Array Oper} {rest : List Oper} {o : Oper} {a : Act} {Q : Exit → Act → World → Prop}
    (hg : o.guard = none) (l c : Operand) (t : TypeId) (hop : o.op = Op.makeSlice t l c)
    (e : TypeId) (i : TypeInfo) (h1 : P.underlying t = some (.slice e)) (h2 : P.info? e = some i) (h3 : i.zero = some (.int .u64 0)) (h4 : i.size = 1) (h5 : i.bytes = 8)
    (kl kc : IntKind) (L C : Int) (n : Nat) (hl : a.eval l = .int kl L) (hc : a.eval c = .int kc C) (hL : L = (n : Int)) (hC : C = (n : Int)) (hn : n ≤ 1000000)
    (hK : ∀ w', Row w' w.heap.size e (List.replicate n 0) → Ext w w' → w'.heap.size = w.heap.size + 1 → wpList P ops Q rest (a.put o.dst (.slice (some ⟨w.heap.size, 0, none⟩) n n)) w') :
    wpList P ops Q (o :: rest) a w := by
  refine wpList_plain hg fun K hK' => ?_
  have hrun := run_make (P := P) w t e i _ h1 h2 h3 kl kc (n : Int) (n : Int) (by omega) (Int.le_refl _) (by rw [h5]; omega) (by omega)
  subst hL
  subst hC
  unfold Oper.wp
  simp [execOp, hop, hl, hc, hrun, Result.andThen]
  refine hK' _ _ (hK _ ?_ (Ext.of_alloc _ _) (by simp))
  rw [h4, Nat.mul_one]
  show (w.alloc (.cells (madeCells (Value.cells (.int .u64 0)) n) e)).heap[w.heap.size]? = _
  rw [show Value.cells (.int .u64 0) = #[Value.int .u64 0] from rfl, madeCells_lims]
  exact heap_alloc_new w _

/-- What a turned limb does. -/
theorem val_set (L : List Nat) (i x : Nat) (hi : i < L.length) : val (L.set i x) + B64 ^ i * L[i]?.getD 0 = val L + B64 ^ i * x := by
  induction L generalizing i with
  | nil => simp at hi
  | cons y L ih =>
    cases i with
    | zero => simp [val]; omega
    | succ i =>
      have := ih i (by simpa using hi)
      rw [List.set_cons_succ, val, val, List.getElem?_cons_succ, Nat.pow_succ]
      have h2 := congrArg (B64 * ·) this
      simp only [Nat.mul_add] at h2
      rw [Nat.mul_comm (B64 ^ i) B64, Nat.mul_assoc, Nat.mul_assoc]
      omega
theorem getD_set (L : List Nat) (i j x : Nat) : (L.set i x)[j]?.getD 0 = if i = j ∧ i < L.length then x else L[j]?.getD 0 := by
  rw [List.getElem?_set]
  by_cases h : i = j
  · subst h
    by_cases h2 : i < L.length
    · simp [h2]
    · simp [h2]
  · simp [h]
theorem lt_set {L : List Nat} {x : Nat} (h : ∀ y ∈ L, y < B64) (hx : x < B64) (i : Nat) : ∀ y ∈ L.set i x, y < B64 := by
  intro y hy
  rcases List.mem_or_eq_of_mem_set hy with hy | rfl
  · exact h y hy
  · exact hx
theorem getD_replicate (n i : Nat) : (List.replicate n 0)[i]?.getD 0 = 0 := by
  rw [List.getElem?_replicate]; split <;> rfl

/-! Shifts -/
theorem or_low (y z k : Nat) (hy : y < 2 ^ k) : y ||| (2 ^ k * z) = y + 2 ^ k * z := by
  rw [Nat.or_comm, ← Nat.two_pow_add_eq_or_of_lt hy, Nat.add_comm]
theorem mod_shift (x k : Nat) (hk : k ≤ 64) : x * 2 ^ k % 2 ^ 64 = 2 ^ k * (x % 2 ^ (64 - k)) := by
  have : (2 : Nat) ^ 64 = 2 ^ k * 2 ^ (64 - k) := by rw [← Nat.pow_add]; congr 1; omega
  rw [this, Nat.mul_comm x, Nat.mul_mod_mul_left]
theorem div_shift (x k : Nat) (hk : k ≤ 64) : x * 2 ^ k / 2 ^ 64 = x / 2 ^ (64 - k) := by
  have : (2 : Nat) ^ 64 = 2 ^ k * 2 ^ (64 - k) := by rw [← Nat.pow_add]; congr 1; omega
  rw [this, Nat.mul_comm x, Nat.mul_div_mul_left _ _ (Nat.two_pow_pos k)]
theorem shift_or (x y k : Nat) (hk : k < 64) (hy : y < 2 ^ k) : bits BinOp.or .u64 (y : Int) (IntKind.u64.wrap ((x : Int) * 2 ^ k)) = ((y + x * 2 ^ k % B64 : Nat) : Int) := by
  have e : IntKind.u64.wrap ((x : Int) * 2 ^ k) = ((x * 2 ^ k % 2 ^ 64 : Nat) : Int) := by
    rw [IntKind.wrap_u64]; simp [Int.natCast_mul, Int.natCast_pow]
  have h1 : (2 : Nat) ^ k ≤ 2 ^ 63 := Nat.pow_le_pow_right (by omega) (by omega)
  rw [e, bits_or_u64_nat _ _ (by omega) (Nat.mod_lt _ (by omega)), mod_shift x k (by omega), or_low _ _ _ hy, ← mod_shift x k (by omega)]
  rfl
theorem shift_hi (x k : Nat) (hk : k < 64) : (x : Int) / 2 / 2 ^ (63 - k) = ((x * 2 ^ k / B64 : Nat) : Int) := by
  rw [B64_two, div_shift x k (by omega), show 64 - k = 1 + (63 - k) by omega, Nat.pow_add, Nat.pow_one, ← Nat.div_div_eq_div_mul]
  simp [Int.natCast_ediv, Int.natCast_pow]
theorem shift_carry (x k : Nat) (hk : k < 64) (hx : x < B64) : x * 2 ^ k / B64 < 2 ^ k := by
  apply Nat.div_lt_of_lt_mul
  rw [Nat.mul_comm B64, Nat.mul_comm x]
  exact Nat.mul_lt_mul_of_pos_left hx (Nat.two_pow_pos k)
/-- What is kept, round by round, while a number is shifted up. -/
def ShiftOk (xs : List Nat) (k j : Nat) (L : List Nat) : Prop :=
  L.length = xs.length + 1 ∧ (∀ x ∈ L, x < B64) ∧ val L = pv xs j * 2 ^ k ∧ L[j]?.getD 0 < 2 ^ k ∧ ∀ i, j < i → L[i]?.getD 0 = 0
theorem ShiftOk.start (xs : List Nat) (k : Nat) : ShiftOk xs k 0 (List.replicate (xs.length + 1) 0) := by
  refine ⟨by simp, fun x hx => ?_, by rw [val_zeros, pv, Nat.zero_mul], by rw [getD_replicate]; exact Nat.two_pow_pos k, fun i _ => getD_replicate _ _⟩
  rw [(List.mem_replicate.1 hx).2]; exact B64_pos
theorem shift_low (x y k : Nat) (hk : k < 64) (hy : y < 2 ^ k) : y + x * 2 ^ k % B64 < B64 := by
  rw [B64_two, mod_shift x k (by omega)]
  have h1 := Nat.mod_lt x (Nat.two_pow_pos (64 - k))
  have h2 : 2 ^ k * (x % 2 ^ (64 - k) + 1) ≤ 2 ^ k * 2 ^ (64 - k) := Nat.mul_le_mul_left _ h1
  rw [← Nat.pow_add, show k + (64 - k) = 64 by omega, Nat.mul_add] at h2
  omega
theorem ShiftOk.step {xs : List Nat} {k j x y : Nat} {L : List Nat} (h : ShiftOk xs k j L) (hk : k < 64) (hj : j < xs.length) (hx : xs[j]?.getD 0 = x) (hxb : x < B64) (hy : L[j]?.getD 0 = y) :
    ShiftOk xs k (j + 1) ((L.set j (y + x * 2 ^ k % B64)).set (j + 1) (x * 2 ^ k / B64)) := by
  obtain ⟨hl, hlt, hv, hc, hz⟩ := h
  rw [hy] at hc
  have hcar := shift_carry x k hk hxb
  have hcb : x * 2 ^ k / B64 < B64 := Nat.div_lt_of_lt_mul (by
    have : (2 : Nat) ^ k < B64 := Nat.pow_lt_pow_right (by omega) hk
    exact Nat.mul_lt_mul'' hxb this)
  have h1 := val_set L j (y + x * 2 ^ k % B64) (by omega)
  have h2 := val_set (L.set j (y + x * 2 ^ k % B64)) (j + 1) (x * 2 ^ k / B64) (by simp; omega)
  have hz1 : (L.set j (y + x * 2 ^ k % B64))[j + 1]?.getD 0 = 0 := by rw [getD_set, if_neg (by omega)]; exact hz _ (by omega)
  rw [hz1, Nat.mul_zero, Nat.add_zero] at h2
  rw [hy] at h1
  refine ⟨by simp [hl], lt_set (lt_set hlt (shift_low x y k hk hc) _) hcb _, ?_, ?_, fun i hi => ?_⟩
  · rw [h2, pv, hx, Nat.add_mul, ← hv, Nat.mul_assoc, ← Nat.mod_add_div (x * 2 ^ k) B64, Nat.mul_add, Nat.pow_succ, Nat.mul_assoc]
    rw [Nat.mod_add_div (x * 2 ^ k) B64]
    rw [Nat.mul_add] at h1
    omega
  · rw [getD_set, if_pos ⟨rfl, by simp; omega⟩]; exact hcar
  · rw [getD_set, if_neg (by omega), getD_set, if_neg (by omega)]; exact hz i (by omega)
end Go.Proofs.Ytgihjgkpmochcaa

namespace Go.Proofs.Ytgihjgkpmochcaa
set_option linter.unusedVariables false
open Go.RowKit

theorem dv_iff {b y1 y0 q r d : Nat} (h0 : 0 < y1 * b + y0) : b * r + d < q * y0 ↔ ((q * y1 + r) * b + d) / (y1 * b + y0) < q := by
  rw [Nat.div_lt_iff_lt_mul h0, Nat.mul_add, Nat.add_mul, ← Nat.mul_assoc, Nat.mul_comm b r]; omega
theorem dv_lt {b u d y : Nat} (hu : u < y) (hd : d < b) : (u * b + d) / y < b := by
  rw [Nat.div_lt_iff_lt_mul (by omega)]
  have : (u + 1) * b ≤ y * b := Nat.mul_le_mul_right _ hu
  rw [Nat.add_mul] at this
  rw [Nat.mul_comm b y]; omega
theorem dv_start {b u d y1 y0 : Nat} (hd : d < b) (hy0 : y0 < b) (hu : u < y1 * b + y0) (hb : b ≤ 2 * y1) :
    (u * b + d) / (y1 * b + y0) ≤ u / y1 ∧ u / y1 ≤ b + 1 := by
  have hb0 : 0 < b := by omega
  have hy1 : 0 < y1 := by omega
  constructor
  · rw [Nat.le_div_iff_mul_le hy1]
    have h1 : (u * b + d) / (y1 * b + y0) * (y1 * b + y0) ≤ u * b + d := Nat.div_mul_le_self _ _
    generalize (u * b + d) / (y1 * b + y0) = Q at *
    have h2 : Q * y1 * b < (u + 1) * b := by
      rw [Nat.mul_add, ← Nat.mul_assoc] at h1
      rw [Nat.add_mul]; omega
    have := Nat.lt_of_mul_lt_mul_right h2
    omega
  · have h1 : u < (b + 2) * y1 := by rw [Nat.add_mul, Nat.mul_comm b y1]; omega
    have := (Nat.div_lt_iff_lt_mul hy1).2 h1
    omega
theorem dv_break {b q r y0 : Nat} (hq : q ≤ b + 1) (hr : b ≤ r) (hy0 : y0 < b) : q * y0 ≤ b * r := by
  have h1 : q * y0 ≤ (b + 1) * (b - 1) := Nat.mul_le_mul hq (by omega)
  have h2 : (b + 1) * (b - 1) ≤ b * b := by
    obtain ⟨c, rfl⟩ : ∃ c, b = c + 1 := ⟨b - 1, by omega⟩
    rw [Nat.add_sub_cancel, Nat.add_mul (c + 1) 1 c, Nat.mul_add]; omega
  exact Nat.le_trans h1 (Nat.le_trans h2 (Nat.mul_le_mul_left _ hr))
theorem dv_mul_lt {b q y0 : Nat} (hq : q ≤ b + 1) (hy0 : y0 < b) : q * y0 < b * b := by
  have h1 : q * y0 ≤ (b + 1) * (b - 1) := Nat.mul_le_mul hq (by omega)
  have h2 : (b + 1) * (b - 1) < b * b := by
    obtain ⟨c, rfl⟩ : ∃ c, b = c + 1 := ⟨b - 1, by omega⟩
    rw [Nat.add_sub_cancel, Nat.add_mul (c + 1) 1 c, Nat.mul_add]; omega
  omega

theorem wrap_nat (n : Nat) (h : n < 18446744073709551616) : IntKind.u64.wrap (n : Int) = n := by
  rw [IntKind.wrap_u64]; omega
theorem and_low (n : Nat) (h : n < 18446744073709551616) : bits .and .u64 (n : Int) 4294967295 = ((n % 4294967296 : Nat) : Int) := by
  have := bits_and_u64_nat n 4294967295 h (by omega)
  rw [show (4294967295 : Int) = ((4294967295 : Nat) : Int) from rfl, this]
  congr 1
  exact Nat.and_two_pow_sub_one_eq_mod n 32

theorem left_aux {U d Q Y R : Nat} (hR : R < 18446744073709551616) (h : U * 4294967296 + d = Q * Y + R) :
    IntKind.u64.wrap (IntKind.u64.wrap (IntKind.u64.wrap ((U : Int) * 4294967296) + d) - IntKind.u64.wrap ((Q : Int) * (Y : Int))) = R := by
  rw [← Int.natCast_mul]
  generalize Q * Y = P at *
  rw [IntKind.wrap_u64, IntKind.wrap_u64, IntKind.wrap_u64, IntKind.wrap_u64]
  omega
/-- One of the two quotients' digits that Div64 guesses and mends. -/
structure Dig (Y Y1 Y0 U d Q R q r : Nat) : Prop where
  quo : IntKind.u64.wrap ((U : Int) / (Y1 : Int)) = q
  rem : IntKind.u64.wrap ((U : Int) - IntKind.u64.wrap ((q : Int) * (Y1 : Int))) = r
  ge : Q ≤ q
  le : q ≤ 4294967297
  lt : r < 4294967296
  sum : q * Y1 + r = U
  top : Q < 4294967296
  left : IntKind.u64.wrap (IntKind.u64.wrap (IntKind.u64.wrap ((U : Int) * 4294967296) + d) - IntKind.u64.wrap ((Q : Int) * (Y : Int))) = R
  small : R < Y
  all : U * 4294967296 + d = Q * Y + R
theorem dig_of (Y Y1 Y0 U d : Nat) (hY : Y1 * 4294967296 + Y0 = Y) (hY1 : 2147483648 ≤ Y1) (hy1 : Y1 < 4294967296) (hY0 : Y0 < 4294967296) (hU : U < Y) (hd : d < 4294967296) :
    ∃ Q R q r, Dig Y Y1 Y0 U d Q R q r := by
  subst hY
  obtain ⟨h1, h2⟩ := dv_start (b := 4294967296) hd hY0 hU (by omega)
  have hlt := dv_lt (b := 4294967296) hU hd
  have hdm := Nat.div_add_mod (U * 4294967296 + d) (Y1 * 4294967296 + Y0)
  have hmod := Nat.mod_lt (U * 4294967296 + d) (y := Y1 * 4294967296 + Y0) (by omega)
  have hs := Nat.div_add_mod U Y1
  have hr := Nat.mod_lt U (y := Y1) (by omega)
  refine ⟨_, (U * 4294967296 + d) % (Y1 * 4294967296 + Y0), U / Y1, U % Y1, ?_, ?_, h1, h2, by omega, by rw [Nat.mul_comm]; exact hs, hlt, ?_, hmod, by rw [Nat.mul_comm _ (Y1 * _ + _)]; exact hdm.symm⟩
  · rw [← Int.natCast_ediv]
    exact wrap_nat _ (by omega)
  · rw [← Int.natCast_mul, wrap_nat _ (by rw [Nat.mul_comm]; omega), Nat.mul_comm]
    have : (U : Int) - (Y1 * (U / Y1) : Nat) = (U % Y1 : Nat) := by omega
    rw [this]; exact wrap_nat _ (by omega)
  · exact left_aux (by omega) (by rw [Nat.mul_comm _ (Y1 * _ + _)]; exact hdm.symm)
theorem Dig.iff {Y Y1 Y0 U d Q R q r : Nat} (h : Dig Y Y1 Y0 U d Q R q r) (hY : Y1 * 4294967296 + Y0 = Y) {q' r' : Nat} (hs : q' * Y1 + r' = U) : 4294967296 * r' + d < q' * Y0 ↔ Q < q' := by
  have hsm := h.small
  have := dv_iff (b := 4294967296) (y1 := Y1) (y0 := Y0) (q := q') (r := r') (d := d) (by omega)
  rw [hs, hY, h.all, Nat.mul_comm Q Y, Nat.mul_add_div (by omega), Nat.div_eq_of_lt hsm, Nat.add_zero] at this
  exact this

structure D64 (hi lo y s Y Y1 Y0 H T U L L1 L0 : Nat) : Prop where
  eY : IntKind.u64.wrap ((y : Int) * 2 ^ s) = Y
  eY1 : (Y : Int) / 4294967296 = Y1
  eY0 : bits .and .u64 (Y : Int) 4294967295 = Y0
  eH : IntKind.u64.wrap ((hi : Int) * 2 ^ s) = H
  eT : (lo : Int) / 2 ^ (64 - s) = T
  eU : bits .or .u64 (H : Int) (T : Int) = U
  eL : IntKind.u64.wrap ((lo : Int) * 2 ^ s) = L
  eL1 : (L : Int) / 4294967296 = L1
  eL0 : bits .and .u64 (L : Int) 4294967295 = L0
  hY : Y1 * 4294967296 + Y0 = Y
  hY1 : 2147483648 ≤ Y1
  hy1 : Y1 < 4294967296
  hY0 : Y0 < 4294967296
  hU : U < Y
  hL1 : L1 < 4294967296
  hL0 : L0 < 4294967296
  hN : (U * 4294967296 + L1) * 4294967296 + L0 = (hi * B64 + lo) * 2 ^ s
  hD : Y = y * 2 ^ s
theorem d64_of (hi lo y s : Nat) (hy : hi < y) (hl : lo < B64) (hyb : y < B64) (hs : s + blen y = 64) : ∃ Y Y1 Y0 H T U L L1 L0, D64 hi lo y s Y Y1 Y0 H T U L L1 L0 := by
  have hy0 : y ≠ 0 := by omega
  have hb1 := pow_blen hy0
  have hb2 := lt_blen y
  have hblen : 0 < blen y := by
    by_cases h0 : blen y = 0
    · rw [h0] at hb2; simp at hb2; omega
    · omega
  have hs64 : s < 64 := by omega
  have hY63 : 2 ^ 63 ≤ y * 2 ^ s := by
    have : 2 ^ (blen y - 1) * 2 ^ s ≤ y * 2 ^ s := Nat.mul_le_mul_right _ hb1
    rw [← Nat.pow_add, show blen y - 1 + s = 63 by omega] at this
    exact this
  have hY64 : y * 2 ^ s < 2 ^ 64 := by
    have : y * 2 ^ s < 2 ^ blen y * 2 ^ s := Nat.mul_lt_mul_of_pos_right hb2 (Nat.two_pow_pos s)
    rw [← Nat.pow_add, show blen y + s = 64 by omega] at this
    exact this
  have hH : hi * 2 ^ s + 2 ^ s ≤ y * 2 ^ s := by
    have : (hi + 1) * 2 ^ s ≤ y * 2 ^ s := Nat.mul_le_mul_right _ hy
    rw [Nat.add_mul] at this; omega
  have hlo : lo / 2 ^ (64 - s) < 2 ^ s := by
    apply Nat.div_lt_of_lt_mul
    rw [← Nat.pow_add, show 64 - s + s = 64 by omega]; exact hl
  have hsplit : lo * 2 ^ s = B64 * (lo / 2 ^ (64 - s)) + lo * 2 ^ s % 2 ^ 64 := by
    have := Nat.div_add_mod (lo * 2 ^ s) (2 ^ 64)
    rw [div_shift _ _ (by omega)] at this
    exact this.symm
  have hor := or_low (lo / 2 ^ (64 - s)) hi s hlo
  have hLm : lo * 2 ^ s % 2 ^ 64 < 2 ^ 64 := Nat.mod_lt _ (by omega)
  have c1 : ((y * 2 ^ s : Nat) : Int) = (y : Int) * 2 ^ s := by simp [Int.natCast_mul, Int.natCast_pow]
  have c2 : ((hi * 2 ^ s : Nat) : Int) = (hi : Int) * 2 ^ s := by simp [Int.natCast_mul, Int.natCast_pow]
  have c3 : ((lo * 2 ^ s : Nat) : Int) = (lo : Int) * 2 ^ s := by simp [Int.natCast_mul, Int.natCast_pow]
  have c4 : ((lo / 2 ^ (64 - s) : Nat) : Int) = (lo : Int) / 2 ^ (64 - s) := by simp [Int.natCast_ediv, Int.natCast_pow]
  have hN : (hi * 2 ^ s + lo / 2 ^ (64 - s)) * B64 + lo * 2 ^ s % 2 ^ 64 = (hi * B64 + lo) * 2 ^ s := by
    rw [Nat.add_mul (hi * B64), hsplit, Nat.add_mul, Nat.mul_right_comm hi B64, Nat.mul_comm _ B64, Nat.mul_comm (lo / _) B64, Nat.mul_comm B64 (hi * _)]; omega
  rw [Nat.mul_comm (2 ^ s) hi, Nat.or_comm, Nat.add_comm] at hor
  generalize hi * 2 ^ s = H at *
  generalize hT : lo / 2 ^ (64 - s) = T at *
  generalize hX : lo * 2 ^ s = X at *
  generalize hp : 2 ^ s = p at *
  refine ⟨y * p, y * p / 4294967296, y * p % 4294967296, H, T, H + T, X % 2 ^ 64, X % 2 ^ 64 / 4294967296, X % 2 ^ 64 % 4294967296, ?_, ?_, ?_, ?_, ?_, ?_, ?_, ?_, ?_, ?_, ?_, ?_, ?_, ?_, ?_, ?_, ?_, ?_⟩
  · rw [← c1]; exact wrap_nat _ (by omega)
  · exact (Int.natCast_ediv _ _).symm
  · exact and_low _ (by omega)
  · rw [← c2]; exact wrap_nat _ (by omega)
  · exact c4.symm
  · rw [bits_or_u64_nat _ _ (by omega) (by omega), hor]
  · rw [← c3, IntKind.wrap_u64]; omega
  · exact (Int.natCast_ediv _ _).symm
  · exact and_low _ (by omega)
  · omega
  · omega
  · omega
  · omega
  · omega
  · omega
  · omega
  · rw [hp, ← hN, show B64 = 4294967296 * 4294967296 from rfl]
    generalize H + T = U
    omega
  · rw [hp]
theorem d64_end {hi lo y s Y U L1 L0 Q R Q0 R0 : Nat} (hD : Y = y * 2 ^ s) (hN : (U * 4294967296 + L1) * 4294967296 + L0 = (hi * B64 + lo) * 2 ^ s) (hy : 0 < y) (hQ : Q < 4294967296) (hQ0 : Q0 < 4294967296) (h1 : U * 4294967296 + L1 = Q * Y + R) (h2 : R * 4294967296 + L0 = Q0 * Y + R0) (hR0 : R0 < Y) :
    (Q : Int) * 4294967296 + Q0 = ((hi * B64 + lo) / y : Nat) ∧ (R0 : Int) / 2 ^ s = ((hi * B64 + lo) % y : Nat) := by
  have hp := Nat.two_pow_pos s
  have e : (hi * B64 + lo) * 2 ^ s = Y * (Q * 4294967296 + Q0) + R0 := by
    rw [← hN, h1, Nat.add_mul, Nat.mul_add, Nat.add_assoc, h2, Nat.mul_comm Q Y, Nat.mul_comm Q0 Y, Nat.mul_assoc]; omega
  have hq : (hi * B64 + lo) / y = Q * 4294967296 + Q0 := by
    have : (hi * B64 + lo) * 2 ^ s / (y * 2 ^ s) = Q * 4294967296 + Q0 := by
      rw [e, ← hD, Nat.mul_add_div (by omega), Nat.div_eq_of_lt hR0, Nat.add_zero]
    rwa [Nat.mul_div_mul_right _ _ hp] at this
  have hr : (hi * B64 + lo) % y = R0 / 2 ^ s := by
    have : (hi * B64 + lo) * 2 ^ s % (y * 2 ^ s) = R0 := by
      rw [e, ← hD, Nat.mul_add_mod, Nat.mod_eq_of_lt hR0]
    rw [Nat.mul_mod_mul_right] at this
    rw [← this, Nat.mul_div_cancel _ hp]
  constructor
  · rw [hq]; omega
  · rw [hr]; simp [Int.natCast_ediv, Int.natCast_pow]
end Go.Proofs.Ytgihjgkpmochcaa

namespace Go.Proofs.Ytgihjgkpmochcaa

/-- The limbs that one product of two limbs comes to, a limb and a carry added. -/
structure MStep (x y o c hi lo c1 l1 c2 l2 : Nat) : Prop where
  ehi : x * y / 18446744073709551616 = hi
  elo : x * y % 18446744073709551616 = lo
  el1 : (lo + o) % B64 = l1
  ec1 : (lo + o) / B64 = c1
  el2 : (l1 + c) % B64 = l2
  ec2 : (l1 + c) / B64 = c2
  bhi : hi + c1 + c2 < B64
  blo : lo < B64
  bl1 : l1 < B64
  bl2 : l2 < B64
  all : x * y + o + c = B64 * (hi + c1 + c2) + l2
theorem mstep_of {x y o c : Nat} (hx : x < B64) (hy : y < B64) (ho : o < B64) (hc : c < B64) : ∃ hi lo c1 l1 c2 l2, MStep x y o c hi lo c1 l1 c2 l2 := by
  refine ⟨_, _, _, _, _, _, rfl, rfl, rfl, rfl, rfl, rfl, ?_, Nat.mod_lt _ B64_pos, Nat.mod_lt _ B64_pos, Nat.mod_lt _ B64_pos, ?_⟩
  · have h1 : x * y ≤ (B64 - 1) * (B64 - 1) := Nat.mul_le_mul (by omega) (by omega)
    have h2 : (B64 - 1) * (B64 - 1) = 340282366920938463426481119284349108225 := by rfl
    unfold B64 at *
    omega
  · unfold B64
    omega
structure TStep (x y c hi lo c2 l2 : Nat) : Prop where
  ehi : x * y / 18446744073709551616 = hi
  elo : x * y % 18446744073709551616 = lo
  el2 : (lo + c) % B64 = l2
  ec2 : (lo + c) / B64 = c2
  bhi : hi + c2 < B64
  blo : lo < B64
  bl2 : l2 < B64
  all : x * y + c = B64 * (hi + c2) + l2
theorem tstep_of {x y c : Nat} (hx : x < B64) (hy : y < B64) (hc : c < B64) : ∃ hi lo c2 l2, TStep x y c hi lo c2 l2 := by
  refine ⟨_, _, _, _, rfl, rfl, rfl, rfl, ?_, Nat.mod_lt _ B64_pos, Nat.mod_lt _ B64_pos, ?_⟩
  · have h1 : x * y ≤ (B64 - 1) * (B64 - 1) := Nat.mul_le_mul (by omega) (by omega)
    have h2 : (B64 - 1) * (B64 - 1) = 340282366920938463426481119284349108225 := by rfl
    unfold B64 at *
    omega
  · unfold B64
    omega

/-- What is kept, round by round, while a number is multiplied by one limb. -/
def TimesOk (xs : List Nat) (g j carry : Nat) (L : List Nat) : Prop :=
  L.length = xs.length + 1 ∧ (∀ x ∈ L, x < B64) ∧ carry < B64 ∧ val L + B64 ^ j * carry = pv xs j * g ∧ ∀ i, j ≤ i → L[i]?.getD 0 = 0
theorem TimesOk.start (xs : List Nat) (g : Nat) : TimesOk xs g 0 0 (List.replicate (xs.length + 1) 0) := by
  refine ⟨by simp, fun x hx => ?_, B64_pos, by rw [val_zeros, pv]; simp, fun i _ => getD_replicate _ _⟩
  rw [(List.mem_replicate.1 hx).2]; exact B64_pos
theorem TimesOk.step {xs : List Nat} {g j carry x hi lo c2 l2 : Nat} {L : List Nat} (h : TimesOk xs g j carry L) (hj : j < xs.length) (hx : xs[j]?.getD 0 = x) (m : TStep x g carry hi lo c2 l2) :
    TimesOk xs g (j + 1) (hi + c2) (L.set j l2) := by
  obtain ⟨hl, hlt, hc, hv, hz⟩ := h
  have h1 := val_set L j l2 (by omega)
  rw [hz j (Nat.le_refl _), Nat.mul_zero, Nat.add_zero] at h1
  refine ⟨by simp [hl], lt_set hlt m.bl2 _, m.bhi, ?_, fun i hi => ?_⟩
  · have e := congrArg (B64 ^ j * ·) m.all
    simp only [Nat.mul_add] at e
    rw [h1, pv, hx, Nat.add_mul, ← hv, Nat.pow_succ, Nat.mul_assoc (B64 ^ j) x g, Nat.mul_assoc (B64 ^ j) B64, Nat.mul_add, Nat.mul_add]
    omega
  · rw [getD_set, if_neg (by omega)]; exact hz i (by omega)
theorem TimesOk.last {xs : List Nat} {g carry : Nat} {L : List Nat} (h : TimesOk xs g xs.length carry L) : (L.set xs.length carry).length = xs.length + 1 ∧ (∀ x ∈ L.set xs.length carry, x < B64) ∧ val (L.set xs.length carry) = val xs * g := by
  obtain ⟨hl, hlt, hc, hv, hz⟩ := h
  have h1 := val_set L xs.length carry (by omega)
  rw [hz _ (Nat.le_refl _), Nat.mul_zero, Nat.add_zero, hv, pv_add _ _ (Nat.le_refl _)] at h1
  exact ⟨by simp [hl], lt_set hlt hc _, h1⟩

/-- What is kept while two numbers are multiplied: i rows are done; of the next one, k limbs. -/
def MulOk (xs ys : List Nat) (i k carry : Nat) (L : List Nat) : Prop :=
  L.length = xs.length + ys.length ∧ (∀ x ∈ L, x < B64) ∧ carry < B64 ∧ val L + B64 ^ (i + k) * carry = pv xs i * val ys + B64 ^ i * (xs[i]?.getD 0 * pv ys k) ∧ ∀ t, i + ys.length ≤ t → L[t]?.getD 0 = 0
theorem MulOk.start (xs ys : List Nat) : MulOk xs ys 0 0 0 (List.replicate (xs.length + ys.length) 0) := by
  refine ⟨by simp, fun x hx => ?_, B64_pos, by rw [val_zeros, pv, pv]; simp, fun i _ => getD_replicate _ _⟩
  rw [(List.mem_replicate.1 hx).2]; exact B64_pos
theorem MulOk.step {xs ys : List Nat} {i k carry x y hi lo c1 l1 c2 l2 : Nat} {L : List Nat} (h : MulOk xs ys i k carry L) (hi' : i < xs.length) (hk : k < ys.length) (hx : xs[i]?.getD 0 = x) (hy : ys[k]?.getD 0 = y)
    (m : MStep x y (L[i + k]?.getD 0) carry hi lo c1 l1 c2 l2) : MulOk xs ys i (k + 1) (hi + c1 + c2) (L.set (i + k) l2) := by
  obtain ⟨hl, hlt, hc, hv, hz⟩ := h
  have h1 := val_set L (i + k) l2 (by omega)
  refine ⟨by simp [hl], lt_set hlt m.bl2 _, m.bhi, ?_, fun t ht => ?_⟩
  · have e := congrArg (B64 ^ (i + k) * ·) m.all
    simp only [Nat.mul_add] at e
    rw [hx] at hv ⊢
    rw [pv, hy, ← Nat.add_assoc i k 1, Nat.pow_succ, Nat.mul_assoc (B64 ^ (i + k)) B64, Nat.mul_add x, Nat.mul_add (B64 ^ i), ← Nat.add_assoc, ← hv, Nat.mul_left_comm x, ← Nat.mul_assoc (B64 ^ i), ← Nat.pow_add, Nat.mul_add B64, Nat.mul_add B64, Nat.mul_add (B64 ^ (i + k)), Nat.mul_add (B64 ^ (i + k))]
    omega
  · rw [getD_set, if_neg (by omega)]; exact hz t ht
theorem MulOk.next {xs ys : List Nat} {i carry : Nat} {L : List Nat} (h : MulOk xs ys i ys.length carry L) (hi : i < xs.length) : MulOk xs ys (i + 1) 0 0 (L.set (i + ys.length) carry) := by
  obtain ⟨hl, hlt, hc, hv, hz⟩ := h
  have h1 := val_set L (i + ys.length) carry (by omega)
  rw [hz _ (Nat.le_refl _), Nat.mul_zero, Nat.add_zero, hv, pv_add _ _ (Nat.le_refl _)] at h1
  refine ⟨by simp [hl], lt_set hlt hc _, B64_pos, ?_, fun t ht => ?_⟩
  · rw [h1, pv, pv, Nat.add_mul, Nat.mul_zero, Nat.mul_zero, Nat.mul_zero, Nat.mul_assoc]
  · rw [getD_set, if_neg (by omega)]; exact hz t (by omega)
theorem MulOk.last {xs ys : List Nat} {carry : Nat} {L : List Nat} (h : MulOk xs ys xs.length 0 carry L) (hc0 : carry = 0) : L.length = xs.length + ys.length ∧ (∀ x ∈ L, x < B64) ∧ val L = val xs * val ys := by
  obtain ⟨hl, hlt, hc, hv, hz⟩ := h
  refine ⟨hl, hlt, ?_⟩
  rw [hc0, pv_add _ _ (Nat.le_refl _), pv] at hv
  simpa using hv
end Go.Proofs.Ytgihjgkpmochcaa

namespace Go.Proofs.Ytgihjgkpmochcaa

/-- r is the whole root of a. -/
def IsRoot (a r : Nat) : Prop := r * r ≤ a ∧ a < (r + 1) * (r + 1)
theorem IsRoot.unique {a r s : Nat} (h : IsRoot a r) (k : IsRoot a s) : r = s := by
  by_cases h1 : r < s
  · have := Nat.mul_le_mul (show r + 1 ≤ s by omega) (show r + 1 ≤ s by omega)
    have := h.2; have := k.1; omega
  · by_cases h2 : s < r
    · have := Nat.mul_le_mul (show s + 1 ≤ r by omega) (show s + 1 ≤ r by omega)
      have := h.1; have := k.2; omega
    · omega
theorem root_quo {a x : Nat} (hx : 0 < x) (h : a < (x + 1) * (x + 1)) : a / x ≤ x + 2 := by
  have h1 : a < (x + 3) * x := by
    rw [Nat.add_mul, Nat.mul_add] at h
    rw [Nat.add_mul]; omega
  have := (Nat.div_lt_iff_lt_mul hx).2 h1
  omega
/-- A step of Newton's stays at or above the root. -/
theorem root_step {a x : Nat} (hx : 0 < x) : a < ((x + a / x) / 2 + 1) * ((x + a / x) / 2 + 1) := by
  have h1 := Nat.div_add_mod a x
  have h2 := Nat.mod_lt a hx
  generalize a / x = q at *
  have h3 : a + 1 ≤ x * (q + 1) := by rw [Nat.mul_add]; omega
  obtain ⟨y, hy⟩ : ∃ y, (x + q) / 2 = y := ⟨_, rfl⟩
  rw [hy]
  -- x + (q + 1) ≤ 2 (y + 1)
  have h4 : x + (q + 1) ≤ 2 * (y + 1) := by omega
  have h5 : 4 * (x * (q + 1)) ≤ (x + (q + 1)) * (x + (q + 1)) := by
    generalize q + 1 = z
    rcases Nat.le_total x z with h | h
    · obtain ⟨d, rfl⟩ : ∃ d, z = x + d := ⟨z - x, by omega⟩
      have e1 : (x + (x + d)) * (x + (x + d)) = 4 * (x * (x + d)) + d * d := by
        simp only [Nat.add_mul, Nat.mul_add, Nat.mul_comm d x]; omega
      omega
    · obtain ⟨d, rfl⟩ : ∃ d, x = z + d := ⟨x - z, by omega⟩
      have e1 : (z + d + z) * (z + d + z) = 4 * ((z + d) * z) + d * d := by
        simp only [Nat.add_mul, Nat.mul_add, Nat.mul_comm d z]; omega
      omega
  have h6 : (x + (q + 1)) * (x + (q + 1)) ≤ (2 * (y + 1)) * (2 * (y + 1)) := Nat.mul_le_mul h4 h4
  have h7 : (2 * (y + 1)) * (2 * (y + 1)) = 4 * ((y + 1) * (y + 1)) := by
    generalize y + 1 = z
    rw [Nat.mul_assoc, Nat.mul_left_comm z 2 z]; omega
  omega
theorem root_stop {a x : Nat} (hx : 0 < x) (h : a < (x + 1) * (x + 1)) (hy : x ≤ (x + a / x) / 2) : IsRoot a x := by
  refine ⟨?_, h⟩
  have h1 : x ≤ a / x := by omega
  have := (Nat.le_div_iff_mul_le hx).1 h1
  exact this
theorem root_start {a : Nat} : a < (2 ^ ((blen a + 1) / 2) + 1) * (2 ^ ((blen a + 1) / 2) + 1) := by
  have h1 := lt_blen a
  have h2 : 2 ^ blen a ≤ 2 ^ ((blen a + 1) / 2) * 2 ^ ((blen a + 1) / 2) := by
    rw [← Nat.pow_add]; exact Nat.pow_le_pow_right (by omega) (by omega)
  have h3 : 2 ^ ((blen a + 1) / 2) * 2 ^ ((blen a + 1) / 2) ≤ (2 ^ ((blen a + 1) / 2) + 1) * (2 ^ ((blen a + 1) / 2) + 1) := Nat.mul_le_mul (Nat.le_succ _) (Nat.le_succ _)
  omega
theorem root_pos {a x : Nat} (ha : a ≠ 0) (h : a < (x + 1) * (x + 1)) : 0 < x := by
  by_cases h0 : x = 0
  · subst h0; omega
  · omega
end Go.Proofs.Ytgihjgkpmochcaa

namespace Go.Proofs.Ytgihjgkpmochcaa

/-- The decimal digits of n as bytes, the last one ahead; none for 0. -/
def rdig (n : Nat) : List Nat := if h : n = 0 then [] else (48 + n % 10) :: rdig (n / 10)
termination_by n
decreasing_by omega
theorem rdig_zero : rdig 0 = [] := by rw [rdig]; simp
theorem rdig_pos {n : Nat} (h : n ≠ 0) : rdig n = (48 + n % 10) :: rdig (n / 10) := by rw [rdig, dif_neg h]
theorem rdig_lt (n : Nat) : ∀ x ∈ rdig n, 48 ≤ x ∧ x < 58 := by
  induction n using Nat.strongRecOn with
  | _ n ih =>
    by_cases h : n = 0
    · subst h; rw [rdig_zero]; intro x hx; cases hx
    · rw [rdig_pos h]
      intro x hx
      rcases List.mem_cons.1 hx with rfl | hx
      · omega
      · exact ih (n / 10) (by omega) x hx
theorem rdig_len {n k : Nat} (h : n < 2 ^ k) : (rdig n).length ≤ k := by
  induction k generalizing n with
  | zero => have : n = 0 := by simpa using h
            subst this; rw [rdig_zero]; simp
  | succ k ih =>
    by_cases h0 : n = 0
    · subst h0; rw [rdig_zero]; simp
    · rw [rdig_pos h0, List.length_cons]
      have := ih (n := n / 10) (by rw [Nat.pow_succ] at h; omega)
      omega
/-- The bytes as a string. -/
def txt (l : List Nat) : ByteArray := ⟨(l.map UInt8.ofNat).toArray⟩
/-- The decimal text of a number. -/
def decT (n : Nat) : List Nat := if n = 0 then [48] else (rdig n).reverse

/-- What is kept while a group of 19 digits is laid: q above it, r of it left, k places to go. -/
def GroupOk (N q r k : Nat) (D : List Nat) : Prop := D ++ rdig (q * 10 ^ k + r) = rdig N ∧ r < 10 ^ k
theorem GroupOk.start {N A : Nat} {D : List Nat} (h : D ++ rdig A = rdig N) : GroupOk N (A / 10000000000000000000) (A % 10000000000000000000) 19 D := by
  refine ⟨?_, Nat.mod_lt _ (by omega)⟩
  have := Nat.div_add_mod A 10000000000000000000
  rw [show (10 : Nat) ^ 19 = 10000000000000000000 from rfl, Nat.mul_comm, this]; exact h
theorem GroupOk.step {N q r k : Nat} {D : List Nat} (h : GroupOk N q r (k + 1) D) (hn : 0 < r ∨ 0 < q) : GroupOk N q (r / 10) k (D ++ [48 + r % 10]) := by
  obtain ⟨h1, h2⟩ := h
  have e : q * 10 ^ (k + 1) + r = 10 * (q * 10 ^ k) + r := by rw [Nat.pow_succ, Nat.mul_comm (10 ^ k), Nat.mul_left_comm]
  have hp : 0 < 10 ^ k := Nat.pow_pos (by omega)
  have h0 : q * 10 ^ (k + 1) + r ≠ 0 := by
    rw [e]
    rcases hn with h | h
    · omega
    · have := Nat.mul_pos h hp; omega
  refine ⟨?_, by rw [Nat.pow_succ] at h2; omega⟩
  rw [rdig_pos h0, e] at h1
  rw [← h1, List.append_assoc, List.singleton_append]
  congr 2
  · omega
  · congr 1; omega
theorem GroupOk.done {N q r k : Nat} {D : List Nat} (h : GroupOk N q r k D) (hk : k = 0 ∨ r = 0 ∧ q = 0) : D ++ rdig q = rdig N := by
  obtain ⟨h1, h2⟩ := h
  rcases hk with rfl | ⟨rfl, rfl⟩
  · have : r = 0 := by simpa using h2
    subst this
    simpa using h1
  · simpa using h1
theorem GroupOk.len {N q r k : Nat} {D : List Nat} (h : GroupOk N q r k D) : D.length ≤ (rdig N).length := by
  rw [← h.1, List.length_append]; omega
end Go.Proofs.Ytgihjgkpmochcaa

namespace Go.Proofs.Ytgihjgkpmochcaa

/-- The bound of a digit of 32 bits. -/
def B32 : Nat := 4294967296
theorem B32_pos : 0 < B32 := by unfold B32; omega
theorem B64_sq : B64 = B32 * B32 := rfl
theorem B64_pow2 (q : Nat) : B64 ^ q = B32 ^ (2 * q) := by rw [Nat.pow_mul, Nat.pow_two, B64_sq]
theorem B32_two : B32 = 2 ^ 32 := rfl
theorem B32_pow (k : Nat) : B32 ^ k = 2 ^ (32 * k) := by rw [B32_two, ← Nat.pow_mul]
/-- A digit of a number. -/
def dg (m i : Nat) : Nat := m / B32 ^ i % B32
theorem dg_lt (m i : Nat) : dg m i < B32 := Nat.mod_lt _ B32_pos
theorem dg_big {m i : Nat} (h : m < B32 ^ i) : dg m i = 0 := by unfold dg; rw [Nat.div_eq_of_lt h, Nat.zero_mod]
theorem limb_at {xs : List Nat} (h : ∀ x ∈ xs, x < B64) (q : Nat) : xs[q]?.getD 0 = val xs / B64 ^ q % B64 := by
  induction xs generalizing q with
  | nil => simp [val]
  | cons x xs ih =>
    have hx := h x (by simp)
    cases q with
    | zero => simp only [List.getElem?_cons_zero, Option.getD_some, val, Nat.pow_zero, Nat.div_one, Nat.add_mul_mod_self_left]; exact (Nat.mod_eq_of_lt hx).symm
    | succ q =>
      rw [List.getElem?_cons_succ, ih (fun y hy => h y (by simp [hy])), val, Nat.pow_succ, Nat.mul_comm (B64 ^ q), ← Nat.div_div_eq_div_mul]
      congr 2
      rw [Nat.add_mul_div_left _ _ B64_pos, Nat.div_eq_of_lt hx, Nat.zero_add]
theorem digit_dg {xs : List Nat} (h : ∀ x ∈ xs, x < B64) (i : Nat) : (if i % 2 = 0 then xs[i / 2]?.getD 0 % 4294967296 else xs[i / 2]?.getD 0 / 4294967296) = dg (val xs) i := by
  rw [limb_at h, B64_pow2]
  show (if i % 2 = 0 then _ % B32 else _ / B32) = _
  unfold dg
  rw [B64_sq]
  by_cases h2 : i % 2 = 0
  · rw [if_pos h2, show 2 * (i / 2) = i by omega, Nat.mod_mul_right_mod]
  · rw [if_neg h2, Nat.mod_mul_right_div_self, Nat.div_div_eq_div_mul, ← Nat.pow_succ, show (2 * (i / 2)).succ = i by omega]

/-- What digits come to. -/
def dval : List Nat → Nat
  | [] => 0
  | x :: xs => x + B32 * dval xs
theorem dval_append (xs ys : List Nat) : dval (xs ++ ys) = dval xs + B32 ^ xs.length * dval ys := by
  induction xs with
  | nil => simp [dval]
  | cons x xs ih => rw [List.cons_append, dval, dval, ih, List.length_cons, Nat.pow_succ, Nat.mul_add, Nat.add_assoc]; congr 2; rw [← Nat.mul_assoc, Nat.mul_comm B32]
theorem dval_snoc (xs : List Nat) (x : Nat) : dval (xs ++ [x]) = dval xs + B32 ^ xs.length * x := by rw [dval_append]; simp [dval]
theorem dval_zeros (k : Nat) : dval (List.replicate k 0) = 0 := by
  induction k with
  | zero => rfl
  | succ k ih => rw [List.replicate_succ, dval, ih]; simp
theorem dval_set (L : List Nat) (i x : Nat) (hi : i < L.length) : dval (L.set i x) + B32 ^ i * L[i]?.getD 0 = dval L + B32 ^ i * x := by
  induction L generalizing i with
  | nil => simp at hi
  | cons y L ih =>
    cases i with
    | zero => simp [dval]; omega
    | succ i =>
      have := ih i (by simpa using hi)
      rw [List.set_cons_succ, List.getElem?_cons_succ, dval, dval, Nat.pow_succ, Nat.mul_comm (B32 ^ i), Nat.mul_assoc, Nat.mul_assoc, Nat.add_assoc, Nat.add_assoc, ← Nat.mul_add, ← Nat.mul_add, this]
theorem dval_lt {xs : List Nat} (h : ∀ x ∈ xs, x < B32) : dval xs < B32 ^ xs.length := by
  induction xs with
  | nil => simp [dval]
  | cons x xs ih =>
    have h1 := h x (by simp)
    have h2 := ih fun y hy => h y (by simp [hy])
    rw [dval, List.length_cons, Nat.pow_succ]
    have : B32 * (dval xs + 1) ≤ B32 * B32 ^ xs.length := Nat.mul_le_mul_left _ h2
    rw [Nat.mul_comm (B32 ^ xs.length)]
    rw [Nat.mul_add] at this
    omega
/-- The low digits of a number, one more. -/
theorem mod_step (m i : Nat) : m % B32 ^ (i + 1) = m % B32 ^ i + B32 ^ i * dg m i := by
  unfold dg
  rw [Nat.pow_succ, Nat.mod_mul]
theorem mod_big {m i : Nat} (h : m < B32 ^ i) : m % B32 ^ i = m := Nat.mod_eq_of_lt h

/-- The limbs made of digits, so far. -/
def MadeOk (L : List Nat) (j : Nat) (R : List Nat) : Prop :=
  R.length = (L.length + 1) / 2 ∧ (∀ x ∈ R, x < B64) ∧ val R = dval (L.take j) ∧ (∀ q, j ≤ 2 * q → R[q]?.getD 0 = 0) ∧ R[j / 2]?.getD 0 < B32
theorem MadeOk.start (L : List Nat) : MadeOk L 0 (List.replicate ((L.length + 1) / 2) 0) :=
  ⟨by simp, fun x hx => by rw [(List.mem_replicate.1 hx).2]; exact B64_pos, by rw [val_zeros]; rfl, fun q _ => getD_replicate _ _, by rw [getD_replicate]; exact B32_pos⟩
theorem dval_take (L : List Nat) (j : Nat) (hj : j < L.length) : dval (L.take (j + 1)) = dval (L.take j) + B32 ^ j * L[j]?.getD 0 := by
  rw [List.take_add_one, List.getElem?_eq_getElem hj, Option.toList_some, dval_snoc, List.length_take, Nat.min_eq_left (Nat.le_of_lt hj)]
  rfl
theorem MadeOk.even {L : List Nat} {j x : Nat} {R : List Nat} (h : MadeOk L j R) (hj : j < L.length) (he : j % 2 = 0) (hx : L[j]?.getD 0 = x) (hb : x < B32) : MadeOk L (j + 1) (R.set (j / 2) x) := by
  obtain ⟨hl, hlt, hv, hz, hb2⟩ := h
  have h0 := hz (j / 2) (by omega)
  refine ⟨by simp [hl], lt_set hlt (Nat.lt_trans hb (by unfold B32 B64; omega)) _, ?_, fun q hq => ?_, ?_⟩
  · have := val_set R (j / 2) x (by omega)
    rw [h0, Nat.mul_zero, Nat.add_zero, hv, B64_pow2, show 2 * (j / 2) = j by omega] at this
    rw [this, dval_take L j hj, hx]
  · rw [getD_set, if_neg (by omega)]; exact hz q (by omega)
  · rw [getD_set, if_pos ⟨by omega, by omega⟩]; exact hb
theorem MadeOk.odd {L : List Nat} {j x y : Nat} {R : List Nat} (h : MadeOk L j R) (hj : j < L.length) (he : j % 2 = 1) (hx : L[j]?.getD 0 = x) (hb : x < B32) (hy : R[j / 2]?.getD 0 = y) : y + x * 4294967296 < B64 ∧ MadeOk L (j + 1) (R.set (j / 2) (y + x * 4294967296)) := by
  obtain ⟨hl, hlt, hv, hz, hb2⟩ := h
  have hlt2 : y + x * 4294967296 < B64 := by unfold B64; unfold B32 at hb hb2; omega
  refine ⟨hlt2, by simp [hl], lt_set hlt hlt2 _, ?_, fun q hq => ?_, ?_⟩
  · have := val_set R (j / 2) (y + x * 4294967296) (by omega)
    rw [hy, Nat.mul_add, hv, B64_pow2] at this
    have e : B32 ^ (2 * (j / 2)) * (x * 4294967296) = B32 ^ j * x := by
      have e1 : B32 ^ j = B32 ^ (2 * (j / 2)) * B32 := by rw [← Nat.pow_succ]; congr 1; omega
      rw [e1, Nat.mul_assoc]; show _ * (x * B32) = _; rw [Nat.mul_comm x]
    rw [e] at this
    rw [dval_take L j hj, hx]
    omega
  · rw [getD_set, if_neg (by omega)]; exact hz q (by omega)
  · rw [getD_set, if_neg (by omega), hz _ (by omega)]; exact B32_pos
theorem MadeOk.done {L : List Nat} {R : List Nat} (h : MadeOk L L.length R) : val R = dval L := by rw [h.2.2.1, List.take_length]
end Go.Proofs.Ytgihjgkpmochcaa

namespace Go.Proofs.Ytgihjgkpmochcaa

/-- Digits so far, what is carried, and what both come to. -/
structure Carry (L : List Nat) (i c T : Nat) : Prop where
  len : L.length = i
  lt : ∀ x ∈ L, x < B32
  eq : dval L + B32 ^ i * c = T
theorem lt_snoc {L : List Nat} {x B : Nat} (h : ∀ y ∈ L, y < B) (hx : x < B) : ∀ y ∈ L ++ [x], y < B := by
  intro y hy
  rcases List.mem_append.1 hy with hy | hy
  · exact h y hy
  · rw [List.mem_singleton.1 hy]; exact hx
theorem Carry.step {L : List Nat} {i c T T' : Nat} (t s : Nat) (h : Carry L i c T) (hs : s = t + c) (hT : T' = T + B32 ^ i * t) : Carry (L ++ [s % B32]) (i + 1) (s / B32) T' := by
  refine ⟨by simp [h.len], lt_snoc h.lt (Nat.mod_lt _ B32_pos), ?_⟩
  rw [dval_snoc, h.len, Nat.pow_succ, Nat.mul_assoc, Nat.add_assoc, ← Nat.mul_add, Nat.mod_add_div, hs, hT, ← h.eq, Nat.mul_add]
  omega
theorem Carry.done {L : List Nat} {i c T : Nat} (h : Carry L i c T) (hT : T < B32 ^ i) : dval L = T ∧ c = 0 := by
  have := h.eq
  have hc : c = 0 := by
    by_cases h0 : c = 0
    · exact h0
    · have : B32 ^ i * 1 ≤ B32 ^ i * c := Nat.mul_le_mul_left _ (by omega)
      omega
  subst hc
  exact ⟨by omega, rfl⟩

def addT (m n i : Nat) : Nat := m % B32 ^ i + n % B32 ^ i
theorem addT_zero (m n : Nat) : addT m n 0 = 0 := by simp [addT, Nat.mod_one]
theorem addT_step (m n i : Nat) : addT m n (i + 1) = addT m n i + B32 ^ i * (dg m i + dg n i) := by unfold addT; rw [mod_step, mod_step, Nat.mul_add]; omega
theorem addT_done {m n k : Nat} (hm : m < B32 ^ k) (hn : n < B32 ^ k) : addT m n (k + 1) = m + n ∧ m + n < B32 ^ (k + 1) := by
  have h2 : B32 ^ k * 2 ≤ B32 ^ k * B32 := Nat.mul_le_mul_left _ (by unfold B32; omega)
  have e : B32 ^ (k + 1) = B32 ^ k * B32 := Nat.pow_succ ..
  unfold addT
  rw [mod_big (by omega), mod_big (by omega)]
  exact ⟨rfl, by omega⟩

def shlT (m q r i : Nat) : Nat := B32 ^ q * (m % B32 ^ i * 2 ^ r)
theorem shlT_step (m q r i : Nat) : shlT m q r (i + 1) = shlT m q r i + B32 ^ (q + i) * (dg m i * 2 ^ r) := by
  unfold shlT
  rw [mod_step, Nat.add_mul, Nat.mul_add, Nat.pow_add]
  congr 1
  simp only [Nat.mul_assoc]
theorem shl_split (q r n : Nat) (h : 32 * q + r = n) : 2 ^ n = B32 ^ q * 2 ^ r := by rw [← h, Nat.pow_add, B32_pow]
theorem shlT_done {m q r k : Nat} (hm : m < B32 ^ k) (hr : r < 32) : shlT m q r (k + 1) = m * (B32 ^ q * 2 ^ r) ∧ shlT m q r (k + 1) < B32 ^ (q + (k + 1)) := by
  have e : shlT m q r (k + 1) = B32 ^ q * (m * 2 ^ r) := by
    unfold shlT
    rw [mod_big (Nat.lt_of_lt_of_le hm (Nat.pow_le_pow_right B32_pos (by omega)))]
  refine ⟨by rw [e, Nat.mul_left_comm], ?_⟩
  rw [e, Nat.pow_add]
  apply Nat.mul_lt_mul_of_pos_left _ (Nat.pow_pos B32_pos)
  rw [Nat.pow_succ]
  exact Nat.mul_lt_mul_of_lt_of_le hm (by rw [B32_two]; exact Nat.pow_le_pow_right (by omega) (by omega)) B32_pos

/-- Digits so far of a difference. -/
structure Borrow (m n i : Nat) (L : List Nat) (c : Nat) : Prop where
  len : L.length = i
  lt : ∀ x ∈ L, x < B32
  c1 : c ≤ 1
  eq : dval L + n % B32 ^ i = m % B32 ^ i + B32 ^ i * c
theorem Borrow.start (m n : Nat) : Borrow m n 0 [] 0 := ⟨rfl, by simp, by omega, by simp [dval, Nat.mod_one]⟩
theorem Borrow.step {m n i c d : Nat} {L : List Nat} (h : Borrow m n i L c) (hd : d + dg n i + c = B32 + dg m i) : d / B32 ≤ 1 ∧ Borrow m n (i + 1) (L ++ [d % B32]) (1 - d / B32) := by
  have h1 := dg_lt m i
  have h2 := dg_lt n i
  have hc := h.c1
  have hq : d / B32 ≤ 1 := by
    have : d < B32 * 2 := by omega
    have := (Nat.div_lt_iff_lt_mul B32_pos).2 (show d < 2 * B32 by omega)
    omega
  refine ⟨hq, by simp [h.len], lt_snoc h.lt (Nat.mod_lt _ B32_pos), Nat.sub_le _ _, ?_⟩
  rw [dval_snoc, h.len, mod_step, mod_step, Nat.pow_succ]
  have hdm := Nat.mod_add_div d B32
  generalize d % B32 = u at *
  generalize d / B32 = t at *
  have key : u + dg n i + c = dg m i + B32 * (1 - t) := by
    have : t = 0 ∨ t = 1 := by omega
    rcases this with e | e
    · subst e; omega
    · subst e; omega
  have key2 := congrArg (B32 ^ i * ·) key
  simp only [Nat.mul_add] at key2
  have := h.eq
  rw [Nat.mul_assoc]
  omega
theorem Borrow.done {m n i c : Nat} {L : List Nat} (h : Borrow m n i L c) (hm : m < B32 ^ i) (hle : n ≤ m) : dval L = m - n := by
  have e := h.eq
  rw [mod_big hm, mod_big (by omega)] at e
  have hl := dval_lt h.lt
  rw [h.len] at hl
  have hc : c = 0 := by
    have h1 := h.c1
    have : c = 0 ∨ c = 1 := by omega
    rcases this with e1 | e1
    · exact e1
    · subst e1; omega
  subst hc
  omega

/-- Digits so far of a number shifted down. -/
structure Down (M k : Nat) (L : List Nat) : Prop where
  len : L.length = k
  lt : ∀ x ∈ L, x < B32
  eq : dval L = M % B32 ^ k
theorem Down.start (M : Nat) : Down M 0 [] := ⟨rfl, by simp, by simp [dval, Nat.mod_one]⟩
theorem Down.step {M k x : Nat} {L : List Nat} (h : Down M k L) (hx : x = dg M k) : Down M (k + 1) (L ++ [x]) :=
  ⟨by simp [h.len], lt_snoc h.lt (by rw [hx]; exact dg_lt _ _), by rw [dval_snoc, h.len, h.eq, mod_step, hx]⟩
theorem down_digit (m q r i : Nat) (hr : r < 32) (hq : q ≤ i) : (dg m i + dg m (i + 1) * B32) / 2 ^ r % B32 = dg (m / 2 ^ (32 * q + r)) (i - q) := by
  have e1 : dg m i + dg m (i + 1) * B32 = m / B32 ^ i % (B32 * B32) := by
    unfold dg
    rw [Nat.pow_succ, ← Nat.div_div_eq_div_mul, Nat.mod_mul, Nat.mul_comm B32]
  have e2 : (B32 * B32) = 2 ^ r * 2 ^ (64 - r) := by rw [← Nat.pow_add, show r + (64 - r) = 64 by omega]; rfl
  have e3 : (2 : Nat) ^ (64 - r) = B32 * 2 ^ (32 - r) := by rw [B32_two, ← Nat.pow_add]; congr 1; omega
  rw [e1, e2, Nat.mod_mul_right_div_self, e3, Nat.mod_mul_right_mod]
  unfold dg
  rw [Nat.div_div_eq_div_mul, Nat.div_div_eq_div_mul]
  congr 2
  rw [Nat.pow_add, ← B32_pow, Nat.mul_right_comm, ← Nat.pow_add, show q + (i - q) = i by omega]
theorem down_small {m q r k : Nat} (hm : m < B32 ^ k) : m / 2 ^ (32 * q + r) < B32 ^ (k - q) := by
  apply Nat.div_lt_of_lt_mul
  rw [Nat.pow_add, ← B32_pow]
  by_cases h : q ≤ k
  · have : B32 ^ k = B32 ^ q * B32 ^ (k - q) := by rw [← Nat.pow_add]; congr 1; omega
    rw [Nat.mul_right_comm, ← this]
    exact Nat.lt_of_lt_of_le hm (Nat.le_mul_of_pos_right _ (Nat.two_pow_pos r))
  · rw [show k - q = 0 by omega, Nat.pow_zero, Nat.mul_one]
    exact Nat.lt_of_lt_of_le (Nat.lt_of_lt_of_le hm (Nat.pow_le_pow_right B32_pos (by omega))) (Nat.le_mul_of_pos_right _ (Nat.two_pow_pos r))

/-- A product, digit by digit: the row so far. -/
structure MulR (a b lb N i k : Nat) (L : List Nat) (c : Nat) : Prop where
  len : L.length = N
  lt : ∀ x ∈ L, x < B32
  c1 : c < B32
  eq : dval L + B32 ^ (i + k) * c = a % B32 ^ i * b + B32 ^ i * (dg a i * (b % B32 ^ k))
theorem MulR.start (a b lb N : Nat) : MulR a b lb N 0 0 (List.replicate N 0) 0 :=
  ⟨by simp, fun x hx => by rw [(List.mem_replicate.1 hx).2]; exact B32_pos, B32_pos, by rw [dval_zeros]; simp [Nat.mod_one]⟩
theorem prod_lt {x y B : Nat} (hx : x < B) (hy : y < B) : x * y + 2 * B ≤ B * B + 1 := by
  obtain ⟨u, rfl⟩ : ∃ u, B = x + 1 + u := ⟨B - x - 1, by omega⟩
  obtain ⟨v, hv⟩ : ∃ v, x + 1 + u = y + 1 + v := ⟨x + 1 + u - y - 1, by omega⟩
  have h1 : x * y ≤ x * (x + u) := Nat.mul_le_mul_left _ (by omega)
  have e1 : (x + 1 + u) * (x + 1 + u) = x * (x + u) + x + (x + u) + u * (x + u) + u + 1 := by
    simp only [Nat.add_mul, Nat.mul_add, Nat.mul_one, Nat.one_mul]; omega
  have h3 : 0 ≤ u * (x + u) := Nat.zero_le _
  by_cases hu : u = 0
  · subst hu; simp at *; omega
  · have : 1 * (x + u) ≤ u * (x + u) := Nat.mul_le_mul_right _ (by omega)
    omega
theorem MulR.step {a b lb N i k c s : Nat} {L : List Nat} (h : MulR a b lb N i k L c) (hik : i + k < N) (hs : s = L[i + k]?.getD 0 + dg a i * dg b k + c) : s < B64 ∧ MulR a b lb N i (k + 1) (L.set (i + k) (s % B32)) (s / B32) := by
  have h1 := dg_lt a i
  have h2 := dg_lt b k
  have h3 : L[i + k]?.getD 0 < B32 := by rw [List.getElem?_eq_getElem (by rw [h.len]; exact hik)]; exact h.lt _ (List.getElem_mem _)
  have hp := prod_lt h1 h2
  have hc := h.c1
  have hsb : s < B32 * B32 := by omega
  refine ⟨hsb, by simp [h.len], fun y hy => ?_, Nat.div_lt_of_lt_mul hsb, ?_⟩
  · rcases List.mem_or_eq_of_mem_set hy with hy | rfl
    · exact h.lt y hy
    · exact Nat.mod_lt _ B32_pos
  · have hset := dval_set L (i + k) (s % B32) (by rw [h.len]; exact hik)
    have hdm := Nat.mod_add_div s B32
    have e := h.eq
    rw [mod_step, Nat.mul_add, Nat.mul_add, ← Nat.add_assoc, ← Nat.add_assoc, ← e]
    have e2 : B32 ^ i * (dg a i * (B32 ^ k * dg b k)) = B32 ^ (i + k) * (dg a i * dg b k) := by
      rw [Nat.pow_add, Nat.mul_left_comm (dg a i), Nat.mul_assoc]
    rw [e2, Nat.pow_succ, Nat.mul_assoc]
    have e3 := congrArg (B32 ^ (i + k) * ·) hdm
    simp only [Nat.mul_add] at e3
    have e4 := congrArg (B32 ^ (i + k) * ·) hs
    simp only [Nat.mul_add] at e4
    omega
theorem MulR.next {a b lb N i c : Nat} {L : List Nat} (h : MulR a b lb N i (lb + 1) L c) (hb : b < B32 ^ lb) : MulR a b lb N (i + 1) 0 L 0 := by
  have e := h.eq
  have hb1 : b < B32 ^ (lb + 1) := Nat.lt_of_lt_of_le hb (Nat.pow_le_pow_right B32_pos (by omega))
  rw [mod_big hb1, ← Nat.mul_assoc, ← Nat.add_mul, ← mod_step] at e
  have hlt : a % B32 ^ (i + 1) * b < B32 ^ (i + (lb + 1)) := by
    have e5 : B32 ^ (i + (lb + 1)) = B32 ^ (i + 1) * B32 ^ lb := by rw [← Nat.pow_add]; congr 1; omega
    rw [e5]
    exact Nat.mul_lt_mul_of_lt_of_le (Nat.mod_lt _ (Nat.pow_pos B32_pos)) (Nat.le_of_lt hb) (Nat.pow_pos B32_pos)
  have hc : c = 0 := by
    by_cases h0 : c = 0
    · exact h0
    · have : B32 ^ (i + (lb + 1)) * 1 ≤ B32 ^ (i + (lb + 1)) * c := Nat.mul_le_mul_left _ (by omega)
      omega
  subst hc
  refine ⟨h.len, h.lt, B32_pos, ?_⟩
  rw [Nat.mul_zero, Nat.add_zero] at e
  rw [Nat.mul_zero, Nat.add_zero, Nat.pow_zero, Nat.mod_one, Nat.mul_zero, Nat.mul_zero, Nat.add_zero]
  exact e
theorem MulR.done {a b lb N i : Nat} {L : List Nat} (h : MulR a b lb N i 0 L 0) (ha : a < B32 ^ i) : dval L = a * b := by
  have e := h.eq
  rw [mod_big ha, Nat.mul_zero, Nat.add_zero, Nat.pow_zero, Nat.mod_one, Nat.mul_zero, Nat.mul_zero, Nat.add_zero] at e
  exact e
end Go.Proofs.Ytgihjgkpmochcaa

namespace Go.Proofs.Ytgihjgkpmochcaa
open Go.RowKit

/-- Below n all is as it was, but for the blocks from m to B. -/
structure Hole (m B n : Nat) (w w' : World) : Prop where
  os : w'.os = w.os
  tape : w'.tape = w.tape
  output : w'.output = w.output
  size : w.heap.size ≤ w'.heap.size
  block : ∀ k, k < n → (k < m ∨ B ≤ k) → w'.heap[k]? = w.heap[k]?
theorem Hole.of_below {m B n : Nat} {w w' : World} (h : Below n w w') : Hole m B n w w' := ⟨h.os, h.tape, h.output, h.size, fun k hk _ => h.block k hk⟩
theorem Hole.refl (m B n : Nat) (w : World) : Hole m B n w w := .of_below (Below.refl _ _)
theorem Hole.trans {m B n : Nat} {a b c : World} (h : Hole m B n a b) (k : Hole m B n b c) : Hole m B n a c :=
  ⟨k.os.trans h.os, k.tape.trans h.tape, k.output.trans h.output, Nat.le_trans h.size k.size, fun i hi hx => (k.block i hi hx).trans (h.block i hi hx)⟩
theorem Hole.drewN {m B n : Nat} {a b : World} (h : Hole m B n a b) (q : Nat) : Hole m B n a (b.drewN q) := ⟨h.os, h.tape, h.output, h.size, h.block⟩
theorem Hole.cell {m B n : Nat} {w w' : World} (h : Hole m B n w w') {p : Addr} (hn : p.block < n) (hp : p.block < m ∨ B ≤ p.block) {v : Value} (hv : w.cell? p = some v) : w'.cell? p = some v := by
  rw [World.cell?_of_block (w := w) (h.block p.block hn hp)]; exact hv
theorem Hole.ext {B n : Nat} {w0 w w' : World} (h : Hole w0.heap.size B n w w') (e : Ext w0 w) (hn : w0.heap.size ≤ n) : Ext w0 w' :=
  Below.trans e ⟨h.os, h.tape, h.output, h.size, fun k hk => h.block k (by omega) (.inl hk)⟩
theorem Hole.set {m B n : Nat} {a b : World} (h : Hole m B n a b) {p : Addr} (h1 : m ≤ p.block) (h2 : p.block < B ∨ n ≤ p.block) (v : Value) : Hole m B n a (b.setCell p v) :=
  h.trans ⟨rfl, rfl, rfl, by simp [World.setCell], fun k hk hx => Below.heap_setCell _ _ _ _ (by omega)⟩
theorem Hole.alloc {m B n : Nat} {a b : World} (h : Hole m B n a b) (hn : n ≤ b.heap.size) (o : Obj) : Hole m B n a (b.alloc o) := h.trans (.of_below ((Below.refl _ _).alloc hn o))
theorem Hole.put {m B n : Nat} {w : World} (hn : n ≤ w.heap.size) (W : World) (l : Nat) (o o' : Obj) (hl : w.heap.size ≤ l) (h : W.heap[l]? = some o) (h1 : o.isCells = false) (h2 : o.isWalk = false) : Hole m B n W (W.putObj l o') :=
  .of_below (belowK_b hn W l o o' hl h h1 h2)
theorem Hole.grown {m B n : Nat} {a b c : World} {row : Option Nat} (h : Hole m B n a b) (hg : b.grownBy c row) (hn : n ≤ b.heap.size) (hr : ∀ k, row = some k → m ≤ k ∧ (k < B ∨ n ≤ k)) : Hole m B n a c :=
  h.trans ⟨hg.os, hg.tape, hg.output, hg.size, fun k hk hx => hg.block k (by omega) (fun e => by have := hr k e.symm; omega)⟩

/-- A fence that lets all in. -/
def Open (F : Fence) : Prop := (∀ f, F.fn f) ∧ F.depth = none ∧ F.alive = false
theorem open_wide : Open Fence.wide := ⟨fun _ => trivial, rfl, rfl⟩
theorem Open.inRound {F : Fence} (h : Open F) (l : Nat) : Open (F.inRound l) := h
theorem Open.fenced {F : Fence} (h : Open F) (P : Program) (m : Machine) : m.fenced P F := by
  intro g _
  refine ⟨fun ha => ?_, Or.inl (h.1 _), fun _ _ => h.1 _, fun d hd => ?_⟩
  · rw [h.2.2] at ha; cases ha
  · rw [h.2.1] at hd; cases hd
theorem Open.calls {F : Fence} (h : Open F) {n : Nat} {P : Program} {f : FuncId} {args : Array Value} {w : World} {R : Ending → World → Prop} (hc : Calls P f args w R) : CallsIn F n P f args w R :=
  ⟨h.1 f, fun cs _ => by
    obtain ⟨e, w', fr, r, s, x⟩ := hc cs
    refine ⟨e, w', fr, r, ?_, x⟩
    have := comesIn_wide.2 s
    cases e with
    | returned v => exact StepsIn.mono (fun m _ => h.fenced P m) this
    | panicked ch => exact StepsIn.mono (fun m _ => h.fenced P m) this
    | outgrown => exact this⟩

section
variable {F : Fence} {n : Nat} {P : Program} {ops : Array Oper} {md : Region.Mode}

variable {C : World → Prop}
theorem wpIn_of_quiet (hF : Open F) {o : Oper} (hd : ∀ c, o.op ≠ .defer c) {a : Act} {w : World} (hC : C w) {K : Act → Prop} {K' : Act → World → Prop} {Q' : Exit → Act → World → Prop} (h : ∀ a w', C w' → K a → K' a w') (hh : o.quiet P a C K) : o.wpIn F n P a w K' Q' := by
  obtain ⟨v, h1, h2⟩ := hh
  have h3 := h1 w hC
  unfold Oper.quietAt at h3
  unfold Oper.wpIn
  refine ⟨fun f _ => hF.1 f, ?_⟩
  rw [Oper.semAt_plain F _ _ hd]
  generalize (execOp a.eval o).run P w = r at *
  cases r with
  | ok x w' =>
    cases x <;> simp only [Oper.quietUpon] at h3 <;> simp only [Oper.uponIn]
    case enter f args =>
      obtain ⟨rfl, hc⟩ := h3
      refine ⟨(fun hs => by rw [hF.2.1] at hs; cases hs), hF.calls (hc.mono fun e w'' ⟨he, hw⟩ => ?_)⟩
      subst he; exact h _ _ hw h2
    all_goals (obtain ⟨rfl, rfl⟩ := h3; exact h _ _ hC h2)
  | halt x w' => simp only [Oper.quietUpon] at h3

def noDefer (ops : Array Oper) : Bool := ops.all fun o => match o.op with | .defer _ => false | _ => true
theorem noDefer_spec (h : noDefer ops = true) {i : Nat} {o : Oper} (ho : ops[i]? = some o) : ∀ c, o.op ≠ .defer c := by
  intro c hc
  unfold noDefer at h
  rw [Array.all_eq_true] at h
  obtain ⟨hi, rfl⟩ := Array.getElem?_eq_some_iff.1 ho
  have := h i hi
  rw [hc] at this
  cases this

theorem wpOpIn_of_qOp (hF : Open F) (hnd : noDefer ops = true) {i : Nat} {a : Act} {w : World} (hC : C w) {K : Act → Prop} {K' : Act → World → Prop} {Q' : Exit → Act → World → Prop} (h : ∀ a w', C w' → K a → K' a w') (hh : qOp P ops C i K a) : wpOpIn F n P ops Q' i K' a w := by
  unfold qOp at hh
  unfold wpOpIn
  split
  · rename_i ho; simp only [ho] at hh; exact h _ _ hC hh
  · rename_i o ho
    simp only [ho] at hh
    split
    · rename_i hw; simp only [hw, if_true] at hh; exact wpIn_of_quiet hF (noDefer_spec hnd ho) hC h hh
    · rename_i hw; simp only [hw] at hh; exact ⟨fun f _ => hF.1 f, h _ _ hC hh⟩

/-- The head alone, in whatever order. -/
def wpAnyH (P : Program) (md : Region.Mode) (ops : Array Oper) (C : World → Prop) (k : Nat) (L : Array Bool → Act → Prop) : Nat → Array Bool → Act → Prop
  | 0, listed, a => L listed a
  | f + 1, listed, a =>
    Region.ready md ops listed ≠ [] ∧ ∀ i ∈ Region.ready md ops listed, i < k ∧ qOp P ops C i (wpAnyH P md ops C k L f (listed.setIfInBounds i true)) a

theorem wpAnyIn_of_head (hF : Open F) (hnd : noDefer ops = true) {k g : Nat} {L : Array Bool → Act → Prop} {Q' : Exit → Act → World → Prop} (hL : ∀ listed a w, C w → L listed a → wpAnyIn F n P md ops Q' g listed a w) :
    ∀ (f : Nat) (listed : Array Bool) (a : Act) (w : World), C w → wpAnyH P md ops C k L f listed a → wpAnyIn F n P md ops Q' (f + g) listed a w
  | 0, listed, a, w, hC, h => by rw [Nat.zero_add]; exact hL _ _ _ hC h
  | f + 1, listed, a, w, hC, h => by
    rw [show f + 1 + g = (f + g) + 1 by omega]
    exact ⟨fun h0 => absurd h0 h.1, fun i hi => wpOpIn_of_qOp hF hnd hC (fun a' w' hC' h' => wpAnyIn_of_head hF hnd hL f _ a' w' hC' h') (h.2 i hi).2⟩
theorem wpAny_of_headQ {k g : Nat} {L : Array Bool → Act → Prop} {Q' : Exit → Act → World → Prop} (hL : ∀ listed a w, C w → L listed a → wpAny P md ops Q' g listed a w) :
    ∀ (f : Nat) (listed : Array Bool) (a : Act) (w : World), C w → wpAnyH P md ops C k L f listed a → wpAny P md ops Q' (f + g) listed a w
  | 0, listed, a, w, hC, h => by rw [Nat.zero_add]; exact hL _ _ _ hC h
  | f + 1, listed, a, w, hC, h => by
    rw [show f + 1 + g = (f + g) + 1 by omega]
    exact ⟨fun h0 => absurd h0 h.1, fun i hi => wpOp_of_qOp hC (fun a' w' hC' h' => wpAny_of_headQ hL f _ a' w' hC' h') (h.2 i hi).2⟩

theorem wpAnyH_first {k i : Nat} {oi : Oper} {v : Value} {L : Array Bool → Act → Prop} (hi : ops[i]? = some oi) (hsel : ∀ (j : Nat) (o : Oper) cs b, ops[j]? = some o → o.op ≠ .select cs b)
    (hs : Region.sinkB md ops k = true) (hc : Region.chainB md ops k = true) (hn : k < ops.size) (hin : i < k)
    (hdone : ∀ listed a, L listed a → ∀ j ∈ Region.ready md ops listed, k ≤ j) :
    ∀ (f : Nat) (listed : Array Bool) (a : Act), HeadInv md ops k listed →
      (∀ j oj, ops[j]? = some oj → j ≠ i → listed.getD j true = false → (∀ e ∈ oj.after, Region.binds md e = true → e.on ≠ i) → oi.apart ops oj = true) →
      i ∈ Region.ready md ops listed → YieldsIn P ops C oi v a →
      wpAnyH P md ops C k L f (listed.setIfInBounds i true) (a.put oi.dst v) → wpAnyH P md ops C k L (f + 1) listed a := by
  intro f
  induction f with
  | zero =>
    intro listed a inv _ hr hy H
    have hun := (mem_ready.1 hr).1
    refine ⟨fun h => (by rw [h] at hr; cases hr), fun j hj => ?_⟩
    have hjn : j < k := by
      rcases Nat.lt_or_ge j k with h | h
      · exact h
      · exact absurd hj (tail_waits hs hc hn inv _ i rfl hin hun j h)
    refine ⟨hjn, ?_⟩
    by_cases hji : j = i
    · subst hji; exact hy.qOp hi H
    · have := hdone _ _ H j (ready_mono hj hji)
      omega
  | succ f ih =>
    intro listed a inv hfree hr hy H
    have hun := (mem_ready.1 hr).1
    refine ⟨fun h => (by rw [h] at hr; cases hr), fun j hj => ?_⟩
    have hjn : j < k := by
      rcases Nat.lt_or_ge j k with h | h
      · exact h
      · exact absurd hj (tail_waits hs hc hn inv _ i rfl hin hun j h)
    refine ⟨hjn, ?_⟩
    by_cases hji : j = i
    · subst hji; exact hy.qOp hi H
    · have h1 := (H.2 j (ready_mono hj hji)).2
      obtain ⟨hjun, oj, hoj, hall⟩ := mem_ready.1 hj
      have hnot : ∀ e ∈ oj.after, Region.binds md e = true → e.on ≠ i := fun e he hb heq => by
        have h1 := hall e he hb
        rw [heq, getD_both hun] at h1
        cases h1
      have h2 := qOp_put hoj (hfree j oj hoj hji hjun hnot) (fun cs b => hsel i oi cs b hi) (fun cs b => hsel j oj cs b hoj) hy h1
      have hfree' : ∀ q ok, ops[q]? = some ok → q ≠ i → (listed.setIfInBounds j true).getD q true = false →
          (∀ e ∈ ok.after, Region.binds md e = true → e.on ≠ i) → oi.apart ops ok = true := fun q ok hk hki hun hno => by
        refine hfree q ok hk hki ?_ hno
        by_cases hjk : j = q
        · subst hjk; exact hjun
        · rw [getD_set_ne true hjk] at hun; exact hun
      refine qOp_mono (fun a' h3 => ih (listed.setIfInBounds j true) a' (inv.set hj hjn) hfree' (ready_mono hr (Ne.symm hji)) h3.1 ?_) h2
      rw [Array.setIfInBounds_comm _ _ hji]
      exact h3.2

theorem wpAnyH_lex {k g : Nat} {Lq : Act → Prop} (hsel : Region.noSelect ops = true) (hs : Region.sinkB md ops k = true) (hc : Region.chainB md ops k = true) (hn : k < ops.size) :
    ∀ (l : List Oper) (q : Nat) (listed : Array Bool) (a : Act), (∀ j, j < l.length → l[j]? = ops[q + j]?) → q + l.length = k → HeadInv md ops k listed →
    Region.lexHead md ops g l.length q listed = true → wpQuiet P ops C Lq l a →
    wpAnyH P md ops C k (fun listed' a' => Region.seqB md ops g k listed' = true ∧ Lq a') l.length listed a
  | [], q, listed, a, _, hk, _, hB, h => by
    have : q = k := by simpa using hk
    subst this
    exact ⟨by simpa [Region.lexHead] using hB, h⟩
  | o :: l, q, listed, a, hl, hk, inv, hB, h => by
    have h0 : ops[q]? = some o := by simpa using (hl 0 (by simp)).symm
    simp only [List.length_cons, Region.lexHead, Bool.and_eq_true] at hB
    obtain ⟨⟨hr, hf⟩, hB'⟩ := hB
    have hkn : q < k := by simp only [List.length_cons] at hk; omega
    have hr' : q ∈ Region.ready md ops listed := by simpa using hr
    have hst : qOp P ops C q (wpQuiet P ops C Lq l) a := by unfold qOp; simp only [h0]; exact h
    obtain ⟨v, hy, hK⟩ := yieldsIn_of_qOp h0 hst
    exact wpAnyH_first h0 (Region.noSelect_spec hsel) hs hc hn hkn (fun listed' a' hL => seqB_ready hL.1) l.length listed a inv (Region.free_spec h0 hf) hr' hy
      (wpAnyH_lex hsel hs hc hn l (q + 1) _ _ (fun j hj => by have := hl (j + 1) (by simp; omega); simpa [Nat.add_assoc, Nat.add_comm 1 j] using this) (by simp only [List.length_cons] at hk; omega) (inv.set hr' hkn) hB' hK)

theorem wpAnyIn_of_seq (Q' : Exit → Act → World → Prop) : ∀ (l : List Oper) (k : Nat) (listed : Array Bool) (a : Act) (w : World), (∀ j, l[j]? = ops[k + j]?) →
    Region.seqB md ops l.length k listed = true → wpListIn F n P ops Q' l a w → wpAnyIn F n P md ops Q' l.length listed a w
  | [], _, _, _, _, _, hB, h => ⟨by simpa [Region.seqB] using hB, h⟩
  | o :: l, k, listed, a, w, hl, hB, h => by
    have h0 : ops[k]? = some o := by simpa using (hl 0).symm
    simp only [List.length_cons, Region.seqB, Bool.and_eq_true, decide_eq_true_eq] at hB
    refine ⟨fun h1 => (by rw [hB.1] at h1; cases h1), fun i hi => ?_⟩
    rw [hB.1] at hi
    have hik : i = k := by simpa using hi
    subst hik
    have hw : wpOpIn F n P ops Q' i (wpListIn F n P ops Q' l) a w := by unfold wpOpIn; simp only [h0]; exact h
    exact wpOpIn_mono (fun a' w' h' => wpAnyIn_of_seq Q' l (i + 1) _ a' w' (fun j => by have := hl (j + 1); simpa [Nat.add_assoc, Nat.add_comm 1 j] using this) hB.2 h') hw

theorem headH {l : List Oper} {a : Act} {k : Nat} {Lq : Act → Prop} (hB : Region.lexTailB .any l.toArray k = true) (h : wpQuiet P l.toArray C Lq (l.take k) a) :
    k < l.length ∧ wpAnyH P .any l.toArray C k (fun listed' a' => Region.seqB .any l.toArray (l.toArray.size - k) k listed' = true ∧ Lq a') k (Array.replicate l.toArray.size false) a := by
  simp only [Region.lexTailB, Bool.and_eq_true, decide_eq_true_eq] at hB
  obtain ⟨⟨⟨⟨hsel, hn⟩, hs⟩, hc⟩, hlex⟩ := hB
  have hn' : k < l.length := by simpa using hn
  have htl : (l.take k).length = k := by simp; omega
  have inv0 : HeadInv .any l.toArray k (Array.replicate l.toArray.size false) :=
    ⟨by simp, fun j oj _ hl => (by rw [getD_replicate_false] at hl; cases hl), fun t _ ht => getD_in (by simpa using ht) (getD_replicate_false _ _)⟩
  have H := wpAnyH_lex (md := .any) (g := l.toArray.size - k) hsel hs hc hn (l.take k) 0 _ a (fun j hj => by
    have hj' : j < k := by rw [htl] at hj; exact hj
    simp [hj']) (by simpa using htl) inv0 (by rw [htl]; exact hlex) h
  rw [htl] at H
  exact ⟨hn', H⟩

/-- Inside a fence: all but the last operations read, or call what only reads; the last ones come in one order. -/
theorem wpIn_region_tail (hF : Open F) {id : Nat} {Q : Exit → Act → World → Prop} {a : Act} {w : World} {l : List Oper} (k : Nat) (hm : P.follows .mixedOrders = true) (hB : (Region.lexTailB .any l.toArray k && noDefer l.toArray) = true)
    (h : wpQuiet P l.toArray (fun w' => ∃ q, w' = w.drewN q) (fun a' => ∀ w', (∃ q, w' = w.drewN q) → wpListIn F n P l.toArray Q (l.drop k) a' w') (l.take k) a) : (Code.region id l.toArray true).wpIn F n P Q a w := by
  rw [Bool.and_eq_true] at hB
  obtain ⟨hn', H⟩ := headH hB.1 h
  have hdl : (l.drop k).length = l.toArray.size - k := by simp
  refine wpIn_region_any hm ?_
  have := wpAnyIn_of_head (n := n) hF hB.2 (g := l.toArray.size - k) (fun listed a' w' hC hL => by
    have := wpAnyIn_of_seq (n := n) (md := .any) Q (l.drop k) k listed a' w' (fun j => by simp [List.getElem?_drop]) (by rw [hdl]; exact hL.1) (hL.2 w' hC)
    rwa [hdl] at this) _ _ _ w.drew ⟨1, rfl⟩ H
  rw [show k + (l.toArray.size - k) = l.toArray.size by simp; omega] at this
  exact this

/-- The same with no fence. -/
theorem wp_region_tail {id : Nat} {Q : Exit → Act → World → Prop} {a : Act} {w : World} {l : List Oper} (k : Nat) (hm : P.follows .mixedOrders = true) (hB : Region.lexTailB .any l.toArray k = true)
    (h : wpQuiet P l.toArray (fun w' => ∃ q, w' = w.drewN q) (fun a' => ∀ w', (∃ q, w' = w.drewN q) → wpList P l.toArray Q (l.drop k) a' w') (l.take k) a) : (Code.region id l.toArray true).wp P Q a w := by
  obtain ⟨hn', H⟩ := headH hB h
  have hdl : (l.drop k).length = l.toArray.size - k := by simp
  refine wp_region_any hm ?_
  have := wpAny_of_headQ (g := l.toArray.size - k) (fun listed a' w' hC hL => by
    have := wpAny_of_seq (md := .any) (Q' := Q) (l.drop k) k listed a' w' (fun j => by simp [List.getElem?_drop]) (by rw [hdl]; exact hL.1) (hL.2 w' hC)
    rwa [hdl] at this) _ _ _ w.drew ⟨1, rfl⟩ H
  rw [show k + (l.toArray.size - k) = l.toArray.size by simp; omega] at this
  exact this
end
end Go.Proofs.Ytgihjgkpmochcaa
