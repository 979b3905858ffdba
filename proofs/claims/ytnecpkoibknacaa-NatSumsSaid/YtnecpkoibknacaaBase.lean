/- Worlds and slices of numbers, with no program in sight: what a call may add to a world; how a slice reads as limbs. -/
import Derived.WalkKit
import Derived.Lib.Hide
import Derived.Deep.QuietTactic
import Derived.BigQuiet
import Derived.WalkSpells
import Derived.Laws.AppendOwnNone
import Derived.Laws.CopyOwn
namespace Go.Proofs.Ytnecpkoibknacaa
open Go.RowKit

/-- The second world has all that the first one had. -/
def Ext (w w' : World) : Prop := Below w.heap.size w w'

theorem Ext.below {w w' : World} (h : Ext w w') : Below w.heap.size w w' := h
theorem Ext.refl (w : World) : Ext w w := Below.refl _ _
theorem Ext.size {w w' : World} (h : Ext w w') : w.heap.size ≤ w'.heap.size := Below.size h
theorem Ext.trans {a b c : World} (h : Ext a b) (k : Ext b c) : Ext a c := Below.trans h (Below.mono k h.size)
theorem Ext.alloc {a w : World} (h : Ext a w) (o : Obj) : Ext a (w.alloc o) := Below.alloc h h.size o
theorem Ext.drew {a w : World} (h : Ext a w) : Ext a w.drew := Below.drew h
theorem Ext.drewN {a w : World} (h : Ext a w) (n : Nat) : Ext a (w.drewN n) := ⟨h.os, h.tape, h.output, h.size, h.block⟩
theorem Ext.set {a w : World} (h : Ext a w) {p : Addr} (hp : a.heap.size ≤ p.block) (v : Value) : Ext a (w.setCell p v) := Below.setCell h hp v
theorem Ext.grown {a w w' : World} {row : Option Nat} (h : Ext a w) (hg : w.grownBy w' row) (hr : ∀ k, row = some k → a.heap.size ≤ k) : Ext a w' := Below.grown h hg h.size hr
theorem Ext.block {w w' : World} (h : Ext w w') {k : Nat} {o : Obj} (hk : w.heap[k]? = some o) : w'.heap[k]? = some o := by
  rw [Below.block h k (Array.getElem?_eq_some_iff.1 hk).1]; exact hk
theorem Ext.cell {w w' : World} (h : Ext w w') {p : Addr} {v : Value} (hv : w.cell? p = some v) : w'.cell? p = some v := by
  rw [Below.cell h (World.block_lt_of_cell? w p hv)]; exact hv
theorem Ext.frozen {w w' : World} (h : Ext w w') {p : Addr} {v : Value} (hv : w.cell? p = some v) : w'.frozen? p = w.frozen? p :=
  Below.frozen h (World.block_lt_of_cell? w p hv)
/-- Of two worlds that each keep the first: what lay in the first is kept. -/
theorem Ext.of_alloc (w : World) (o : Obj) : Ext w (w.alloc o) := (Ext.refl w).alloc o

/-- A call's end: it returns, has kept what lay, and Q holds. -/
def Post (w : World) (Q : Value → World → Prop) (e : Ending) (w' : World) : Prop := ∃ v, e = .returned v ∧ Ext w w' ∧ Q v w'

theorem Post.mk {w : World} {Q : Value → World → Prop} {v : Value} {w' : World} (hb : Ext w w') (h : Q v w') : Post w Q (.returned v) w' := ⟨v, rfl, hb, h⟩

/-- The bound of a limb. -/
def B64 : Nat := 18446744073709551616

/-- The slice (a, n, c) reads as the limbs xs. -/
structure Nums (w : World) (a : Option Addr) (n c : Nat) (xs : List Nat) : Prop where
  len : xs.length = n
  few : n ≤ 65536
  cap : n ≤ c
  lt : ∀ x ∈ xs, x < B64
  at_ : n = 0 ∨ ∃ b off, a = some ⟨b, off, none⟩ ∧ ∀ i, i < n → w.cell? ⟨b, off + i, none⟩ = some (.int .u64 ((xs[i]?.getD 0 : Nat) : Int))

theorem Nums.ext {w w' : World} {a : Option Addr} {n c : Nat} {xs : List Nat} (h : Nums w a n c xs) (e : Ext w w') : Nums w' a n c xs :=
  ⟨h.len, h.few, h.cap, h.lt, h.at_.imp id fun ⟨b, off, ha, hc⟩ => ⟨b, off, ha, fun i hi => e.cell (hc i hi)⟩⟩
theorem Nums.nil (w : World) (a : Option Addr) (c : Nat) : Nums w a 0 c [] := ⟨rfl, by omega, by omega, fun _ h => by simp at h, .inl rfl⟩
theorem Nums.bd {w : World} {a : Option Addr} {n c : Nat} {xs : List Nat} (h : Nums w a n c xs) (i : Nat) : xs[i]?.getD 0 < B64 := by
  cases hi : xs[i]? with
  | none => simp [B64]
  | some x => exact h.lt x (List.mem_of_getElem? hi)
theorem Nums.take {w : World} {a : Option Addr} {n c : Nat} {xs : List Nat} (h : Nums w a n c xs) (k c' : Nat) (hk : k ≤ n) (hc' : k ≤ c') : Nums w a k c' (xs.take k) := by
  refine ⟨by simp [h.len]; omega, by have := h.few; omega, hc', fun x hx => h.lt x (List.mem_of_mem_take hx), ?_⟩
  rcases h.at_ with h0 | ⟨b, off, ha, hc⟩
  · exact .inl (by omega)
  · exact .inr ⟨b, off, ha, fun i hi => by rw [hc i (by omega), List.getElem?_take, if_pos hi]⟩
theorem Nums.at {w : World} {a : Option Addr} {n c : Nat} {xs : List Nat} (h : Nums w a n c xs) {i : Nat} (hi : i < n) : ∃ b off, a = some ⟨b, off, none⟩ ∧ w.cell? ⟨b, off + i, none⟩ = some (.int .u64 ((xs[i]?.getD 0 : Nat) : Int)) := by
  rcases h.at_ with h0 | ⟨b, off, ha, hc⟩
  · omega
  · exact ⟨b, off, ha, hc i hi⟩
/-- What a row of the call's own holds reads as limbs. -/
theorem Nums.of_own {w : World} {B e : Nat} {v : Value} {xs : List Nat} (h : w.ownsRow B e 1 v xs.length (xs.map fun (x : Nat) => Value.int .u64 (x : Int))) (hf : xs.length ≤ 65536) (hx : ∀ x ∈ xs, x < B64) :
    ∃ a c, v = .slice a xs.length c ∧ Nums w a xs.length c xs := by
  have h' := h
  obtain ⟨_, h2⟩ := h
  rcases h2 with ⟨rfl, h0⟩ | ⟨g, cap, cur, rfl, hg, hh, hr⟩
  · refine ⟨none, 0, by rw [h0], ⟨rfl, hf, by omega, hx, .inl h0⟩⟩
  · refine ⟨some ⟨g, 0, none⟩, cap, rfl, ⟨rfl, hf, hr.1, hx, .inr ⟨g, 0, rfl, fun i hi => ?_⟩⟩⟩
    have := h'.cells (g := g) rfl i (.int .u64 ((xs[i]?.getD 0 : Nat) : Int)) (by simp [List.getElem?_eq_getElem hi])
    rw [← this]; congr 1; unfold Addr.add; split <;> simp_all

/-- The slice (a, n, c) reads as the cells vs, of so many a limb. -/
def CellsAt (w : World) (a : Option Addr) (vs : List Value) : Prop := vs = [] ∨ ∃ ad, a = some ad ∧ ∀ j u, vs[j]? = some u → w.cell? (ad.add j) = some u

theorem addr_add (b off j : Nat) : (⟨b, off, none⟩ : Addr).add j = ⟨b, off + j, none⟩ := by unfold Addr.add; split <;> simp_all
theorem CellsAt.ext {w w' : World} {a : Option Addr} {vs : List Value} (h : CellsAt w a vs) (e : Ext w w') : CellsAt w' a vs :=
  h.imp id fun ⟨ad, ha, hc⟩ => ⟨ad, ha, fun j u hj => e.cell (hc j u hj)⟩
theorem Nums.cells {w : World} {a : Option Addr} {n c : Nat} {xs : List Nat} (h : Nums w a n c xs) : CellsAt w a (xs.map fun (x : Nat) => Value.int .u64 (x : Int)) := by
  rcases h.at_ with h0 | ⟨b, off, ha, hc⟩
  · left; have := h.len; rw [h0] at this; rw [List.eq_nil_of_length_eq_zero this]; rfl
  · right
    refine ⟨_, ha, fun j u hj => ?_⟩
    rw [List.getElem?_map] at hj
    have hlt : j < xs.length := by
      cases hx : xs[j]? with
      | none => rw [hx] at hj; cases hj
      | some x => exact (List.getElem?_eq_some_iff.1 hx).1
    rw [addr_add, hc j (by have := h.len; omega)]
    rw [List.getElem?_eq_getElem hlt] at hj ⊢
    simpa using hj

theorem run_append_zero {P : Program} (w : World) (base : Nat) (t ty e : TypeId) (i : TypeInfo) (size : Nat) (ht : P.underlying t = some (.slice e)) (hi : P.info? e = some i)
    (v : Value) (n : Nat) (xs : List Value) (hown : w.ownsRow base e size v n xs) (sa : Option Addr) (c : Nat) :
    (Builtin.append_ #[t, t] ty #[v, .slice sa 0 c]).run P w = .ok v w := by
  have hf : (Builtin.firstCells i.size 0 (.slice sa 0 c)).run P w = .ok #[] w := by
    cases sa with
    | none => exact run_firstCells_none (P := P) w i.size 0 0 c
    | some ad => have := run_firstCells_some (P := P) w i.size 0 ad 0 c [] (by simp) (fun j v h => by simp at h); simpa using this
  rcases hown.2 with ⟨rfl, rfl⟩ | ⟨g, cap, cur, rfl, _, _, hnc, _⟩
  · simp [Builtin.append_, run_underlying ht, sizeOf, typeInfo, hi, Builtin.lenOf, hf]
  · simp [Builtin.append_, run_underlying ht, sizeOf, typeInfo, hi, Builtin.lenOf, hf, hnc, storeCells]

/-- append onto a slice of the call's own, from whatever source. -/
theorem wpList_append_cells {P : Program} {w : World} {ops : Array Oper} {rest : List Oper} {o : Oper} {a : Act} {Q : Exit → Act → World → Prop} (hgd : o.guard = none) (s x : Operand) (t : TypeId)
    (ho : o.op = .call { callee := .builtin .append, args := #[s, x], argTypes := #[t, t] })
    (base : Nat) (e : TypeId) (i : TypeInfo) (z : Value) (size bytes : Nat) (ht : P.underlying t = some (.slice e)) (hi : P.info? e = some i) (hz : i.zero = some z)
    (hsize : i.size = size) (hby : i.bytes = bytes) (hzs : z.cells.size = size) (hsz : 0 < size)
    (v : Value) (n : Nat) (xs : List Value) (hs : a.eval s = v) (hown : w.ownsRow base e size v n xs)
    (sa : Option Addr) (m c : Nat) (news : List Value) (hx : a.eval x = .slice sa m c) (hl : news.length = m * size) (hnews : CellsAt w sa news) (h1 : ∀ u ∈ news, u.oneCell' = true)
    (h63 : n + m ≤ maxLen) (hbytes : (n + m) * bytes ≤ 140737488355328) (hbase : base ≤ w.heap.size)
    (h : ∀ v' w', w'.ownsRow base e size v' (n + m) (xs ++ news) → w.grownBy w' v.ownBlock → wpList P ops Q rest (a.put o.dst v') w') : wpList P ops Q (o :: rest) a w := by
  by_cases hm : m = 0
  · subst hm
    have hn : news = [] := List.eq_nil_of_length_eq_zero (by simpa using hl)
    subst hn
    refine wpList_plain hgd fun K hK => ?_
    have hrun := run_append_zero (P := P) w base t o.type e i size ht hi v n xs hown sa c
    unfold Oper.wp
    simp [execOp, ho, resolve, invoke, builtin, hs, hx, hrun, Result.andThen]
    exact hK _ _ (h v w (by simpa using hown) ⟨rfl, rfl, rfl, Nat.le_refl _, fun _ _ _ => rfl⟩)
  · rcases hnews with hn | ⟨ad, rfl, hc⟩
    · rw [hn] at hl
      have : 0 < m * size := Nat.mul_pos (by omega) hsz
      simp at hl; omega
    · exact wpList_append_own w hgd s x t ho base e i z size bytes ht hi hz hsize hby hzs hsz v n xs hs hown ad m c news hx hl hc h1 h63 hbytes hbase (fun v' w' a b _ => h v' w' a b)
theorem own_block {w : World} {base e size n : Nat} {v : Value} {xs : List Value} (h : w.ownsRow base e size v n xs) : ∀ k, v.ownBlock = some k → base ≤ k := fun k hk => (h.lt k hk).1
/-- The same, with what lay before the call in sight. -/
theorem wpList_app {P : Program} {w : World} {ops : Array Oper} {rest : List Oper} {o : Oper} {a : Act} {Q : Exit → Act → World → Prop} (w0 : World) (hw : Ext w0 w) (hgd : o.guard = none) (s x : Operand) (t : TypeId)
    (ho : o.op = .call { callee := .builtin .append, args := #[s, x], argTypes := #[t, t] })
    (e : TypeId) (i : TypeInfo) (z : Value) (size bytes : Nat) (ht : P.underlying t = some (.slice e)) (hi : P.info? e = some i) (hz : i.zero = some z)
    (hsize : i.size = size) (hby : i.bytes = bytes) (hzs : z.cells.size = size) (hsz : 0 < size)
    (v : Value) (n : Nat) (xs : List Value) (hs : a.eval s = v) (hown : w.ownsRow w0.heap.size e size v n xs)
    (sa : Option Addr) (m c : Nat) (news : List Value) (hx : a.eval x = .slice sa m c) (hl : news.length = m * size) (hnews : CellsAt w sa news) (h1 : ∀ u ∈ news, u.oneCell' = true)
    (hbytes : (n + m) * bytes ≤ 140737488355328) (h63 : n + m ≤ 140737488355328)
    (h : ∀ v' w', w'.ownsRow w0.heap.size e size v' (n + m) (xs ++ news) → Ext w0 w' → w.grownBy w' v.ownBlock → wpList P ops Q rest (a.put o.dst v') w') : wpList P ops Q (o :: rest) a w :=
  wpList_append_cells hgd s x t ho w0.heap.size e i z size bytes ht hi hz hsize hby hzs hsz v n xs hs hown sa m c news hx hl hnews h1 (by unfold maxLen; omega) hbytes hw.size
    fun v' w' h2 h3 => h v' w' h2 (hw.grown h3 (own_block hown)) h3
theorem oneCell_u64 (xs : List Nat) : ∀ u ∈ (xs.map fun (x : Nat) => Value.int .u64 (x : Int)), u.oneCell' = true := by
  intro u hu
  obtain ⟨x, _, rfl⟩ := List.mem_map.1 hu
  rfl
end Go.Proofs.Ytnecpkoibknacaa
