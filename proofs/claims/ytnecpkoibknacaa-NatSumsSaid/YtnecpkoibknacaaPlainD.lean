/- Rows of limbs that are written; what a turned limb does to the number. -/
import Derived.Test.YtnecpkoibknacaaPlainC
namespace Go.Proofs.Ytnecpkoibknacaa
set_option linter.unusedVariables false
open Go.RowKit

/-- Limbs as cells. -/
def lims (l : List Nat) : List Value := l.map fun (x : Nat) => Value.int .u64 (x : Int)
theorem lims_snoc (l : List Nat) (x : Nat) : lims (l ++ [x]) = lims l ++ [Value.int .u64 (x : Int)] := by simp [lims]
theorem length_lims (l : List Nat) : (lims l).length = l.length := by simp [lims]

/-- Block b holds the limbs L, and may be written. -/
def Row (w : World) (b T : Nat) (L : List Nat) : Prop := w.heap[b]? = some (.cells (lims L).toArray T (0, 0))
theorem Row.lt {w : World} {b T : Nat} {L : List Nat} (h : Row w b T L) : b < w.heap.size := (Array.getElem?_eq_some_iff.1 h).1
theorem Row.cell {w : World} {b T : Nat} {L : List Nat} (h : Row w b T L) {i : Nat} (hi : i < L.length) : w.cell? ⟨b, i, none⟩ = some (.int .u64 ((L[i]?.getD 0 : Nat) : Int)) := by
  simp [World.cell?, show w.heap[b]? = _ from h, lims, hi]
theorem Row.frozen {w : World} {b T : Nat} {L : List Nat} (h : Row w b T L) (i : Nat) : w.frozen? ⟨b, i, none⟩ = false := by simp [World.frozen?, show w.heap[b]? = _ from h]
theorem Row.set {w : World} {b T : Nat} {L : List Nat} (h : Row w b T L) (i x : Nat) : Row (w.setCell ⟨b, i, none⟩ (.int .u64 (x : Int))) b T (L.set i x) := by
  obtain ⟨hlt, hk⟩ := Array.getElem?_eq_some_iff.1 h
  show (w.heap.modify b _)[b]? = _
  rw [Array.getElem?_eq_getElem (by rw [Array.size_modify]; exact hlt), Array.getElem_modify_self, hk]
  simp [lims]
theorem Row.other {w : World} {b T : Nat} {L : List Nat} (h : Row w b T L) {p : Addr} (hp : p.block ≠ b) (v : Value) : Row (w.setCell p v) b T L :=
  (Below.heap_setCell w p v b (Ne.symm hp)).trans h
theorem Row.ext {w w' : World} {b T : Nat} {L : List Nat} (h : Row w b T L) (e : Ext w w') : Row w' b T L := e.block h
theorem Row.drewN {w : World} {b T : Nat} {L : List Nat} (h : Row w b T L) (q : Nat) : Row (w.drewN q) b T L := h
theorem Row.nums {w : World} {b T c : Nat} {L : List Nat} (h : Row w b T L) (hf : L.length ≤ 65536) (hc : L.length ≤ c) (hx : ∀ x ∈ L, x < B64) : Nums w (some ⟨b, 0, none⟩) L.length c L :=
  ⟨rfl, hf, hc, hx, .inr ⟨b, 0, rfl, fun i hi => by rw [Nat.zero_add]; exact h.cell hi⟩⟩
theorem madeCells_lims (n : Nat) : madeCells #[Value.int .u64 0] n = (lims (List.replicate n 0)).toArray := by
  apply Array.ext
  · simp [madeCells, lims]
  · intro i h1 h2
    simp [madeCells, lims, Nat.mod_one]

/-- make of limbs. -/
theorem wpList_make_row {P : Program} (w : World) {ops : Array Oper} {rest : List Oper} {o : Oper} {a : Act} {Q : Exit → Act → World → Prop}
    (hg : o.guard = none) (l c : Operand) (t : TypeId) (hop : o.op = Op.makeSlice t l c)
    (e : TypeId) (i : TypeInfo) (h1 : P.underlying t = some (.slice e)) (h2 : P.info? e = some i) (h3 : i.zero = some (.int .u64 0)) (h4 : i.size = 1) (h5 : i.bytes = 8)
    (kl kc : IntKind) (L C : Int) (n : Nat) (hl : a.eval l = .int kl L) (hc : a.eval c = .int kc C) (hL : L = (n : Int)) (hC : C = (n : Int)) (hn : n ≤ 1000000)
    (hK : ∀ w', Row w' w.heap.size e (List.replicate n 0) → Ext w w' → w'.heap.size = w.heap.size + 1 → wpList P ops Q rest (a.put o.dst (.slice (some ⟨w.heap.size, 0, none⟩) n n)) w') :
    wpList P ops Q (o :: rest) a w := by
  refine wpList_plain hg fun K hK' => ?_
  have hrun := run_make (P := P) w t e i _ h1 h2 h3 kl kc (n : Int) (n : Int) (by omega) (Int.le_refl _) (by rw [h5]; omega) (by omega)
  subst hL
  subst hC
  unfold Oper.wp
  simp [execOp, hop, hl, hc, hrun, Result.andThen]
  refine hK' _ _ (hK _ ?_ (Ext.of_alloc _ _) (by simp))
  rw [h4, Nat.mul_one]
  show (w.alloc (.cells (madeCells (Value.cells (.int .u64 0)) n) e)).heap[w.heap.size]? = _
  rw [show Value.cells (.int .u64 0) = #[Value.int .u64 0] from rfl, madeCells_lims]
  exact heap_alloc_new w _

/-- What a turned limb does. -/
theorem val_set (L : List Nat) (i x : Nat) (hi : i < L.length) : val (L.set i x) + B64 ^ i * L[i]?.getD 0 = val L + B64 ^ i * x := by
  induction L generalizing i with
  | nil => simp at hi
  | cons y L ih =>
    cases i with
    | zero => simp [val]; omega
    | succ i =>
      have := ih i (by simpa using hi)
      rw [List.set_cons_succ, val, val, List.getElem?_cons_succ, Nat.pow_succ]
      have h2 := congrArg (B64 * ·) this
      simp only [Nat.mul_add] at h2
      rw [Nat.mul_comm (B64 ^ i) B64, Nat.mul_assoc, Nat.mul_assoc]
      omega
theorem getD_set (L : List Nat) (i j x : Nat) : (L.set i x)[j]?.getD 0 = if i = j ∧ i < L.length then x else L[j]?.getD 0 := by
  rw [List.getElem?_set]
  by_cases h : i = j
  · subst h
    by_cases h2 : i < L.length
    · simp [h2]
    · simp [h2]
  · simp [h]
theorem lt_set {L : List Nat} {x : Nat} (h : ∀ y ∈ L, y < B64) (hx : x < B64) (i : Nat) : ∀ y ∈ L.set i x, y < B64 := by
  intro y hy
  rcases List.mem_or_eq_of_mem_set hy with hy | rfl
  · exact h y hy
  · exact hx
theorem getD_replicate (n i : Nat) : (List.replicate n 0)[i]?.getD 0 = 0 := by
  rw [List.getElem?_replicate]; split <;> rfl

/-! Shifts -/
theorem or_low (y z k : Nat) (hy : y < 2 ^ k) : y ||| (2 ^ k * z) = y + 2 ^ k * z := by
  rw [Nat.or_comm, ← Nat.two_pow_add_eq_or_of_lt hy, Nat.add_comm]
theorem mod_shift (x k : Nat) (hk : k ≤ 64) : x * 2 ^ k % 2 ^ 64 = 2 ^ k * (x % 2 ^ (64 - k)) := by
  have : (2 : Nat) ^ 64 = 2 ^ k * 2 ^ (64 - k) := by rw [← Nat.pow_add]; congr 1; omega
  rw [this, Nat.mul_comm x, Nat.mul_mod_mul_left]
theorem div_shift (x k : Nat) (hk : k ≤ 64) : x * 2 ^ k / 2 ^ 64 = x / 2 ^ (64 - k) := by
  have : (2 : Nat) ^ 64 = 2 ^ k * 2 ^ (64 - k) := by rw [← Nat.pow_add]; congr 1; omega
  rw [this, Nat.mul_comm x, Nat.mul_div_mul_left _ _ (Nat.two_pow_pos k)]
theorem shift_or (x y k : Nat) (hk : k < 64) (hy : y < 2 ^ k) : bits BinOp.or .u64 (y : Int) (IntKind.u64.wrap ((x : Int) * 2 ^ k)) = ((y + x * 2 ^ k % B64 : Nat) : Int) := by
  have e : IntKind.u64.wrap ((x : Int) * 2 ^ k) = ((x * 2 ^ k % 2 ^ 64 : Nat) : Int) := by
    rw [IntKind.wrap_u64]; simp [Int.natCast_mul, Int.natCast_pow]
  have h1 : (2 : Nat) ^ k ≤ 2 ^ 63 := Nat.pow_le_pow_right (by omega) (by omega)
  rw [e, bits_or_u64_nat _ _ (by omega) (Nat.mod_lt _ (by omega)), mod_shift x k (by omega), or_low _ _ _ hy, ← mod_shift x k (by omega)]
  rfl
theorem shift_hi (x k : Nat) (hk : k < 64) : (x : Int) / 2 / 2 ^ (63 - k) = ((x * 2 ^ k / B64 : Nat) : Int) := by
  rw [B64_two, div_shift x k (by omega), show 64 - k = 1 + (63 - k) by omega, Nat.pow_add, Nat.pow_one, ← Nat.div_div_eq_div_mul]
  simp [Int.natCast_ediv, Int.natCast_pow]
theorem shift_carry (x k : Nat) (hk : k < 64) (hx : x < B64) : x * 2 ^ k / B64 < 2 ^ k := by
  apply Nat.div_lt_of_lt_mul
  rw [Nat.mul_comm B64, Nat.mul_comm x]
  exact Nat.mul_lt_mul_of_pos_left hx (Nat.two_pow_pos k)
/-- What is kept, round by round, while a number is shifted up. -/
def ShiftOk (xs : List Nat) (k j : Nat) (L : List Nat) : Prop :=
  L.length = xs.length + 1 ∧ (∀ x ∈ L, x < B64) ∧ val L = pv xs j * 2 ^ k ∧ L[j]?.getD 0 < 2 ^ k ∧ ∀ i, j < i → L[i]?.getD 0 = 0
theorem ShiftOk.start (xs : List Nat) (k : Nat) : ShiftOk xs k 0 (List.replicate (xs.length + 1) 0) := by
  refine ⟨by simp, fun x hx => ?_, by rw [val_zeros, pv, Nat.zero_mul], by rw [getD_replicate]; exact Nat.two_pow_pos k, fun i _ => getD_replicate _ _⟩
  rw [(List.mem_replicate.1 hx).2]; exact B64_pos
theorem shift_low (x y k : Nat) (hk : k < 64) (hy : y < 2 ^ k) : y + x * 2 ^ k % B64 < B64 := by
  rw [B64_two, mod_shift x k (by omega)]
  have h1 := Nat.mod_lt x (Nat.two_pow_pos (64 - k))
  have h2 : 2 ^ k * (x % 2 ^ (64 - k) + 1) ≤ 2 ^ k * 2 ^ (64 - k) := Nat.mul_le_mul_left _ h1
  rw [← Nat.pow_add, show k + (64 - k) = 64 by omega, Nat.mul_add] at h2
  omega
theorem ShiftOk.step {xs : List Nat} {k j x y : Nat} {L : List Nat} (h : ShiftOk xs k j L) (hk : k < 64) (hj : j < xs.length) (hx : xs[j]?.getD 0 = x) (hxb : x < B64) (hy : L[j]?.getD 0 = y) :
    ShiftOk xs k (j + 1) ((L.set j (y + x * 2 ^ k % B64)).set (j + 1) (x * 2 ^ k / B64)) := by
  obtain ⟨hl, hlt, hv, hc, hz⟩ := h
  rw [hy] at hc
  have hcar := shift_carry x k hk hxb
  have hcb : x * 2 ^ k / B64 < B64 := Nat.div_lt_of_lt_mul (by
    have : (2 : Nat) ^ k < B64 := Nat.pow_lt_pow_right (by omega) hk
    exact Nat.mul_lt_mul'' hxb this)
  have h1 := val_set L j (y + x * 2 ^ k % B64) (by omega)
  have h2 := val_set (L.set j (y + x * 2 ^ k % B64)) (j + 1) (x * 2 ^ k / B64) (by simp; omega)
  have hz1 : (L.set j (y + x * 2 ^ k % B64))[j + 1]?.getD 0 = 0 := by rw [getD_set, if_neg (by omega)]; exact hz _ (by omega)
  rw [hz1, Nat.mul_zero, Nat.add_zero] at h2
  rw [hy] at h1
  refine ⟨by simp [hl], lt_set (lt_set hlt (shift_low x y k hk hc) _) hcb _, ?_, ?_, fun i hi => ?_⟩
  · rw [h2, pv, hx, Nat.add_mul, ← hv, Nat.mul_assoc, ← Nat.mod_add_div (x * 2 ^ k) B64, Nat.mul_add, Nat.pow_succ, Nat.mul_assoc]
    rw [Nat.mod_add_div (x * 2 ^ k) B64]
    rw [Nat.mul_add] at h1
    omega
  · rw [getD_set, if_pos ⟨rfl, by simp; omega⟩]; exact hcar
  · rw [getD_set, if_neg (by omega), getD_set, if_neg (by omega)]; exact hz i (by omega)
end Go.Proofs.Ytnecpkoibknacaa
