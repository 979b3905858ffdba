/- Parts of the proof: contracts of the functions that the law reaches, and the arithmetic that they rest on; no condition beyond those that each theorem states. -/
import Derived.OrdersHeld
import Derived.RangeFuncBox
import Derived.WalkSmall
import Derived.Test.YtgihjgkpmochcaaM1
import Derived.Test.YtgihjgkpmochcaaM7
import Derived.Test.YtgihjgkpmochcaaM9

namespace Go.Proofs.Ytgihjgkpmochcaa

section
variable {P : Program} {ops : Array Oper} {Q : Exit → Act → World → Prop}

/-- Operation i has come up too. -/
def upd (L : Nat → Bool) (i : Nat) : Nat → Bool := fun j => if j = i then true else L j
/-- What operation i does, wherever it comes up. -/
def StepOk (P : Program) (ops : Array Oper) (Q : Exit → Act → World → Prop) (J : (Nat → Bool) → Act → World → Prop) (i : Nat) : Prop :=
  ∀ L o a w, ops[i]? = some o → J L a w → L i = false → (∀ e ∈ o.after, Region.binds .any e = true → L e.on = true) →
    ∀ K : Act → World → Prop, (∀ a' w', J (upd L i) a' w' → K a' w') → (if Region.wanted o (yielded ops a.tmps) = true then Oper.wp P o a w K Q else K (a.put o.dst undef) w)

theorem listed_lt {l : Array Bool} {i : Nat} (h : l.getD i true = false) : ∃ hi : i < l.size, l[i] = false := by
  rcases Nat.lt_or_ge i l.size with h' | h'
  · refine ⟨h', ?_⟩
    simpa [h'] using h
  · simp [Array.getElem?_eq_none h'] at h
theorem upd_listed {l : Array Bool} {i : Nat} (hi : i < l.size) : (fun j => (l.setIfInBounds i true).getD j false) = upd (fun j => l.getD j false) i := by
  funext j
  unfold upd
  by_cases h : j = i
  · subst h
    simp [hi]
  · have h' : i ≠ j := fun e => h e.symm
    simp [h, h']
theorem count_listed {l : Array Bool} {i : Nat} (hi : i < l.size) (h : l[i] = false) : (l.setIfInBounds i true).toList.count false + 1 = l.toList.count false := by
  have h1 : i < l.toList.length := by simpa using hi
  have h2 : l.toList[i] = false := by simpa using h
  rw [Array.toList_setIfInBounds, List.count_set h1, h2]
  have : 0 < l.toList.count false := List.count_pos_iff.2 (by rw [← h2]; exact List.getElem_mem h1)
  simp only [beq_self_eq_true, if_true, show ((true == false) = true) = False by simp, if_false]
  omega
theorem ready_nil {listed : Array Bool} (hs : listed.size = ops.size) (hlow : ∀ i o, ops[i]? = some o → ∀ e ∈ o.after, Region.binds .any e = true → e.on < i) (hr : Region.ready .any ops listed = []) :
    ∀ i, i < ops.size → listed.getD i false = true := by
  intro i
  induction i using Nat.strongRecOn with
  | _ i ih =>
    intro hi
    rcases Bool.eq_false_or_eq_true (listed.getD i false) with h | h
    · exact h
    · exfalso
      have hm : i ∈ Region.ready .any ops listed := by
        refine mem_ready.2 ⟨?_, ops[i], Array.getElem?_eq_getElem hi, fun e he hb => ?_⟩
        · have h2 : i < listed.size := by omega
          simpa [h2] using h
        · have hlt := hlow i _ (Array.getElem?_eq_getElem hi) e he hb
          exact ih e.on hlt (by omega)
      rw [hr] at hm
      cases hm

theorem wpAny_inv (J : (Nat → Bool) → Act → World → Prop) (hstep : ∀ i, i < ops.size → StepOk P ops Q J i)
    (hlow : ∀ i o, ops[i]? = some o → ∀ e ∈ o.after, Region.binds .any e = true → e.on < i)
    (hdone : ∀ L a w, J L a w → (∀ i, i < ops.size → L i = true) → Q .normal a w) :
    ∀ (fuel : Nat) (listed : Array Bool) (a : Act) (w : World), J (fun i => listed.getD i false) a w → listed.size = ops.size → listed.toList.count false ≤ fuel → wpAny P .any ops Q fuel listed a w := by
  intro fuel
  induction fuel with
  | zero =>
    intro listed a w hJ hs hc
    have hr : Region.ready .any ops listed = [] := by
      rw [List.eq_nil_iff_forall_not_mem]
      intro i hi
      obtain ⟨h1, h2⟩ := listed_lt (mem_ready.1 hi).1
      have := count_listed h1 h2
      omega
    exact ⟨hr, hdone _ a w hJ (ready_nil hs hlow hr)⟩
  | succ fuel ih =>
    intro listed a w hJ hs hc
    refine ⟨fun hr => hdone _ a w hJ (ready_nil hs hlow hr), fun i hi => ?_⟩
    obtain ⟨hun, o, ho, hall⟩ := mem_ready.1 hi
    obtain ⟨h1, h2⟩ := listed_lt hun
    have hc' := count_listed h1 h2
    have key := hstep i (by omega) _ o a w ho hJ (by simp [h1, h2]) hall (wpAny P .any ops Q fuel (listed.setIfInBounds i true)) (fun a' w' hJ' => by
      refine ih _ a' w' ?_ (by simpa using hs) (by omega)
      rw [upd_listed h1]; exact hJ')
    unfold wpOp
    simp only [ho]
    split at key
    · rename_i hw
      rw [if_pos hw]
      exact .inl key
    · rename_i hw
      rw [if_neg hw]
      exact key
/-- A region that draws, by an invariant. -/
theorem wp_region_inv (J : (Nat → Bool) → Act → World → Prop) {id : Nat} {a : Act} {w : World} (hm : P.follows .mixedOrders = true)
    (hlow : ∀ i o, ops[i]? = some o → ∀ e ∈ o.after, Region.binds .any e = true → e.on < i)
    (h0 : J (fun _ => false) a w.drew) (hstep : ∀ i, i < ops.size → StepOk P ops Q J i)
    (hdone : ∀ L a w, J L a w → (∀ i, i < ops.size → L i = true) → Q .normal a w) : (Code.region id ops true).wp P Q a w := by
  refine wp_region_any hm (wpAny_inv J hstep hlow hdone _ _ _ _ ?_ (by simp) ?_)
  · have e : (fun i => (Array.replicate ops.size false).getD i false) = fun _ => false := by
      funext i
      simp only [Array.getD_eq_getD_getElem?, Array.getElem?_replicate]
      split <;> rfl
    rw [e]
    exact h0
  · simp
/-- The edges go down: as a test. -/
def lowB (ops : Array Oper) : Bool := (List.range ops.size).all fun i => match ops[i]? with
  | some o => o.after.toList.all fun e => !Region.binds .any e || decide (e.on < i)
  | none => true
theorem low_of (h : lowB ops = true) : ∀ i o, ops[i]? = some o → ∀ e ∈ o.after, Region.binds .any e = true → e.on < i := by
  intro i o ho e he hb
  unfold lowB at h
  rw [List.all_eq_true] at h
  have h1 := h i (List.mem_range.2 (Array.getElem?_eq_some_iff.1 ho).1)
  rw [ho] at h1
  simp only [List.all_eq_true] at h1
  have h2 := h1 e (by simpa using he)
  rw [hb] at h2
  simpa using h2
end
end Go.Proofs.Ytgihjgkpmochcaa

namespace Go.Proofs.Ytgihjgkpmochcaa
open Go.RowKit

/-- Between two worlds just block p has turned, and blocks were laid. -/
def Mo (p : Nat) (a w : World) : Prop := a.grownBy w (some p)
theorem Mo.refl (p : Nat) (w : World) : Mo p w w := World.grownBy.refl w _
theorem Mo.size {p : Nat} {a b : World} (h : Mo p a b) : a.heap.size ≤ b.heap.size := World.grownBy.size h
theorem Mo.trans {p : Nat} {a b c : World} (h : Mo p a b) (k : Mo p b c) : Mo p a c :=
  ⟨k.os.trans h.os, k.tape.trans h.tape, k.output.trans h.output, Nat.le_trans h.size k.size, fun i hi hn => (World.grownBy.block k i (Nat.lt_of_lt_of_le hi h.size) hn).trans (World.grownBy.block h i hi hn)⟩
theorem Mo.of_ext {p : Nat} {a b : World} (h : Ext a b) : Mo p a b := ⟨Below.os h, Below.tape h, Below.output h, h.size, fun i hi _ => Below.block h i hi⟩
theorem Mo.ext {p : Nat} {a b c : World} (h : Mo p a b) (k : Ext b c) : Mo p a c := h.trans (Mo.of_ext k)
theorem Mo.alloc {p : Nat} {a b : World} (h : Mo p a b) (o : Obj) : Mo p a (b.alloc o) := h.ext (Ext.of_alloc b o)
theorem Mo.drew {p : Nat} {a b : World} (h : Mo p a b) : Mo p a b.drew := h.ext ((Ext.refl b).drew)
theorem Mo.drewN {p : Nat} {a b : World} (h : Mo p a b) (n : Nat) : Mo p a (b.drewN n) := h.ext ((Ext.refl b).drewN n)
theorem Mo.set {p : Nat} {a b : World} (h : Mo p a b) {q : Addr} (hq : q.block = p ∨ a.heap.size ≤ q.block) (v : Value) : Mo p a (b.setCell q v) := by
  refine ⟨h.os, h.tape, h.output, ?_, fun i hi hn => ?_⟩
  · have := h.size
    simpa [World.setCell] using this
  · refine (Below.heap_setCell b q v i ?_).trans (World.grownBy.block h i hi hn)
    rcases hq with e | e
    · intro e'; exact hn (by rw [e', e])
    · omega
theorem Mo.put {p : Nat} {a b : World} (h : Mo p a b) {l : Nat} (hl : a.heap.size ≤ l) (o : Obj) : Mo p a (b.putObj l o) := by
  refine ⟨h.os, h.tape, h.output, ?_, fun i hi hn => ?_⟩
  · have := h.size
    simpa using this
  · exact (World.putObj_heap_other (by omega)).trans (World.grownBy.block h i hi hn)
theorem Mo.block {p : Nat} {a b : World} (h : Mo p a b) {k : Nat} {o : Obj} (hk : a.heap[k]? = some o) (hp : k ≠ p) : b.heap[k]? = some o := by
  rw [World.grownBy.block h k (Array.getElem?_eq_some_iff.1 hk).1 (fun e => hp (by cases e; rfl))]
  exact hk
theorem Mo.cell {p : Nat} {a b : World} (h : Mo p a b) {q : Addr} {v : Value} (hv : a.cell? q = some v) (hp : q.block ≠ p) : b.cell? q = some v := World.grownBy.cell h hv (fun e => hp (by cases e; rfl))
/-- What lay, but for block p, is read as it was. -/
theorem Mo.look {p : Nat} {W w1 : World} (h : Mo p W w1) : (∀ b o, b < W.heap.size → b ≠ p → w1.cell? ⟨b, o, none⟩ = W.cell? ⟨b, o, none⟩) ∧ (∀ b o, b < W.heap.size → b ≠ p → w1.frozen? ⟨b, o, none⟩ = W.frozen? ⟨b, o, none⟩) :=
  ⟨fun b _ hb hp => World.cell?_of_block (World.grownBy.block h b hb (fun e => hp (by cases e; rfl))), fun b _ hb hp => World.frozen?_of_block (World.grownBy.block h b hb (fun e => hp (by cases e; rfl)))⟩
theorem Mo.below {p B : Nat} {a b : World} (h : Mo p a b) (hp : B ≤ p) (hB : B ≤ a.heap.size) : Below B a b := ⟨h.os, h.tape, h.output, h.size, fun k hk => World.grownBy.block h k (by omega) (fun e => by cases e; omega)⟩
/-- A world kept below p: what the turns of p leave of it. -/
theorem Ext.mo {p : Nat} {w0 a b : World} (h : Ext w0 a) (k : Mo p a b) (hp : w0.heap.size ≤ p) : Ext w0 b := Below.trans h (k.below hp h.size)

/-- A source, in memory: its script, where it is, whether it is dry. -/
def Src (w : World) (p : Nat) (s : ByteArray) (i : Nat) (d : Bool) : Prop := w.heap[p]? = some (.cells #[.bool true, .string s, .int .i64 i, .bool d] 48 (0, 0))
theorem Src.c0 {w : World} {p : Nat} {s : ByteArray} {i : Nat} {d : Bool} (h : Src w p s i d) : w.cell? ⟨p, 0, none⟩ = some (.bool true) := by simp [World.cell?, show w.heap[p]? = _ from h]
theorem Src.c1 {w : World} {p : Nat} {s : ByteArray} {i : Nat} {d : Bool} (h : Src w p s i d) : w.cell? ⟨p, 1, none⟩ = some (.string s) := by simp [World.cell?, show w.heap[p]? = _ from h]
theorem Src.c2 {w : World} {p : Nat} {s : ByteArray} {i : Nat} {d : Bool} (h : Src w p s i d) : w.cell? ⟨p, 2, none⟩ = some (.int .i64 i) := by simp [World.cell?, show w.heap[p]? = _ from h]
theorem Src.c3 {w : World} {p : Nat} {s : ByteArray} {i : Nat} {d : Bool} (h : Src w p s i d) : w.cell? ⟨p, 3, none⟩ = some (.bool d) := by simp [World.cell?, show w.heap[p]? = _ from h]
theorem Src.fr {w : World} {p : Nat} {s : ByteArray} {i : Nat} {d : Bool} (h : Src w p s i d) (o : Nat) : w.frozen? ⟨p, o, none⟩ = false := by simp [World.frozen?, show w.heap[p]? = _ from h]
theorem Src.lt {w : World} {p : Nat} {s : ByteArray} {i : Nat} {d : Bool} (h : Src w p s i d) : p < w.heap.size := (Array.getElem?_eq_some_iff.1 h).1
theorem Src.ext {w w' : World} {p : Nat} {s : ByteArray} {i : Nat} {d : Bool} (h : Src w p s i d) (e : Ext w w') : Src w' p s i d := e.block h
theorem Src.mo {w w' : World} {p q : Nat} {s : ByteArray} {i : Nat} {d : Bool} (h : Src w p s i d) (e : Mo q w w') (hq : p ≠ q) : Src w' p s i d := e.block h hq
theorem Src.setAt {w : World} {p : Nat} {s : ByteArray} {i : Nat} {d : Bool} (h : Src w p s i d) (x : Int) (j : Nat) (hx : x = (j : Int)) : Src (w.setCell ⟨p, 2, none⟩ (.int .i64 x)) p s j d := by
  subst hx
  obtain ⟨hlt, hk⟩ := Array.getElem?_eq_some_iff.1 h
  show (w.heap.modify p _)[p]? = _
  rw [Array.getElem?_eq_getElem (by rw [Array.size_modify]; exact hlt), Array.getElem_modify_self, hk]
  rfl
theorem Src.setDry {w : World} {p : Nat} {s : ByteArray} {i : Nat} {d : Bool} (h : Src w p s i d) : Src (w.setCell ⟨p, 3, none⟩ (.bool true)) p s i true := by
  obtain ⟨hlt, hk⟩ := Array.getElem?_eq_some_iff.1 h
  show (w.heap.modify p _)[p]? = _
  rw [Array.getElem?_eq_getElem (by rw [Array.size_modify]; exact hlt), Array.getElem_modify_self, hk]
  rfl
theorem Src.setOther {w : World} {p : Nat} {s : ByteArray} {i : Nat} {d : Bool} (h : Src w p s i d) {q : Addr} (hq : p ≠ q.block) (v : Value) : Src (w.setCell q v) p s i d := (Below.heap_setCell w q v p hq).trans h
theorem Src.putOther {w : World} {p : Nat} {s : ByteArray} {i : Nat} {d : Bool} (h : Src w p s i d) {l : Nat} (hq : p ≠ l) (o : Obj) : Src (w.putObj l o) p s i d := (World.putObj_heap_other hq).trans h
/-- Limbs are kept where a source turns. -/
theorem Src.keeps {w w' : World} {p : Nat} {s : ByteArray} {i : Nat} {d : Bool} (h : Src w p s i d) (e : Mo p w w') : Keeps w w' := by
  intro q x hq
  by_cases hp : q.block = p
  · exfalso
    obtain ⟨b, o, u⟩ := q
    simp only at hp
    subst hp
    rcases o with _ | _ | _ | _ | o <;> cases u <;> simp [World.cell?, show w.heap[b]? = _ from h] at hq
  · exact e.cell hq hp

theorem new_src (s : ByteArray) (w : World) : Calls Try.prog 5 #[.string s] w fun e w' => e = .returned (.pointer (some ⟨w.heap.size, 0, none⟩)) ∧ Ext w w' ∧ Src w' w.heap.size s 0 false := by
  go_enter Try.func5, Try.ntmps5
  go_wp2
  go_ret
  exact ⟨rfl, (by repeat (first | with_reducible exact Ext.refl _ | with_reducible assumption | (with_reducible refine Ext.alloc ?_ _) | (with_reducible refine Ext.drew ?_) | (with_reducible refine Ext.drewN ?_ _) | (with_reducible refine Ext.set ?_ (by first | (simp; done) | (simp; omega)) _) | (with_reducible refine Ext.trans ?_ (by with_reducible assumption)))), World.alloc_heap_new w _⟩
theorem there_src {w : World} {p : Nat} {s : ByteArray} {i : Nat} {d : Bool} (h : Src w p s i d) : Calls Try.prog 20 #[.pointer (some ⟨p, 0, none⟩)] w fun e w' => e = .returned (.bool true) ∧ w = w' := by
  have k0 := h.c0
  clear h
  go_enter Try.func20, Try.ntmps20
  go_wp2
  go_ret
  exact ⟨rfl, rfl⟩
theorem read_src {w : World} {p : Nat} {s : ByteArray} {i : Nat} {d : Bool} (h : Src w p s i d) : Calls Try.prog 7 #[.pointer (some ⟨p, 0, none⟩)] w fun e w' => e = .returned (.int .i64 i) ∧ w = w' := by
  have k2 := h.c2
  have H := Lib.hid (there_src h)
  clear h
  go_enter Try.func7, Try.ntmps7
  go_wp2_with fail
  refine H.out.mono ?_
  rintro e w' ⟨rfl, rfl⟩
  go_wp2
  go_ret
  exact ⟨rfl, rfl⟩
end Go.Proofs.Ytgihjgkpmochcaa

namespace Go.Proofs.Ytgihjgkpmochcaa
open Go.RowKit

/-- Byte i of a text. -/
def byteAt (s : ByteArray) (i : Nat) : Nat := if h : i < s.size then (s[i]'h).toNat else 0
theorem byteAt_lt (s : ByteArray) (i : Nat) : byteAt s i < 256 := by
  unfold byteAt
  split
  · exact UInt8.toNat_lt _
  · omega
/-- Bit i of a script. -/
def bitAt (s : ByteArray) (i : Nat) : Bool := byteAt s (i / 8) / 2 ^ (7 - i % 8) % 2 == 1
theorem index_src (s : ByteArray) (i : Nat) (h : i < s.size) (w : World) : (Instr.index 9 (.string s) (.int .i64 (i : Int))).run Try.prog w = .ok (.int .u8 ((byteAt s i : Nat) : Int)) w := by
  rw [run_index_string w _ _ _ _ Try.underlying9]
  have hi : (0 : Int) ≤ (i : Int) ∧ (i : Int) < (s.size : Int) := by omega
  rw [dif_pos hi]
  unfold byteAt
  rw [dif_pos h]
  rfl
theorem and_one_u8 : ∀ x : Nat, x < 256 → bits BinOp.and IntKind.u8 (x : Int) 1 = ((x % 2 : Nat) : Int) := by decide +kernel
theorem bit_walk (s : ByteArray) (i : Nat) : (bits BinOp.and IntKind.u8 (((byteAt s (i / 8) : Nat) : Int) / 2 ^ (7 - i % 8)) 1 == 1) = bitAt s i := by
  have h : (((byteAt s (i / 8) : Nat) : Int) / 2 ^ (7 - i % 8)) = ((byteAt s (i / 8) / 2 ^ (7 - i % 8) : Nat) : Int) := by push_cast; rfl
  rw [h, and_one_u8 _ (Nat.lt_of_le_of_lt (Nat.div_le_self _ _) (byteAt_lt _ _))]
  unfold bitAt
  rw [Bool.eq_iff_iff]
  simp only [beq_iff_eq]
  omega
set_option maxHeartbeats 1000000 in
theorem next_ok {w : World} {p : Nat} {s : ByteArray} {i : Nat} (h : Src w p s i false) (hi : i < 8 * s.size) (hs : s.size ≤ 1000000) :
    Calls Try.prog 27 #[.pointer (some ⟨p, 0, none⟩)] w fun e w' => e = .returned (.bool (bitAt s i)) ∧ Mo p w w' ∧ Src w' p s (i + 1) false := by
  have k1 := h.c1
  have k2 := h.c2
  have k3 := h.c3
  have f2 := h.fr 2
  have hix : ∀ w, (Instr.index 9 (.string s) (.int .i64 ((i : Int) / 8))).run Try.prog w = .ok (.int .u8 ((byteAt s (i / 8) : Nat) : Int)) w := fun w => index_src s (i / 8) (by omega) w
  go_enter Try.func27, Try.ntmps27
  go_wp2
  go_region
  go_wp2
  go_region
  go_wp2
  go_ret
  refine ⟨congrArg (fun b => Ending.returned (.bool b)) (bit_walk s i), (by repeat (first | with_reducible exact Mo.refl _ _ | with_reducible assumption | (with_reducible refine Mo.alloc ?_ _) | (with_reducible refine Mo.drew ?_) | (with_reducible refine Mo.drewN ?_ _) | (with_reducible refine Mo.set ?_ (by first | (left; rfl) | (right; simp; done) | (right; simp; omega)) _) | (with_reducible refine Mo.ext ?_ (by with_reducible assumption)) | (with_reducible refine Mo.trans ?_ (by with_reducible assumption)))), h.setAt _ (i + 1) (by omega)⟩
theorem next_dry {w : World} {p : Nat} {s : ByteArray} {i : Nat} (h : Src w p s i false) (hi : 8 * s.size ≤ i) (hs : s.size ≤ 1000000) :
    Calls Try.prog 27 #[.pointer (some ⟨p, 0, none⟩)] w fun e w' => e = .panicked [{ v := .iface 27 (.int .i64 230), recovered := false }] ∧ Mo p w w' ∧ Src w' p s i true := by
  have k1 := h.c1
  have k2 := h.c2
  have k3 := h.c3
  have f3 := h.fr 3
  go_enter Try.func27, Try.ntmps27
  go_wp2
  go_region
  go_wp2
  exact ⟨rfl, rfl, (by repeat (first | with_reducible exact Mo.refl _ _ | with_reducible assumption | (with_reducible refine Mo.alloc ?_ _) | (with_reducible refine Mo.drew ?_) | (with_reducible refine Mo.drewN ?_ _) | (with_reducible refine Mo.set ?_ (by first | (left; rfl) | (right; simp; done) | (right; simp; omega)) _) | (with_reducible refine Mo.ext ?_ (by with_reducible assumption)) | (with_reducible refine Mo.trans ?_ (by with_reducible assumption)))), h.setDry⟩
end Go.Proofs.Ytgihjgkpmochcaa

namespace Go.Proofs.Ytgihjgkpmochcaa
open Go.RowKit

/-- The number that n bits tell, from bit i on. -/
def numAt (s : ByteArray) (i : Nat) : Nat → Nat
  | 0 => 0
  | n + 1 => 2 * numAt s i n + (bitAt s (i + n)).toNat
theorem bit_lt (b : Bool) : b.toNat < 2 := by cases b <;> decide
theorem numAt_lt (s : ByteArray) (i n : Nat) : numAt s i n < 2 ^ n := by
  induction n with
  | zero => simp [numAt]
  | succ n ih =>
    have := bit_lt (bitAt s (i + n))
    rw [numAt, Nat.pow_succ]; omega
theorem numAt_add (s : ByteArray) (i a b : Nat) : numAt s i (a + b) = numAt s i a * 2 ^ b + numAt s (i + a) b := by
  induction b with
  | zero => simp [numAt]
  | succ b ih =>
    rw [← Nat.add_assoc, numAt, numAt, ih, Nat.pow_succ, ← Nat.add_assoc, Nat.mul_add, Nat.add_assoc]
    congr 1
    rw [Nat.mul_comm 2, Nat.mul_assoc]
/-- The limbs while the bits are read: k of n. -/
def NumOk (s : ByteArray) (a n k : Nat) (L : List Nat) : Prop := L.length = (n + 63) / 64 ∧ (∀ x ∈ L, x < B64) ∧ val L = numAt s a k * 2 ^ (n - k)
theorem NumOk.start (s : ByteArray) (a n : Nat) : NumOk s a n 0 (List.replicate ((n + 63) / 64) 0) := by
  refine ⟨by simp, fun x hx => ?_, by rw [val_zeros, numAt, Nat.zero_mul]⟩
  rw [(List.mem_replicate.1 hx).2]; exact B64_pos
theorem num_step {s : ByteArray} {a n k i : Nat} (hi : n = k + 1 + i) : numAt s a (k + 1) * 2 ^ (n - (k + 1)) = numAt s a k * 2 ^ (n - k) + (bitAt s (a + k)).toNat * 2 ^ i := by
  subst hi
  rw [numAt, Nat.add_mul, show k + 1 + i - (k + 1) = i by omega, show k + 1 + i - k = i + 1 by omega, Nat.pow_succ, Nat.mul_comm 2, Nat.mul_assoc, Nat.mul_comm 2]
theorem NumOk.no {s : ByteArray} {a n k : Nat} {L : List Nat} (h : NumOk s a n k L) (hk : k < n) (hb : bitAt s (a + k) = false) : NumOk s a n (k + 1) L := by
  refine ⟨h.1, h.2.1, ?_⟩
  rw [num_step (i := n - k - 1) (by omega), hb, h.2.2]
  simp
theorem NumOk.yes {s : ByteArray} {a n k i q r x : Nat} {L : List Nat} (h : NumOk s a n k L) (hi : n = k + 1 + i) (hb : bitAt s (a + k) = true) (hq : i / 64 = q) (hr : i % 64 = r) (hx : L[q]?.getD 0 = x) :
    q < L.length ∧ x < B64 ∧ x ||| 2 ^ r = x + 2 ^ r ∧ x + 2 ^ r < B64 ∧ NumOk s a n (k + 1) (L.set q (x + 2 ^ r)) := by
  have hL : q < L.length := by rw [h.1]; omega
  have hbit : bitN (val L) i = 0 := by
    unfold bitN
    rw [h.2.2, show n - k = i + 1 by omega, Nat.pow_succ, ← Nat.mul_assoc, Nat.mul_right_comm, Nat.mul_div_cancel _ (Nat.two_pow_pos i), Nat.mul_mod_left]
  have hs := set_val hq hr hL hx h.2.1 hbit
  have hxb : x < B64 := by rw [← hx, List.getElem?_eq_getElem hL]; exact h.2.1 _ (List.getElem_mem hL)
  refine ⟨hL, hxb, hs.1, hs.2.1, by simp [h.1], lt_set h.2.1 hs.2.1 q, ?_⟩
  rw [hs.2.2, h.2.2, num_step hi, hb]
  simp
theorem NumOk.last {s : ByteArray} {a n : Nat} {L : List Nat} (h : NumOk s a n n L) : val L = numAt s a n := by rw [h.2.2, Nat.sub_self, Nat.pow_zero, Nat.mul_one]
end Go.Proofs.Ytgihjgkpmochcaa

namespace Go.Proofs.Ytgihjgkpmochcaa
set_option linter.unusedVariables false
open Go.RowKit Go.Shelf
attribute [local go_sem] Oper.semAt_some

/-- A source that ran dry: the panic. -/
def dryPanic : Ending := .panicked [{ v := .iface 27 (.int .i64 230), recovered := false }]

theorem some_src (v u : Value) (p : Addr) (n : Int) (w : World) (e1 : v = .pointer (some p)) (e2 : u = .int .i64 n) :
    Calls Try.prog 39 #[v, u] w fun e w' => e = .returned (.func (.func 62) #[] #[.pointer (some ⟨w.heap.size + 1, 0, none⟩), .pointer (some ⟨w.heap.size, 0, none⟩)]) ∧
      w' = (w.alloc (.cells #[v] 23)).alloc (.cells #[u] 3) := by
  subst e1 e2
  have hmf : ∀ (fn : Fn) (first cap : Array Value) (w : World), (Instr.makeFunc fn first cap).run Try.prog w = .ok (.func fn first cap) w := fun _ _ _ _ => rfl
  go_enter Try.func39, Try.ntmps39
  go_wp2
  go_ret
  exact ⟨rfl, rfl⟩

set_option maxRecDepth 100000 in
set_option maxHeartbeats 2000000 in
theorem some_in (l p a n : Nat) (s : ByteArray) (b1 b2 : Nat) (J : Nat → World → Prop) (W : World) (hs : s.size ≤ 1000000) (ha : a ≤ 8 * s.size) (hn : n ≤ 1000000)
    (hJ : ∀ k W, J k W → Src W p s (a + k) false ∧ W.cell? ⟨b2, 0, none⟩ = some (.pointer (some ⟨p, 0, none⟩)))
    (h1 : W.cell? ⟨b1, 0, none⟩ = some (.int .i64 (n : Int)))
    (hY : ∀ k W W1, J k W → k < n → Mo p W W1 → Src W1 p s (a + (k + 1)) false → YieldAt Fence.wide 2 Try.prog l #[.bool (bitAt s (a + k))] W1 fun e W' => e = .returned (.bool true) ∧ J (k + 1) W')
    (h0 : J 0 W) :
    CallsIn Fence.wide 3 Try.prog 62 #[.func (.yield l) #[] #[], .pointer (some ⟨b1, 0, none⟩), .pointer (some ⟨b2, 0, none⟩)] W fun e W' =>
      (a + n ≤ 8 * s.size ∧ (∃ v, e = .returned v) ∧ J n W') ∨ (8 * s.size < a + n ∧ e = dryPanic ∧ ∃ k W1, k < n ∧ J k W1 ∧ Mo p W1 W' ∧ ∃ i, Src W' p s i true) := by
  refine callsIn_of_wp Try.func62 rfl trivial ?_ rfl
  simp only [Try.ntmps62, List.size_toArray, List.length_cons, List.length_nil, Nat.reduceAdd, Nat.reduceSub, Array.replicate_succ, Array.replicate_zero, List.push_toArray, List.append_toArray, List.nil_append, List.cons_append]
  gi_wp2
  gi_loopw [5] (fun kv wr => ∃ (k : Nat), kv = .int .i64 (k : Int) ∧ k ≤ n ∧ J k wr ∧ Hid (a + k ≤ 8 * s.size)) (fun kv _ => n - (intOf kv).toNat)
  case atStart => exact ⟨0, rfl, by omega, h0, Lib.hid (by omega)⟩
  case round =>
    obtain ⟨k, rfl, hk, hJk, HD⟩ := hrel
    obtain ⟨q1, q2⟩ := hJ k _ hJk
    by_cases hlt : k < n
    · by_cases hin : a + k < 8 * s.size
      · have HN := Lib.hid (next_ok q1 hin hs)
        have HY := Lib.hid (fun W1 => hY k wr W1 hJk hlt)
        clear hY hJ h0 h1 q1 hJk
        gi_wp2_with (refine ⟨trivial, ?_⟩; gi_at_call 27; refine (open_wide.calls HN.out).mono ?_; rintro e w1 ⟨rfl, hm, hs1⟩)
        obtain ⟨fn, tmps, assign, body, hy, hR⟩ := HY.out w1 hm (by rw [← Nat.add_assoc]; exact hs1)
        have HR := Lib.hid hR
        clear hR HY HN hm hs1 q2
        gi_wp2
        rw [hy]
        refine ⟨fun _ => by omega, ?_⟩
        refine HR.out.mono ?_
        rintro e W3 ⟨rfl, hJ3⟩
        gi_wp2
        go_roundw
        case rel => exact ⟨k + 1, by go_num, by omega, hJ3, Lib.hid (by omega)⟩
        case measure => simp [intOf]; omega
      · have HN := Lib.hid (next_dry q1 (by omega) hs)
        clear hY hJ h0 h1
        gi_wp2_with (refine ⟨trivial, ?_⟩; gi_at_call 27; refine (open_wide.calls HN.out).mono ?_; rintro e w1 ⟨rfl, hm, hs1⟩)
        exact ⟨rfl, .inr ⟨by omega, rfl, k, wr, hlt, hJk, hm, _, hs1⟩⟩
    · clear hY hJ
      gi_wp2
      go_end0
      obtain rfl : k = n := by omega
      exact .inl ⟨HD.out, ⟨_, rfl⟩, hJk⟩
end Go.Proofs.Ytgihjgkpmochcaa

namespace Go.Proofs.Ytgihjgkpmochcaa
set_option linter.unusedVariables false
open Go.RowKit Go.Shelf
attribute [local go_sem] Oper.semAt_some

theorem boxSet {W : World} {B : Nat} {t : TypeId} {v : Value} (h : Boxed W B t v) {q : Addr} (hq : B ≠ q.block) (u : Value) : Boxed (W.setCell q u) B t v := (Below.heap_setCell W q u B hq).trans h
theorem boxPut {W : World} {B : Nat} {t : TypeId} {v : Value} (h : Boxed W B t v) {l : Nat} (hq : B ≠ l) (o : Obj) : Boxed (W.putObj l o) B t v := (World.putObj_heap_other hq).trans h
theorem boxMo {W W' : World} {B p : Nat} {t : TypeId} {v : Value} (h : Boxed W B t v) (e : Mo p W W') (hp : B ≠ p) : Boxed W' B t v := e.block h hp

theorem num_open {w : World} {v : Value} {m : Nat} (h : Num w v m) : ∃ a n c, v = .slice a n c ∧ Hid (Num w v m) := by
  obtain ⟨t, a, n, c, e, k⟩ := h
  exact ⟨a, n, c, e, Lib.hid ⟨t, a, n, c, e, k⟩⟩
theorem Keeps.put {a b : World} (h : Keeps a b) {l : Nat} (hl : b.heap[l]? = some (.deferred (some []))) (o : Obj) : Keeps a (b.putObj l o) := by
  intro q x hq
  have hb := h q x hq
  by_cases hp : q.block = l
  · exfalso
    subst hp
    simp [World.cell?, hl] at hb
  · exact (World.cell?_of_block (World.putObj_heap_other hp)).trans hb
/-- While a number is read: j bits read, k of n laid down. -/
structure BMid (w : World) (p : Nat) (s : ByteArray) (a n j k N : Nat) (L : List Nat) (W : World) : Prop where
  mo : Mo p w W
  src : Src W p s (a + j) false
  cn : Boxed W N 3 (.int .i64 ((n - k : Nat) : Int))
  row : Row W (N + 1) 34 L
  co : Boxed W (N + 2) 26 (.slice (some ⟨N + 1, 0, none⟩) ((n + 63) / 64) ((n + 63) / 64))
  cs : Boxed W (N + 3) 23 (.pointer (some ⟨p, 0, none⟩))
section
variable {w : World} {p : Nat} {s : ByteArray} {a n j k N : Nat} {L : List Nat} {W : World}
theorem BMid.put (h : BMid w p s a n j k N L W) (hp : p < N) (hw : w.heap.size ≤ N) {l : Nat} (hl : N + 4 ≤ l) (o : Obj) : BMid w p s a n j k N L (W.putObj l o) :=
  ⟨h.mo.put (by omega) o, h.src.putOther (by omega) o, boxPut h.cn (by omega) o, (World.putObj_heap_other (by omega)).trans h.row, boxPut h.co (by omega) o, boxPut h.cs (by omega) o⟩
theorem BMid.next (h : BMid w p s a n j k N L W) (hp : p < N) {W1 : World} (hm : Mo p W W1) {j' : Nat} (hs : Src W1 p s (a + j') false) : BMid w p s a n j' k N L W1 :=
  ⟨h.mo.trans hm, hs, boxMo h.cn hm (by omega), hm.block h.row (by omega), boxMo h.co hm (by omega), boxMo h.cs hm (by omega)⟩
theorem BMid.setN (h : BMid w p s a n j k N L W) (hp : p < N) (hw : w.heap.size ≤ N) (x : Int) {k' : Nat} (hx : x = ((n - k' : Nat) : Int)) : BMid w p s a n j k' N L (W.setCell ⟨N, 0, none⟩ (.int .i64 x)) :=
  ⟨h.mo.set (.inr (by simp; omega)) _, h.src.setOther (by simp; omega) _, by rw [hx]; exact h.cn.set _, h.row.other (by simp) _, boxSet h.co (by simp) _, boxSet h.cs (by simp) _⟩
theorem BMid.setRow (h : BMid w p s a n j k N L W) (hp : p < N) (hw : w.heap.size ≤ N) (q y : Nat) : BMid w p s a n j k N (L.set q y) (W.setCell ⟨N + 1, q, none⟩ (.int .u64 (y : Int))) :=
  ⟨h.mo.set (.inr (by simp; omega)) _, h.src.setOther (by simp; omega) _, boxSet h.cn (by simp) _, h.row.set q y, boxSet h.co (by simp) _, boxSet h.cs (by simp) _⟩
theorem BMid.alloc (h : BMid w p s a n j k N L W) (o : Obj) : BMid w p s a n j k N L (W.alloc o) := ⟨h.mo.alloc o, h.src.ext (Ext.of_alloc _ _), h.cn.alloc o, h.row.ext (Ext.of_alloc _ _), h.co.alloc o, h.cs.alloc o⟩
theorem BMid.drewN (h : BMid w p s a n j k N L W) (q : Nat) : BMid w p s a n j k N L (W.drewN q) := ⟨h.mo.drewN q, h.src, h.cn, h.row, h.co, h.cs⟩
end

/-- What the walk asks of a range over a function's record: mk st pend is the record in this state. -/
structure Rec (P : Program) (fn l : Nat) (ps : Array Tmp) (tmps : Array Value) (assign body : Code) (mk : LoopState → Obj) : Prop where
  begin_ : ∀ W, W.heap[l]? = some (mk .ready) → (Instr.beginRound l).run P W = .ok () (W.putObj l (mk .busy))
  stop : ∀ W, W.heap[l]? = some (mk .busy) → (Instr.endRound l none).run P W = .ok (.bool true) (W.putObj l (mk .ready))
  done : ∀ W, W.heap[l]? = some (mk .ready) → (Instr.endLoop l).run P W = .ok none (W.putObj l (mk .exhausted))
  round : ∀ W R m args, W.heap[l]? = some (mk .ready) → args.size = ps.size → RoundIn Fence.wide m P l fn ((ps.zip args).foldl (fun tmps (t, a) => tmps.setIfInBounds t a) tmps) assign body W R → YieldAt Fence.wide m P l args W R

theorem rf_enter {P : Program} {n : Nat} {g : Operand} {ps : Array Tmp} {assign body : Code} {Q : Exit → Act → World → Prop} {a : Act} {w : World} {f : FuncId} {caps : Array Value}
    (hg : a.eval g = .func (.func f) #[] caps)
    (hinv : Enters P f)
    (h : ∀ (fn : Nat) (mk : LoopState → Obj), Rec P fn (w.heap.size + 1) ps a.tmps assign body mk → ∀ W1, W1 = (w.alloc (.deferred (some []))).alloc (mk .ready) →
      CallsIn Fence.wide (n - 1) P f (#[.func (.yield (w.heap.size + 1)) #[] #[]] ++ caps) W1 (rangePost Fence.wide n P (w.heap.size + 1) Q { a with defers := [{ target := .collected w.heap.size, args := #[] }] ++ a.defers })) :
    (Code.rangeFunc g ps assign body).wpIn Fence.wide n P Q a w := by
  refine wpIn_rangeFunc ?_
  intro fn hfn
  have hrec : Rec P fn (w.heap.size + 1) ps a.tmps assign body (fun st => .loop { state := st, pending := none, fn, tmps := a.tmps, params := ps, assign, body, defers := w.heap.size }) :=
    ⟨fun W hW => run_beginRound hW rfl, fun W hW => run_endRound none hW, fun W hW => run_endLoop hW (by simp), fun W R m args hW hs hR => ⟨_, _, _, _, run_yield hW hs, hR⟩⟩
  have H := h fn _ hrec _ rfl
  have h1 := run_enterLoop_outer (P := P) (w := w) fn a.tmps ps assign body
  have h2 : (resolve a.eval (rangeCall g (w.heap.size + 1)) 0).run P ((w.alloc (.deferred (some []))).alloc (.loop { state := .ready, pending := none, fn, tmps := a.tmps, params := ps, assign, body, defers := w.heap.size })) =
      .ok { target := .fn (.func f) caps, args := #[.func (.yield (w.heap.size + 1)) #[] #[]] } ((w.alloc (.deferred (some []))).alloc (.loop { state := .ready, pending := none, fn, tmps := a.tmps, params := ps, assign, body, defers := w.heap.size })) := by
    unfold resolve rangeCall
    simp only [hg]
    simp [go_sem]
  have h3 : (invoke (.fn (.func f) caps) #[.func (.yield (w.heap.size + 1)) #[] #[]]).run P ((w.alloc (.deferred (some []))).alloc (.loop { state := .ready, pending := none, fn, tmps := a.tmps, params := ps, assign, body, defers := w.heap.size })) = .ok (.enter f (#[.func (.yield (w.heap.size + 1)) #[] #[]] ++ caps)) _ := hinv _ _
  generalize ((w.alloc (.deferred (some []))).alloc (.loop { state := .ready, pending := none, fn, tmps := a.tmps, params := ps, assign, body, defers := w.heap.size })) = W1 at *
  exact ⟨_, _, _, _, _, _, _, _, h1, h2, fun _ _ => True.intro, h3, fun hd => absurd hd (by simp [Fence.wide]), H⟩

set_option maxRecDepth 100000 in
set_option maxHeartbeats 2000000 in
theorem number_in {w : World} {p a n : Nat} {s : ByteArray} (h : Src w p s a false) (hs : s.size ≤ 1000000) (ha : a ≤ 8 * s.size) (hn : n ≤ 1000) :
    CallsIn Fence.wide 4 Try.prog 19 #[.pointer (some ⟨p, 0, none⟩), .int .i64 (n : Int)] w fun e w' =>
      (a + n ≤ 8 * s.size ∧ ∃ v, e = .returned v ∧ Mo p w w' ∧ Src w' p s (a + n) false ∧ Num w' v (numAt s a n)) ∨ (8 * s.size < a + n ∧ e = dryPanic ∧ Mo p w w' ∧ ∃ i, Src w' p s i true) := by
  obtain ⟨q, hq⟩ : ∃ q, (n + 63) / 64 = q := ⟨_, rfl⟩
  have hq' : ((n : Int) + 63) / 64 = q := by omega
  have hmk := run_make_u64 q (by omega)
  have hpl := h.lt
  refine callsIn_of_wp_marks Try.func19 rfl trivial ?_ rfl
  simp only [Try.ntmps19, List.size_toArray, List.length_cons, List.length_nil, Nat.reduceAdd, Nat.reduceSub, Array.replicate_succ, Array.replicate_zero, List.push_toArray, List.append_toArray, List.nil_append, List.cons_append]
  gi_wp2_with (refine ⟨trivial, ?_⟩; gi_at_call 39; refine (open_wide.calls (some_src _ _ _ _ _ rfl rfl)).mono ?_; rintro e w' ⟨rfl, rfl⟩)
  obtain ⟨N, hN⟩ : ∃ N, N = w.heap.size := ⟨_, rfl⟩
  have hw : w.heap.size ≤ N := by omega
  have hpN : p < N := by omega
  obtain ⟨W00, hW⟩ : ∃ W00, (((((w.alloc (.cells #[.int .i64 (n : Int)] 3)).alloc (.cells (lims (List.replicate q 0)).toArray 34)).alloc (.cells #[.slice (some ⟨w.heap.size + 1, 0, none⟩) q q] 26)).alloc (.cells #[.pointer (some ⟨p, 0, none⟩)] 23)).alloc (.cells #[.int .i64 (n : Int)] 3)) = W00 := ⟨_, rfl⟩
  have hsz : W00.heap.size = N + 5 := by rw [← hW, hN]; simp
  have hM0 : BMid w p s a n 0 0 N (List.replicate q 0) W00 := by
    rw [← hW, hN]
    refine ⟨(((((Mo.refl p w).alloc _).alloc _).alloc _).alloc _).alloc _, h.ext (by repeat (first | with_reducible exact Ext.refl _ | with_reducible assumption | (with_reducible refine Ext.alloc ?_ _) | (with_reducible refine Ext.drew ?_) | (with_reducible refine Ext.drewN ?_ _) | (with_reducible refine Ext.set ?_ (by first | (simp; done) | (simp; omega)) _) | (with_reducible refine Ext.trans ?_ (by with_reducible assumption)))), ?_, ?_, ?_, ?_⟩
    · exact ((((Boxed.new w _ _).alloc _).alloc _).alloc _).alloc _
    · have := World.alloc_heap_new (w.alloc (.cells #[.int .i64 (n : Int)] 3)) (.cells (lims (List.replicate q 0)).toArray 34)
      rw [World.size_alloc] at this
      exact ((Row.ext this (Ext.of_alloc _ _)).ext (Ext.of_alloc _ _)).ext (Ext.of_alloc _ _)
    · have := ((Boxed.new ((w.alloc (.cells #[.int .i64 (n : Int)] 3)).alloc (.cells (lims (List.replicate q 0)).toArray 34)) 26 (.slice (some ⟨w.heap.size + 1, 0, none⟩) q q)).alloc (.cells #[.pointer (some ⟨p, 0, none⟩)] 23)).alloc (.cells #[.int .i64 (n : Int)] 3)
      rw [World.size_alloc, World.size_alloc] at this
      rw [hq]; exact this
    · have := (Boxed.new (((w.alloc (.cells #[.int .i64 (n : Int)] 3)).alloc (.cells (lims (List.replicate q 0)).toArray 34)).alloc (.cells #[.slice (some ⟨w.heap.size + 1, 0, none⟩) q q] 26)) 23 (.pointer (some ⟨p, 0, none⟩))).alloc (.cells #[.int .i64 (n : Int)] 3)
      rw [World.size_alloc, World.size_alloc, World.size_alloc] at this
      exact this
  have hB4 : Boxed W00 (N + 4) 3 (.int .i64 (n : Int)) := by
    rw [← hW, hN]
    have := Boxed.new ((((w.alloc (.cells #[.int .i64 (n : Int)] 3)).alloc (.cells (lims (List.replicate q 0)).toArray 34)).alloc (.cells #[.slice (some ⟨w.heap.size + 1, 0, none⟩) q q] 26)).alloc (.cells #[.pointer (some ⟨p, 0, none⟩)] 23)) 3 (.int .i64 (n : Int))
    rw [World.size_alloc, World.size_alloc, World.size_alloc, World.size_alloc] at this
    exact this
  rw [hW, ← hN]
  have HQ := Lib.hid hq
  clear hW hq hmk hN
  refine rf_enter (f := 62) (caps := #[.pointer (some ⟨N + 1 + 1 + 1 + 1, 0, none⟩), .pointer (some ⟨N + 1 + 1 + 1, 0, none⟩)]) rfl (enters_of Try.func62 (by kernel_rfl) rfl) ?_
  rintro fn mk hR W1 hW1
  rw [hsz] at hR ⊢
  have hM1 : BMid w p s a n 0 0 N (List.replicate q 0) W1 := by rw [hW1]; exact (hM0.alloc _).alloc _
  have hB1 : Boxed W1 (N + 4) 3 (.int .i64 (n : Int)) := by rw [hW1]; exact (hB4.alloc _).alloc _
  have hl1 : W1.heap[N + 5 + 1]? = some (mk .ready) := by
    have := World.alloc_heap_new (W00.alloc (.deferred (some []))) (mk .ready)
    rw [World.size_alloc, hsz] at this
    rw [hW1]; exact this
  have hD1 : W1.heap[N + 5]? = some (.deferred (some [])) := by
    have := World.alloc_heap_new W00 (.deferred (some []))
    rw [hsz] at this
    rw [hW1]; exact (Below.heap_alloc _ _ _ (by simp; omega)).trans this
  have hst := NumOk.start s a n
  rw [HQ.out] at hst
  clear hW1 hM0 hB4 hsz hq'
  refine (some_in (N + 5 + 1) p a n s (N + 4) (N + 3) (fun k W => (∃ L, BMid w p s a n k k N L W ∧ NumOk s a n k L) ∧ W.heap[N + 5 + 1]? = some (mk .ready) ∧ W.heap[N + 5]? = some (.deferred (some []))) W1 hs ha (by omega)
    (fun k W hJ => by obtain ⟨⟨L, hB, _⟩, _, _⟩ := hJ; exact ⟨hB.src, hB.cs.cell⟩) hB1.cell ?round ⟨⟨_, hM1, hst⟩, hl1, hD1⟩).mono ?rest
  case round =>
    clear hM1 hB1 hl1 hD1 hst h
    rintro k W Wa ⟨⟨L, hB, hOk⟩, hl, hD⟩ hk hm hsa
    have hB1 := hB.next hpN hm hsa
    have hl1 := hm.block hl (by omega)
    have hD1 := hm.block hD (by omega)
    clear hB hl hD hm hsa
    refine hR.round Wa _ _ _ hl1 rfl ?_
    refine roundIn_of_wpIn True.intro ?_
    have hbr := hR.begin_ Wa hl1
    have hB2 := hB1.put hpN hw (l := N + 5 + 1) (by omega) (mk .busy)
    have hl2 : (Wa.putObj (N + 5 + 1) (mk .busy)).heap[N + 5 + 1]? = some (mk .busy) := World.putObj_heap_same (Array.getElem?_eq_some_iff.1 hl1).1
    have hD2 := (World.putObj_heap_other (o := mk .busy) (show N + 5 ≠ N + 5 + 1 by omega)).trans hD1
    generalize Wa.putObj (N + 5 + 1) (mk .busy) = W2 at hbr hB2 hl2 hD2
    obtain ⟨i, hi⟩ : ∃ i, n = k + 1 + i := ⟨n - (k + 1), by omega⟩
    have cn : W2.cell? ⟨N, 0, none⟩ = some (.int .i64 ((i : Int) + 1)) := by rw [hB2.cn.cell, show ((n - k : Nat) : Int) = (i : Int) + 1 by omega]
    have fn' := hB2.cn.frozen
    have co := hB2.co.cell
    rw [HQ.out] at co
    have hHR := Lib.hid hR
    have HD := Lib.hid (And.intro hl2 hD2)
    have HOK := Lib.hid hOk
    have HB := Lib.hid hB2
    clear hR hl2 hD2 hOk hB2 hB1 hl1 hD1
    have hin : i ≤ 1000000 := by omega
    have HI := Lib.hid hi
    clear hi
    by_cases hb : bitAt s (a + k) = true
    · rw [hb]
      obtain ⟨u, hu⟩ : ∃ u, i / 64 = u := ⟨_, rfl⟩
      obtain ⟨r, hr⟩ : ∃ r, i % 64 = r := ⟨_, rfl⟩
      obtain ⟨x, hx⟩ : ∃ x, L[u]?.getD 0 = x := ⟨_, rfl⟩
      obtain ⟨hul, hxb, hor1, hyb, hok⟩ := HOK.out.yes HI.out hb hu hr hx
      have hu' : (i : Int) / 64 = u := by omega
      have hr' : (i : Int) % 64 = r := by omega
      have hr64 : r < 64 := by omega
      have huq : u < q := by have := HOK.out.1; have := HQ.out; omega
      have c0 := HB.out.row.cell hul
      have f0 := HB.out.row.frozen u
      rw [hx] at c0
      obtain ⟨pw, hpw⟩ : ∃ pw, 2 ^ r = pw := ⟨_, rfl⟩
      rw [hpw] at hor1 hyb hok
      obtain ⟨y, hy⟩ : ∃ y, x + pw = y := ⟨_, rfl⟩
      rw [hy] at hor1 hyb hok
      have hpb : pw < B64 := by omega
      have hwr : IntKind.u64.wrap ((2 : Int) ^ r) = pw := by
        have e : (2 : Int) ^ r = (pw : Int) := by rw [← hpw]; push_cast; rfl
        rw [e]; exact wrap_u64 hpb
      have hor : bits BinOp.or .u64 (x : Int) (pw : Int) = (y : Int) := by
        rw [bits_or_u64_nat _ _ hxb hpb, hor1]
      have HF := Lib.hid hok
      have hmix : Try.prog.follows .mixedOrders = true := by kernel_rfl
      clear hok hor1 hyb hy hpw hx hul hu hr hpb hxb hb
      gi_wp2
      refine wpIn_region_tail (open_wide.inRound _) 10 (by kernel_rfl) (by kernel_rfl) ?_
      simp only [List.take_succ_cons, List.take_zero, List.drop_succ_cons, List.drop_zero]
      repeat (go_big_quiet_step (fail))
      refine wpQuiet_nil ?_
      rintro _ ⟨nq, rfl⟩
      have hB3 := ((HB.out.setN hpN hw (i : Int) (k' := k + 1) (by have := HI.out; omega)).drewN nq).setRow hpN hw u y
      have hl3 : (((W2.setCell ⟨N, 0, none⟩ (.int .i64 (i : Int))).drewN nq).setCell ⟨N + 1, u, none⟩ (.int .u64 (y : Int))).heap[N + 5 + 1]? = some (mk .busy) :=
        (Below.heap_setCell _ ⟨N + 1, u, none⟩ (.int .u64 (y : Int)) (N + 5 + 1) (by simp)).trans ((Below.heap_setCell W2 ⟨N, 0, none⟩ (.int .i64 (i : Int)) (N + 5 + 1) (by simp; omega)).trans HD.out.1)
      have hD3 : (((W2.setCell ⟨N, 0, none⟩ (.int .i64 (i : Int))).drewN nq).setCell ⟨N + 1, u, none⟩ (.int .u64 (y : Int))).heap[N + 5]? = some (.deferred (some [])) :=
        (Below.heap_setCell _ ⟨N + 1, u, none⟩ (.int .u64 (y : Int)) (N + 5) (by simp)).trans ((Below.heap_setCell W2 ⟨N, 0, none⟩ (.int .i64 (i : Int)) (N + 5) (by simp)).trans HD.out.2)
      have HE := Lib.hid (And.intro hB3 (And.intro hl3 hD3))
      clear hB3 hl3 hD3
      gi_wp2
      exact ⟨_, _, hHR.out.stop _ HE.out.2.1, rfl, ⟨_, HE.out.1.put hpN hw (by omega) _, HF.out⟩, World.putObj_heap_same (Array.getElem?_eq_some_iff.1 HE.out.2.1).1, (World.putObj_heap_other (by omega)).trans HE.out.2.2⟩
    · have hbf : bitAt s (a + k) = false := by simpa using hb
      rw [hbf]
      have hB3 := HB.out.setN hpN hw (i : Int) (k' := k + 1) (by have := HI.out; omega)
      have HR := Lib.hid (And.intro hB3 (HOK.out.no hk hbf))
      clear hB3 hb hbf
      gi_wp2
      have hl3 := (Below.heap_setCell W2 ⟨N, 0, none⟩ (.int .i64 (i : Int)) (N + 5 + 1) (by simp; omega)).trans HD.out.1
      have hD3 := (Below.heap_setCell W2 ⟨N, 0, none⟩ (.int .i64 (i : Int)) (N + 5) (by simp)).trans HD.out.2
      exact ⟨_, _, hHR.out.stop _ hl3, rfl, ⟨L, HR.out.1.put hpN hw (by omega) _, HR.out.2⟩, World.putObj_heap_same (Array.getElem?_eq_some_iff.1 hl3).1, (World.putObj_heap_other (by omega)).trans hD3⟩
  case rest =>
    clear hM1 hB1 hl1 hD1 hst h
    rintro e W2 (⟨hfit, ⟨v, rfl⟩, ⟨L, hB, hOk⟩, hl, hD⟩ | ⟨hdry, rfl, k, W3, hk, ⟨⟨L, hB, hOk⟩, hl, hD⟩, hm, i, hs2⟩)
    · refine ⟨none, _, hR.done _ hl, ?_⟩
      have hB2 := hB.put hpN hw (l := N + 5 + 1) (by omega) (mk .exhausted)
      have hD2 := (World.putObj_heap_other (o := mk .exhausted) (show N + 5 ≠ N + 5 + 1 by omega)).trans hD
      generalize W2.putObj (N + 5 + 1) (mk .exhausted) = W3 at hB2 hD2 ⊢
      simp only
      clear hB hl hD hR
      have co := hB2.co.cell
      have fo := hB2.co.frozen
      rw [HQ.out] at co
      have hlen := hOk.1
      have hqq := HQ.out
      rw [hqq] at hlen
      have hIs : IsN W3 (.slice (some ⟨N + 1, 0, none⟩) q q) (numAt s a n) := ⟨_, _, _, L, rfl, hB2.row.nums' (by omega) hlen hOk.2.1, by omega, hOk.last⟩
      have ht : numAt s a n < Top := Sm.top (k := 16) (Nat.lt_trans (numAt_lt s a n) (Sm.pow (k := 16) (by omega))) (by omega)
      have HN := Lib.hid (norm_n hIs ht)
      have HB := Lib.hid hB2
      have HD := Lib.hid hD2
      clear hB2 hD2 hIs ht hOk hlen hqq
      gi_wp2_with (refine ⟨trivial, ?_⟩; gi_at_call 23; refine (open_wide.calls HN.out).mono ?_; rintro e w5 ⟨_, rfl, E5, x, rfl, hx⟩; obtain ⟨ax, nx, cx, rfl, HX⟩ := num_open hx; have bo5 : Boxed w5 (N + 2) _ _ := E5.block HB.out.co; have co5 := bo5.cell; have fo5 := bo5.frozen)
      have hm5 : Mo p w (w5.setCell ⟨N + 1 + 1, 0, none⟩ (.slice ax nx cx)) := (HB.out.mo.ext E5).set (.inr (by simp; omega)) _
      have hs5 := (HB.out.src.ext E5).setOther (q := ⟨N + 1 + 1, 0, none⟩) (by simp; omega) (.slice ax nx cx)
      have hD5 : (w5.setCell ⟨N + 1 + 1, 0, none⟩ (.slice ax nx cx)).heap[N + 5]? = some (.deferred (some [])) := (Below.heap_setCell w5 _ _ (N + 5) (by simp)).trans (E5.block HD.out)
      have hk : Keeps w5 ((w5.setCell ⟨N + 1 + 1, 0, none⟩ (.slice ax nx cx)).putObj (N + 5) (.deferred none)) := ((Keeps.refl w5).set ⟨_, co5, rfl⟩ _).put hD5 _
      refine ⟨by simp, .inl ⟨_, _, rfl, run_takeDeferred hD5, ?_⟩⟩
      refine ⟨.slice ax nx cx, results_tmp (t := 4) rfl _ _ _, .inl ⟨hfit, _, rfl, hm5.put (by omega) _, hs5.putOther (by omega) _, hx.keep hk⟩⟩
    · refine ⟨by simp, .inl ⟨_, _, rfl, run_takeDeferred (hm.block hD (by omega)), ?_⟩⟩
      show _ ∨ _
      exact .inr ⟨hdry, rfl, (hB.mo.trans hm).put (by omega) _, i, hs2.putOther (by omega) _⟩
/-- A number of n bits is read. -/
theorem number_ok {w : World} {p a n : Nat} {s : ByteArray} (h : Src w p s a false) (hs : s.size ≤ 1000000) (hf : a + n ≤ 8 * s.size) (hn : n ≤ 1000) :
    Calls Try.prog 19 #[.pointer (some ⟨p, 0, none⟩), .int .i64 (n : Int)] w fun e w' => ∃ v, e = .returned v ∧ Mo p w w' ∧ Src w' p s (a + n) false ∧ Num w' v (numAt s a n) :=
  (callsIn_wide.1 (number_in h hs (by omega) hn)).mono fun e w' hq => by
    rcases hq with ⟨_, hq⟩ | ⟨h2, _⟩
    · exact hq
    · omega
/-- There are not so many. -/
theorem number_dry {w : World} {p a n : Nat} {s : ByteArray} (h : Src w p s a false) (hs : s.size ≤ 1000000) (ha : a ≤ 8 * s.size) (hf : 8 * s.size < a + n) (hn : n ≤ 1000) :
    Calls Try.prog 19 #[.pointer (some ⟨p, 0, none⟩), .int .i64 (n : Int)] w fun e w' => e = dryPanic ∧ Mo p w w' ∧ ∃ i, Src w' p s i true :=
  (callsIn_wide.1 (number_in h hs ha hn)).mono fun e w' hq => by
    rcases hq with ⟨h2, _⟩ | ⟨_, hq⟩
    · omega
    · exact hq
end Go.Proofs.Ytgihjgkpmochcaa
