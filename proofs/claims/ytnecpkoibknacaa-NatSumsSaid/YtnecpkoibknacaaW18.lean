/- Rows cleared and copied over; Div's easy ways. -/
import Derived.Test.YtnecpkoibknacaaPlainG
namespace Go.Proofs.Ytnecpkoibknacaa
open Go.RowKit

theorem splice_set (L cs : List Nat) (o x : Nat) (ho : o < L.length) : splice (L.set o x) (o + 1) cs = splice L o (x :: cs) := by
  unfold splice
  rw [List.length_cons, List.drop_set_of_lt (by omega), show o + 1 + cs.length = o + (cs.length + 1) by omega]
  have e : (L.set o x).take (o + 1) = L.take o ++ [x] := by
    rw [List.take_add_one, List.take_set_of_le (by omega), List.getElem?_set_self ho]; rfl
  rw [e]
  simp
theorem Row.setCells {w : World} {b T : Nat} {L : List Nat} (h : Row w b T L) (o : Nat) (cs : List Nat) (ho : o + cs.length ≤ L.length) : Row (w.setCells b o (lims cs)) b T (splice L o cs) := by
  induction cs generalizing w L o with
  | nil => simpa [splice, lims, World.setCells] using h
  | cons x cs ih =>
    rw [List.length_cons] at ho
    rw [← splice_set L cs o x (by omega)]
    exact ih (h.set o x) (o + 1) (by rw [List.length_set]; omega)
theorem Ext.setCells {a w : World} (h : Ext a w) {b : Nat} (hb : a.heap.size ≤ b) (o : Nat) (cs : List Value) : Ext a (w.setCells b o cs) := by
  induction cs generalizing w o with
  | nil => exact h
  | cons x cs ih => exact ih (h.set (p := ⟨b, o, none⟩) hb x) (o + 1)
theorem lims_splice (L R : List Nat) (o : Nat) : splice (lims L) o (lims R) = lims (splice L o R) := by simp [splice, lims]

/-- One block at most has turned. -/
def Only (b : Nat) (w w' : World) : Prop := (∀ a, Ext a w → a.heap.size ≤ b → Ext a w') ∧ ∀ k, k ≠ b → w'.heap[k]? = w.heap[k]?
theorem Only.refl (b : Nat) (w : World) : Only b w w := ⟨fun _ h _ => h, fun _ _ => rfl⟩
theorem Only.trans {b : Nat} {w w' w'' : World} (h : Only b w w') (k : Only b w' w'') : Only b w w'' := ⟨fun a ha hb => k.1 a (h.1 a ha hb) hb, fun i hi => (k.2 i hi).trans (h.2 i hi)⟩
theorem Only.set (w : World) (b i : Nat) (v : Value) : Only b w (w.setCell ⟨b, i, none⟩ v) :=
  ⟨fun _ ha hb => ha.set (p := ⟨b, i, none⟩) hb v, fun k hk => Below.heap_setCell w ⟨b, i, none⟩ v k hk⟩
theorem Only.setCells (w : World) (b o : Nat) (cs : List Value) : Only b w (w.setCells b o cs) := by
  induction cs generalizing w o with
  | nil => exact Only.refl _ _
  | cons x cs ih => exact (Only.set w b o x).trans (ih _ (o + 1))
theorem Row.only {w w' : World} {b b' T : Nat} {L : List Nat} (h : Row w b' T L) (o : Only b w w') (hne : b' ≠ b) : Row w' b' T L := (o.2 b' hne).trans h
theorem cell_only {w w' : World} {b : Nat} (o : Only b w w') {p : Addr} (hp : p.block ≠ b) : w'.cell? p = w.cell? p := by
  simp only [World.cell?, o.2 p.block hp]
theorem Nums.only {w w' : World} {b n c : Nat} {a : Option Addr} {xs : List Nat} (h : Nums w a n c xs) (o : Only b w w') (hne : ∀ p, a = some p → p.block ≠ b) : Nums w' a n c xs :=
  ⟨h.len, h.few, h.cap, h.lt, h.at_.imp id fun ⟨b', off, ha, hc⟩ => ⟨b', off, ha, fun i hi => by rw [cell_only o (p := ⟨b', off + i, none⟩) (show b' ≠ b from hne ⟨b', off, none⟩ ha)]; exact hc i hi⟩⟩

/-- 'clear' of a part of a row of limbs. -/
theorem wpList_clear_row {P : Program} (w : World) {ops : Array Oper} {rest : List Oper} {o : Oper} {a : Act} {Q : Exit → Act → World → Prop} (hgd : o.guard = none) (d : Operand) (dT : TypeId)
    (ho : o.op = .call { callee := .builtin .clear, args := #[d], argTypes := #[dT] }) (e : TypeId) (i : TypeInfo) (hu : P.underlying dT = some (.slice e)) (hi : P.info? e = some i) (hz : i.zero = some (.int .u64 0))
    (b off n c : Nat) (hd : a.eval d = .slice (some ⟨b, off, none⟩) n c) (hn : 0 < n) (T : Nat) (L : List Nat) (hr : Row w b T L) (hfit : off + n ≤ L.length)
    (hK : ∀ w', Row w' b T (splice L off (List.replicate n 0)) → Only b w w' → wpList P ops Q rest (a.put o.dst (.tuple #[])) w') :
    wpList P ops Q (o :: rest) a w := by
  refine wpList_plain hgd fun K hK' => ?_
  have hv : ∀ w, (zeroValue e).run P w = .ok (.int .u64 0) w := fun w => by simp [zeroValue, typeInfo, hi, hz]
  have hrun := Lib.run_clear_slice (P := P) w dT e o.type (.int .u64 0) hu hv rfl rfl b off n c hn
    (fun j hj => by rw [hr.cell (by omega)]; rfl) (fun j _ => hr.frozen _)
  have e1 : List.replicate n (Value.int .u64 0) = lims (List.replicate n 0) := by simp [lims]
  rw [e1] at hrun
  unfold Oper.wp
  simp [execOp, ho, resolve, invoke, builtin, hd, hrun, Result.andThen]
  exact hK' _ _ (hK _ (hr.setCells off _ (by simpa using hfit)) (Only.setCells _ _ _ _))
/-- 'copy' of limbs into a part of a row of limbs. -/
theorem wpList_copy_row {P : Program} (w : World) {ops : Array Oper} {rest : List Oper} {o : Oper} {a : Act} {Q : Exit → Act → World → Prop} (hgd : o.guard = none) (d s : Operand) (dT sT : TypeId)
    (ho : o.op = .call { callee := .builtin .copy, args := #[d, s], argTypes := #[dT, sT] }) (e : TypeId) (i : TypeInfo) (hu : P.underlying dT = some (.slice e)) (hi : P.info? e = some i) (hs : i.size = 1)
    (b off n c : Nat) (hd : a.eval d = .slice (some ⟨b, off, none⟩) n c) (sp : Option Addr) (sn sc : Nat) (hsl : a.eval s = .slice sp sn sc) (T : Nat) (L R : List Nat) (hr : Row w b T L) (hR : Nums w sp sn sc R) (hle : sn ≤ n) (hfit : off + n ≤ L.length)
    (hK : ∀ w', Row w' b T (splice L off R) → Only b w w' → wpList P ops Q rest (a.put o.dst (goInt R.length)) w') :
    wpList P ops Q (o :: rest) a w := by
  have hsz : (P.info? e).map (·.size) = some 1 := by rw [hi]; simp [hs]
  have hlen := hR.len
  by_cases h0 : sn = 0
  · have hR0 : R = [] := List.eq_nil_of_length_eq_zero (by omega)
    subst hR0
    subst h0
    refine wpList_copy_nothing hgd d s dT sT ho e hu hsz _ _ _ _ _ _ hd hsl (Nat.zero_min _) ?_
    exact hK w (by simpa [splice] using hr) (Only.refl _ _)
  · rcases hR.cells with h1 | ⟨ad, rfl, h2⟩
    · have := congrArg List.length h1
      rw [List.length_map] at this
      simp at this; subst this; simp at hlen; omega
    · have hl : (lims R).length = Nat.min sn n := by rw [length_lims, hlen]; exact (Nat.min_eq_left hle).symm
      have hrun := run_copy_cells (P := P) w dT sT o.type e b off n c ad sn sc (lims R) hu hsz hl h2
        (fun j hj => by rw [length_lims] at hj; rw [hr.cell (by omega)]; rfl) (fun j _ => hr.frozen _) (oneCell_u64 R)
      refine wpList_plain hgd fun K hK' => ?_
      unfold Oper.wp
      simp [execOp, ho, resolve, invoke, builtin, hd, hsl, hrun, Result.andThen]
      have := hK _ (hr.setCells off R (by omega)) (Only.setCells w b off (lims R))
      rw [← length_lims R] at this
      exact hK' _ _ this
end Go.Proofs.Ytnecpkoibknacaa
