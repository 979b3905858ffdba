/- Parts of the proof: contracts of the functions that the law reaches, and the arithmetic that they rest on; no condition beyond those that each theorem states. -/
import Derived.Test.YtbncdghbnnefdaaGreatM10
import Derived.Test.YtbncdghbnnefdaaGreatM13

namespace Go.Proofs.YtbncdghbnnefdaaGreat

/-- The step has the step at j as one of its own. -/
def uses (s : Step) (j : Nat) : Prop := (fieldsN s.op = 3 ∧ (s.a = j ∨ s.b = j)) ∨ (fieldsN s.op = 4 ∧ s.a = j)
instance (s : Step) (j : Nat) : Decidable (uses s j) := by unfold uses; infer_instance
/-- All steps have just steps ahead of them. -/
def DownS (L : List Step) : Prop := ∀ (i : Nat) (s : Step), L[i]? = some s → ∀ j, uses s j → j < i
theorem down_of {L : List Step} {pars : Int} (h : ∀ (i : Nat) (s : Step), L[i]? = some s → rightP s i pars = true) : DownS L := by
  intro i s hs j hu
  have hr := h i s hs
  unfold rightP at hr
  rcases hu with ⟨hf, hab⟩ | ⟨hf, ha⟩
  · rw [if_neg (by omega), if_neg (by omega), if_pos hf] at hr
    simp [ahead] at hr
    rcases hab with e | e <;> omega
  · rw [if_neg (by omega), if_neg (by omega), if_neg (by omega), if_pos hf] at hr
    simp [ahead] at hr
    omega
/-- A step that may be has its own steps ahead of it. -/
theorem right_bounds {s : Step} {i pars : Int} (hr : rightP s i pars = true) : (fieldsN s.op = 3 → 0 ≤ s.a ∧ s.a < i ∧ 0 ≤ s.b ∧ s.b < i) ∧ (fieldsN s.op = 4 → 0 ≤ s.a ∧ s.a < i) := by
  unfold rightP at hr
  constructor
  · intro hf
    rw [if_neg (by omega), if_neg (by omega), if_pos hf] at hr
    simp [ahead] at hr
    omega
  · intro hf
    rw [if_neg (by omega), if_neg (by omega), if_neg (by omega), if_pos hf] at hr
    simp [ahead] at hr
    omega
/-- S tells the live ones: Out, and what the live ones have. -/
def LiveAt (L : List Step) (out m : Nat) (S : List Bool) : Prop :=
  S.length = L.length ∧ ∀ j, j < L.length → (S[j]? = some true ↔ (j = out ∨ ∃ i s, m ≤ i ∧ L[i]? = some s ∧ S[i]? = some true ∧ uses s j))
theorem live_one {L : List Step} {out : Nat} {S T : List Bool} (hd : DownS L) (h : LiveAt L out 0 S) (k : LiveAt L out 0 T) : S = T := by
  have key : ∀ d j, j < L.length → L.length ≤ j + d → (S[j]? = some true ↔ T[j]? = some true) := by
    intro d
    induction d with
    | zero => intro j h1 h2; omega
    | succ d ih =>
      intro j h1 h2
      rw [h.2 j h1, k.2 j h1]
      constructor
      · rintro (e | ⟨i, s, h0, hs, hi, hu⟩)
        · exact .inl e
        · have := hd i s hs j hu
          exact .inr ⟨i, s, h0, hs, (ih i (List.getElem?_eq_some_iff.1 hs).1 (by omega)).1 hi, hu⟩
      · rintro (e | ⟨i, s, h0, hs, hi, hu⟩)
        · exact .inl e
        · have := hd i s hs j hu
          exact .inr ⟨i, s, h0, hs, (ih i (List.getElem?_eq_some_iff.1 hs).1 (by omega)).2 hi, hu⟩
  refine List.ext_getElem? fun j => ?_
  by_cases hj : j < L.length
  · have h1 := h.1
    have h2 := k.1
    have := key L.length j hj (by omega)
    rw [List.getElem?_eq_getElem (by omega), List.getElem?_eq_getElem (by omega)] at this ⊢
    cases hs : S[j] <;> cases ht : T[j] <;> simp [hs, ht] at this ⊢
  · rw [List.getElem?_eq_none (by have := h.1; omega), List.getElem?_eq_none (by have := k.1; omega)]
/-- The step's marks. -/
def markS (S : List Bool) (s : Step) : List Bool := if fieldsN s.op = 3 then (S.set s.b.toNat true).set s.a.toNat true else if fieldsN s.op = 4 then S.set s.a.toNat true else S
theorem markS_len (S : List Bool) (s : Step) : (markS S s).length = S.length := by unfold markS; split <;> (try split) <;> simp
theorem set_true {S : List Bool} {i j : Nat} (hi : i < S.length) : (S.set i true)[j]? = some true ↔ (S[j]? = some true ∨ j = i) := by
  rw [List.getElem?_set]
  by_cases e : i = j
  · subst e; simp [hi]
  · simp [e]; omega
theorem markS_at {S : List Bool} {s : Step} {n : Nat} (hn : S.length = n) (hu : ∀ j : Int, (fieldsN s.op = 3 ∧ (s.a = j ∨ s.b = j)) ∨ (fieldsN s.op = 4 ∧ s.a = j) → 0 ≤ j ∧ j < n) (j : Nat) :
    (markS S s)[j]? = some true ↔ (S[j]? = some true ∨ uses s j) := by
  unfold markS uses
  by_cases h3 : fieldsN s.op = 3
  · have ha := hu s.a (.inl ⟨h3, .inl rfl⟩)
    have hb := hu s.b (.inl ⟨h3, .inr rfl⟩)
    rw [if_pos h3, set_true (by simp; omega), set_true (by omega)]
    constructor
    · rintro ((h | h) | h)
      · exact .inl h
      · exact .inr (.inl ⟨h3, .inr (by omega)⟩)
      · exact .inr (.inl ⟨h3, .inl (by omega)⟩)
    · rintro (h | ⟨_, h | h⟩ | ⟨h4, _⟩)
      · exact .inl (.inl h)
      · exact .inr (by omega)
      · exact .inl (.inr (by omega))
      · omega
  · rw [if_neg h3]
    by_cases h4 : fieldsN s.op = 4
    · have ha := hu s.a (.inr ⟨h4, rfl⟩)
      rw [if_pos h4, set_true (by omega)]
      constructor
      · rintro (h | h)
        · exact .inl h
        · exact .inr (.inr ⟨h4, by omega⟩)
      · rintro (h | ⟨h, _⟩ | ⟨_, h⟩)
        · exact .inl h
        · exact absurd h h3
        · exact .inr (by omega)
    · rw [if_neg h4]
      constructor
      · exact .inl
      · rintro (h | ⟨h, _⟩ | ⟨h, _⟩)
        · exact h
        · exact absurd h h3
        · exact absurd h h4
/-- One round: step i is looked at. -/
theorem live_skip {L : List Step} {out m : Nat} {S : List Bool} (h : LiveAt L out (m + 1) S) (hm : S[m]? ≠ some true) : LiveAt L out m S := by
  refine ⟨h.1, fun j hj => ?_⟩
  rw [h.2 j hj]
  constructor
  · rintro (e | ⟨i, s, h0, h1⟩)
    · exact .inl e
    · exact .inr ⟨i, s, by omega, h1⟩
  · rintro (e | ⟨i, s, h0, h1, h2, h3⟩)
    · exact .inl e
    · refine .inr ⟨i, s, ?_, h1, h2, h3⟩
      by_cases e : i = m
      · subst e; exact absurd h2 hm
      · omega
theorem live_mark {L : List Step} {out m : Nat} {S : List Bool} {s : Step} (hd : DownS L) (h : LiveAt L out (m + 1) S) (hs : L[m]? = some s) (hm : S[m]? = some true) (hp : 0 ≤ s.a ∧ 0 ≤ s.b ∨ fieldsN s.op = 4 ∧ 0 ≤ s.a ∨ fieldsN s.op ≠ 3 ∧ fieldsN s.op ≠ 4) : LiveAt L out m (markS S s) := by
  have hml := (List.getElem?_eq_some_iff.1 hs).1
  have hu : ∀ j : Int, (fieldsN s.op = 3 ∧ (s.a = j ∨ s.b = j)) ∨ (fieldsN s.op = 4 ∧ s.a = j) → 0 ≤ j ∧ j < L.length := by
    intro j hj
    have h0 : 0 ≤ j := by
      rcases hp with h | h | h
      · rcases hj with ⟨_, e | e⟩ | ⟨_, e⟩ <;> omega
      · rcases hj with ⟨f, e | e⟩ | ⟨_, e⟩ <;> omega
      · rcases hj with ⟨f, e | e⟩ | ⟨f, e⟩ <;> omega
    have := hd m s hs j.toNat (by rw [uses, Int.toNat_of_nonneg h0]; exact hj)
    omega
  have hat := markS_at h.1 hu
  refine ⟨by rw [markS_len]; exact h.1, fun j hj => ?_⟩
  have same : ∀ i, m ≤ i → ((markS S s)[i]? = some true ↔ S[i]? = some true) := by
    intro i hi
    rw [hat i]
    constructor
    · rintro (h | h)
      · exact h
      · have := hd m s hs i h; omega
    · exact .inl
  rw [hat j, h.2 j hj]
  constructor
  · rintro ((e | ⟨i, t, h0, h1, h2, h3⟩) | h1)
    · exact .inl e
    · exact .inr ⟨i, t, by omega, h1, (same i (by omega)).2 h2, h3⟩
    · exact .inr ⟨m, s, Nat.le_refl _, hs, (same m (Nat.le_refl _)).2 hm, h1⟩
  · rintro (e | ⟨i, t, h0, h1, h2, h3⟩)
    · exact .inl (.inl e)
    · by_cases e : i = m
      · subst e
        rw [hs] at h1
        cases h1
        exact .inr h3
      · exact .inl (.inr ⟨i, t, by omega, h1, (same i h0).1 h2, h3⟩)
/-- A step behind that hangs on Out leaves the live ones. -/
theorem live_more {L : List Step} {out : Nat} {S T : List Bool} {z : Step} (hd : DownS L) (h : LiveAt L out 0 S) (k : LiveAt (L ++ [z]) L.length 0 T) (hz : ∀ j, uses z j ↔ j = out) : T = S ++ [true] := by
  have hl := k.1
  have hlS := h.1
  simp only [List.length_append, List.length_singleton] at hl
  have hn : T[L.length]? = some true := (k.2 L.length (by simp)).2 (.inl rfl)
  have e1 : T = T.take L.length ++ [true] := by
    refine List.ext_getElem? fun i => ?_
    rw [List.getElem?_append]
    simp only [List.length_take]
    by_cases hi : i < L.length
    · rw [if_pos (by omega), List.getElem?_take_of_lt hi]
    · rw [if_neg (by omega)]
      by_cases hi' : i = L.length
      · subst hi'
        rw [hn, show L.length - min L.length T.length = 0 by omega]
        rfl
      · rw [List.getElem?_eq_none (by omega), List.getElem?_eq_none (by simp; omega)]
  rw [e1]
  congr 1
  refine live_one hd ⟨by rw [List.length_take]; omega, fun j hj => ?_⟩ h
  rw [List.getElem?_take_of_lt hj, k.2 j (by simp; omega)]
  constructor
  · rintro (e | ⟨i, t, h0, h1, h2, h3⟩)
    · omega
    · by_cases hi : i < L.length
      · rw [List.getElem?_append_left hi] at h1
        exact .inr ⟨i, t, h0, h1, by rw [List.getElem?_take_of_lt hi]; exact h2, h3⟩
      · have hi' : i = L.length := by have := (List.getElem?_eq_some_iff.1 h1).1; simp at this; omega
        subst hi'
        rw [List.getElem?_concat_length] at h1
        cases h1
        exact .inl ((hz j).1 h3)
  · rintro (e | ⟨i, t, h0, h1, h2, h3⟩)
    · exact .inr ⟨L.length, z, Nat.zero_le _, List.getElem?_concat_length, hn, (hz j).2 e⟩
    · have hi := (List.getElem?_eq_some_iff.1 h1).1
      rw [List.getElem?_take_of_lt hi] at h2
      exact .inr ⟨i, t, h0, by rw [List.getElem?_append_left hi]; exact h1, h2, h3⟩
theorem live_start {L : List Step} {o : Nat} (ho : o < L.length) : LiveAt L o L.length ((List.replicate L.length false).set o true) := by
  refine ⟨by simp, fun j hj => ?_⟩
  rw [set_true (by simpa using ho)]
  constructor
  · rintro (h | h)
    · rw [List.getElem?_replicate] at h
      split at h <;> simp at h
    · exact .inl h
  · rintro (h | ⟨i, s, h0, h1, _⟩)
    · exact .inr h
    · have := (List.getElem?_eq_some_iff.1 h1).1
      omega
end Go.Proofs.YtbncdghbnnefdaaGreat

namespace Go.Proofs.YtbncdghbnnefdaaGreat
open Go.RowKit

/-- Truths as cells. -/
def bls (S : List Bool) : List Value := S.map fun (x : Bool) => Value.bool x
/-- Block g holds the truths S, and may be written. -/
def Truths (w : World) (g : Nat) (S : List Bool) : Prop := w.heap[g]? = some (.cells (bls S).toArray 4 (0, 0))
theorem Truths.lt {w : World} {g : Nat} {S : List Bool} (h : Truths w g S) : g < w.heap.size := (Array.getElem?_eq_some_iff.1 h).1
theorem Truths.cell {w : World} {g : Nat} {S : List Bool} (h : Truths w g S) {i : Nat} (hi : i < S.length) : w.cell? ⟨g, i, none⟩ = some (.bool (S[i]?.getD false)) := by
  simp [World.cell?, show w.heap[g]? = _ from h, bls, hi]
theorem Truths.frozen {w : World} {g : Nat} {S : List Bool} (h : Truths w g S) (i : Nat) : w.frozen? ⟨g, i, none⟩ = false := by simp [World.frozen?, show w.heap[g]? = _ from h]
theorem Truths.set {w : World} {g : Nat} {S : List Bool} (h : Truths w g S) (i : Nat) (x : Bool) : Truths (w.setCell ⟨g, i, none⟩ (.bool x)) g (S.set i x) := by
  obtain ⟨hlt, hk⟩ := Array.getElem?_eq_some_iff.1 h
  show (w.heap.modify g _)[g]? = _
  rw [Array.getElem?_eq_getElem (by rw [Array.size_modify]; exact hlt), Array.getElem_modify_self, hk]
  simp [bls]
theorem Truths.other {w : World} {g : Nat} {S : List Bool} (h : Truths w g S) {p : Addr} (hp : p.block ≠ g) (v : Value) : Truths (w.setCell p v) g S :=
  (Below.heap_setCell w p v g (Ne.symm hp)).trans h
theorem Truths.ext {w w' : World} {g : Nat} {S : List Bool} (h : Truths w g S) (e : Ext w w') : Truths w' g S := e.block h

/-- What Live's closure does: block g turns, and nothing else that there was. -/
structure Marks (g : Nat) (S : List Bool) (w w' : World) : Prop where
  below : Below g w w'
  bits : Truths w' g S
  rest : ∀ (p : Addr) (v : Value), p.block ≠ g → w.cell? p = some v → w'.cell? p = some v

set_option maxRecDepth 100000 in
set_option maxHeartbeats 4000000 in
theorem mark_any (s : Step) (x3 x4 x5 : Value) (cb g n : Nat) (S : List Bool) (w : World) (hop : s.op < 256) (hT : Truths w g S) (hn : S.length = n) (hc : w.cell? ⟨cb, 0, none⟩ = some (.slice (some ⟨g, 0, none⟩) n n))
    (h3 : fieldsN s.op = 3 → 0 ≤ s.a ∧ s.a < n ∧ 0 ≤ s.b ∧ s.b < n) (h4 : fieldsN s.op = 4 → 0 ≤ s.a ∧ s.a < n) (hcb : cb ≠ g) :
    Calls Tryz.prog 40 #[.agg #[.int .u8 s.op, .int .i64 s.a, .int .i64 s.b, x3, x4, x5], .pointer (some ⟨cb, 0, none⟩)] w fun e w' => e = .returned (.tuple #[]) ∧ Marks g (markS S s) w w' := by
  obtain ⟨op, a, b, neg, xs, ys⟩ := s
  simp only at *
  have hb1 := World.block_lt_of_cell? w _ hc
  have hb2 := hT.lt
  simp at hb1
  have HF := Lib.hid (fun W => fields_any op hop W)
  obtain ⟨k, hk⟩ : ∃ k, k = fieldsN op := ⟨_, rfl⟩
  rw [← hk] at HF h3 h4
  have HT := Lib.hid hT
  by_cases k3 : k = 3
  · subst k3
    obtain ⟨ha, ha', hb, hb'⟩ := h3 rfl
    obtain ⟨a, rfl⟩ := Int.eq_ofNat_of_zero_le ha
    obtain ⟨b, rfl⟩ := Int.eq_ofNat_of_zero_le hb
    have em : markS S ⟨op, a, b, neg, xs, ys⟩ = (S.set b true).set a true := by unfold markS; simp only; rw [if_pos hk.symm]; simp
    have Hm := Lib.hid em
    clear em hk h3 h4 hT
    go_enter Tryz.func40, Tryz.ntmps40
    go_wp2_with fail
    refine (HF.out _).mono ?_
    rintro e w1 ⟨_, rfl, E1, rfl⟩
    clear HF
    have E := (Ext.of_alloc _ _).trans E1
    have hc' := E.cell hc
    have hT1 := HT.out.ext E
    have c1 : (w1.setCell ⟨g, b, none⟩ (.bool true)).cell? ⟨cb, 0, none⟩ = some (.slice (some ⟨g, 0, none⟩) n n) := by rw [World.cell?_setCell_other _ _ _ _ (by first | (simp; done) | (simp; omega))]; exact hc'
    have hT2 := hT1.set b true
    have hT3 := hT2.set a true
    have f1 := hT1.frozen b
    have f2 := hT2.frozen a
    have x1 := hT1.cell (i := b) (by omega)
    have x2 := hT2.cell (i := a) (by simp; omega)
    have HM : Marks g ((S.set b true).set a true) w ((w1.setCell ⟨g, b, none⟩ (.bool true)).setCell ⟨g, a, none⟩ (.bool true)) := by
      refine ⟨((Below.mono E (Nat.le_of_lt hb2)).setCell (Nat.le_refl _) _).setCell (Nat.le_refl _) _, hT3, fun p v hp hv => ?_⟩
      rw [World.cell?_setCell_other _ _ _ _ (by intro e; exact hp (by rw [← e])), World.cell?_setCell_other _ _ _ _ (by intro e; exact hp (by rw [← e]))]
      exact E.cell hv
    have HM := Lib.hid HM
    have Ew := World.block_lt_of_cell? w1 _ hc'
    have d0 : w1.cell? ⟨w.heap.size, 1, none⟩ = some (.int .i64 a) := E1.cell (by simp [go_sem])
    have d1 : w1.cell? ⟨w.heap.size, 2, none⟩ = some (.int .i64 b) := E1.cell (by simp [go_sem])
    have d2 : (w1.setCell ⟨g, b, none⟩ (.bool true)).cell? ⟨w.heap.size, 1, none⟩ = some (.int .i64 a) := by rw [World.cell?_setCell_other _ _ _ _ (by first | (simp; done) | (simp; omega))]; exact d0
    clear hT1 hT2 hT3 E E1 HT hc
    go_wp2
    go_end0
    exact ⟨rfl, by rw [Hm.out]; exact HM.out⟩
  · by_cases k4 : k = 4
    · subst k4
      obtain ⟨ha, ha'⟩ := h4 rfl
      obtain ⟨a, rfl⟩ := Int.eq_ofNat_of_zero_le ha
      have em : markS S ⟨op, a, b, neg, xs, ys⟩ = S.set a true := by unfold markS; simp only; rw [if_neg (by omega), if_pos hk.symm]; simp
      have Hm := Lib.hid em
      clear em hk h3 h4 hT k3
      go_enter Tryz.func40, Tryz.ntmps40
      go_wp2_with fail
      refine (HF.out _).mono ?_
      rintro e w1 ⟨_, rfl, E1, rfl⟩
      clear HF
      have E := (Ext.of_alloc _ _).trans E1
      have hc' := E.cell hc
      have hT1 := HT.out.ext E
      have hT2 := hT1.set a true
      have f1 := hT1.frozen a
      have x1 := hT1.cell (i := a) (by omega)
      have HM : Marks g (S.set a true) w (w1.setCell ⟨g, a, none⟩ (.bool true)) := by
        refine ⟨(Below.mono E (Nat.le_of_lt hb2)).setCell (Nat.le_refl _) _, hT2, fun p v hp hv => ?_⟩
        rw [World.cell?_setCell_other _ _ _ _ (by intro e; exact hp (by rw [← e]))]
        exact E.cell hv
      have HM := Lib.hid HM
      have d0 : w1.cell? ⟨w.heap.size, 1, none⟩ = some (.int .i64 a) := E1.cell (by simp [go_sem])
      clear hT1 hT2 E E1 HT hc
      go_wp2
      go_end0
      exact ⟨rfl, by rw [Hm.out]; exact HM.out⟩
    · have em : markS S ⟨op, a, b, neg, xs, ys⟩ = S := by unfold markS; simp only; rw [if_neg (by omega), if_neg (by omega)]
      have Hm := Lib.hid em
      have q3 : ¬ ((k : Int) = 3) := by omega
      have q4 : ¬ ((k : Int) = 4) := by omega
      clear em hk h3 h4 hT k3 k4
      go_enter Tryz.func40, Tryz.ntmps40
      go_wp2_with fail
      refine (HF.out _).mono ?_
      rintro e w1 ⟨_, rfl, E1, rfl⟩
      clear HF
      have E := (Ext.of_alloc _ _).trans E1
      have HM : Marks g S w w1 := ⟨Below.mono E (Nat.le_of_lt hb2), HT.out.ext E, fun p v _ hv => E.cell hv⟩
      have HM := Lib.hid HM
      clear E E1 HT hc
      go_wp2
      go_end0
      exact ⟨rfl, by rw [Hm.out]; exact HM.out⟩
end Go.Proofs.YtbncdghbnnefdaaGreat

namespace Go.Proofs.YtbncdghbnnefdaaGreat
open Go.RowKit

theorem madeCells_bls (n : Nat) : madeCells #[Value.bool false] n = (bls (List.replicate n false)).toArray := by
  apply Array.ext
  · simp [madeCells, bls]
  · intro i h1 h2
    simp [madeCells, bls, Nat.mod_one]
theorem info_bool : (Tryz.prog.info? 4).map (fun i => (i.zero, i.size, i.bytes)) = some (some (.bool false), 1, 1) := by kernel_rfl
theorem run_make_bool (n : Nat) (hn : n ≤ 1000000) (w : World) :
    (Instr.makeSlice 66 (.int .i64 n) (.int .i64 n)).run Tryz.prog w = .ok (.slice (some ⟨w.heap.size, 0, none⟩) n n) (w.alloc (.cells (bls (List.replicate n false)).toArray 4)) := by
  have hp := info_bool
  obtain ⟨i0, hi⟩ : ∃ i0, Tryz.prog.info? 4 = some i0 := by cases h : Tryz.prog.info? 4 with | none => rw [h] at hp; cases hp | some i => exact ⟨i, rfl⟩
  rw [hi] at hp
  simp only [Option.map_some, Option.some.injEq, Prod.mk.injEq] at hp
  obtain ⟨hz0, hz1, hz2⟩ := hp
  have h := run_make (P := Tryz.prog) w 66 4 i0 (.bool false) Tryz.underlying66 hi hz0 .i64 .i64 (n : Int) (n : Int) (by omega) (Int.le_refl _) (by rw [hz2]; omega) (by omega)
  rw [hz1, Nat.mul_one, Int.toNat_natCast, show Value.cells (.bool false) = #[Value.bool false] from rfl, madeCells_bls] at h
  exact h

/-- What Live answers. -/
def LiveRes (B : Nat) (pars out : Int) (L : List Step) (T : List (ByteArray × Int)) (v : Value) (w : World) : Prop :=
  (checkP pars out L T ≠ 0 → v = .slice none 0 0) ∧ (checkP pars out L T = 0 → ∃ g S, v = .slice (some ⟨g, 0, none⟩) L.length L.length ∧ B ≤ g ∧ Truths w g S ∧ LiveAt L out.toNat 0 S)
theorem check_parts {pars out : Int} {L : List Step} {T : List (ByteArray × Int)} (h : checkP pars out L T = 0) : headOk pars out L.length ∧ (∀ (i : Nat) (s : Step), L[i]? = some s → rightP s i pars = true) ∧ allT T L.length = true := by
  unfold checkP at h
  split at h
  · rename_i hc
    exact ⟨hc.1, (allR_iff _ _).1 hc.2.1, hc.2.2⟩
  · cases h

set_option maxRecDepth 100000 in
set_option maxHeartbeats 8000000 in
theorem live_any (pars out : Int) (a1 a2 : Option Addr) (n1 c1 n2 c2 : Nat) (L : List Step) (T : List (ByteArray × Int)) (w : World) (hs : Steps w a1 n1 c1 L) (ht : Tells w a2 n2 c2 T) :
    Calls Tryz.prog 22 #[.agg #[.int .i64 pars, .int .i64 out, .slice a1 n1 c1, .slice a2 n2 c2]] w (Post w (LiveRes w.heap.size pars out L T)) := by
  have hmf : ∀ (fn : Fn) (first cap : Array Value) (w : World), (Instr.makeFunc fn first cap).run Tryz.prog w = .ok (.func fn first cap) w := fun _ _ _ _ => rfl
  have HC := Lib.hid (fun W (e : Ext w W) => check_any pars out a1 a2 n1 c1 n2 c2 L T W (hs.ext e) (ht.ext e))
  obtain ⟨q, hq⟩ : ∃ q, q = checkP pars out L T := ⟨_, rfl⟩
  rw [← hq] at HC
  have Hs := Lib.hid hs
  obtain rfl := hs.len
  clear hs ht
  by_cases hq0 : q = 0
  · subst hq0
    obtain ⟨hh, hr, _⟩ := check_parts hq.symm
    unfold headOk at hh
    obtain ⟨g1, g2, g3, g4, g5, g6⟩ := hh
    obtain ⟨o, rfl⟩ := Int.eq_ofNat_of_zero_le g5
    have HD := Lib.hid (down_of hr)
    have HR := Lib.hid hr
    have Hq := Lib.hid hq
    have hmk := run_make_bool L.length (by omega)
    clear hr hq g1 g2
    go_enter Tryz.func22, Tryz.ntmps22
    go_wp2_with fail
    refine (HC.out _ (Ext.of_alloc _ _)).mono ?_
    rintro e w1 ⟨_, rfl, E1, rfl⟩
    clear HC
    obtain ⟨tb, htb⟩ : ∃ tb, tb = w.heap.size := ⟨_, rfl⟩
    have z1 : w1.cell? ⟨tb, 1, none⟩ = some (.int .i64 o) := E1.cell (by rw [htb]; simp [go_sem])
    have z2 : w1.cell? ⟨tb, 2, none⟩ = some (.slice a1 L.length c1) := E1.cell (by rw [htb]; simp [go_sem])
    have Ew : Ext w w1 := (Ext.of_alloc _ _).trans E1
    have hb := World.block_lt_of_cell? w1 _ z1
    simp at hb
    have hsz := Ew.size
    rw [← htb]
    clear htb E1
    obtain ⟨W1, hW1⟩ : ∃ W1, W1 = w1.alloc (.cells (bls (List.replicate L.length false)).toArray 4) := ⟨_, rfl⟩
    obtain ⟨g, hg⟩ : ∃ g, g = w1.heap.size := ⟨_, rfl⟩
    have hmk1 := hmk w1
    rw [← hW1, ← hg] at hmk1
    have hT : Truths W1 g (List.replicate L.length false) := by rw [hW1, hg]; exact heap_alloc_new w1 _
    have E2 : Ext w1 W1 := by rw [hW1]; exact Ext.of_alloc _ _
    have hs1 : W1.heap.size = g + 1 := by rw [hW1, hg]; simp
    have y1 := E2.cell z1
    have y2 := E2.cell z2
    have f1 := hT.frozen o
    have x1 := hT.cell (i := o) (by simp; omega)
    have htb : tb < g := by omega
    have hgB : w.heap.size ≤ g := by omega
    have EW := Ew.trans E2
    clear hmk hW1 hg hb hsz Ew E2
    have HT := Lib.hid hT
    have HW := Lib.hid EW
    clear hT EW
    go_wp2_with fail
    obtain ⟨W2, hW2⟩ : ∃ W2, W2 = ((W1.setCell ⟨g, o, none⟩ (.bool true)).alloc (.cells #[.slice (some ⟨g, 0, none⟩) L.length L.length] 66)) := ⟨_, rfl⟩
    have EW2 : Ext w W2 := by rw [hW2]; exact Ext.alloc (Below.setCell (p := ⟨g, o, none⟩) HW.out hgB _) _
    have hT2 : Truths W2 g ((List.replicate L.length false).set o true) := by rw [hW2]; exact (HT.out.set o true).ext (Ext.of_alloc _ _)
    have hc2 : W2.cell? ⟨g + 1, 0, none⟩ = some (.slice (some ⟨g, 0, none⟩) L.length L.length) := by rw [hW2]; simp [go_sem, hs1]
    have k2 : W2.cell? ⟨tb, 2, none⟩ = some (.slice a1 L.length c1) := by
      rw [hW2]
      refine (Ext.of_alloc _ _).cell ?_
      rw [World.cell?_setCell_other _ _ _ _ (by first | (simp; done) | (simp; omega))]
      exact y2
    have hLA := live_start (L := L) (o := o) (by omega)
    rw [← hW2]
    clear hW2 HT HW z1 z2 y1 y2 f1 x1 hmk1 hs1
    obtain ⟨S0, hS0⟩ : ∃ S0, S0 = (List.replicate L.length false).set o true := ⟨_, rfl⟩
    rw [← hS0] at hLA hT2
    clear hS0
    go_loopw [22] (fun k wr => ∃ (j : Nat) (S : List Bool), j ≤ L.length ∧ k = .int .i64 j ∧ Truths wr g S ∧ Ext w wr ∧ wr.cell? ⟨g + 1, 0, none⟩ = some (.slice (some ⟨g, 0, none⟩) L.length L.length) ∧ wr.cell? ⟨tb, 2, none⟩ = some (.slice a1 L.length c1) ∧ Hid (LiveAt L o (L.length - j) S)) (fun k _ => L.length - (intOf k).toNat)
    case atStart => exact ⟨0, S0, Nat.zero_le _, rfl, hT2, EW2, hc2, k2, Lib.hid hLA⟩
    case round =>
      clear hT2 EW2 hc2 k2 hLA
      obtain ⟨j, S, hj, rfl, hT, hE, hc, hk, hLA⟩ := hrel
      have hlenS := hLA.out.1
      by_cases hlt : j < L.length
      · obtain ⟨i, hi⟩ : ∃ i, i = L.length - 1 - j := ⟨_, rfl⟩
        have ei : (L.length : Int) - 1 - j = i := by omega
        have hil : i < L.length := by omega
        obtain ⟨b, off, s, rfl, hs, a3, m3, c3, a4, m4, c4, q0, q1, q2, q3, q4, q5, q6, q7, q8⟩ := (Hs.out.ext hE).at hil
        have x1 := hT.cell (i := i) (by omega)
        have hj' : L.length - j = i + 1 := by omega
        have hj2 : L.length - (j + 1) = i := by omega
        rw [hj'] at hLA
        obtain ⟨t, ht⟩ : ∃ t, t = S[i]?.getD false := ⟨_, rfl⟩
        rw [← ht] at x1
        have Hsi := Lib.hid hs
        have Ht := Lib.hid ht
        have Hi := Lib.hid hi
        have hb := World.block_lt_of_cell? _ _ hc
        simp at hb
        have hrt := right_bounds (HR.out i s hs)
        have hmark := mark_any s (.bool s.neg) (.slice a3 m3 c3) (.slice a4 m4 c4) (g + 1) g L.length S wr q8.1 hT hlenS hc (fun h => by have := hrt.1 h; omega) (fun h => by have := hrt.2 h; omega) (by omega)
        have HMK := Lib.hid hmark
        have hp : 0 ≤ s.a ∧ 0 ≤ s.b ∨ fieldsN s.op = 4 ∧ 0 ≤ s.a ∨ fieldsN s.op ≠ 3 ∧ fieldsN s.op ≠ 4 := by
          by_cases h3 : fieldsN s.op = 3
          · exact .inl ⟨(hrt.1 h3).1, (hrt.1 h3).2.2.1⟩
          · by_cases h4 : fieldsN s.op = 4
            · exact .inr (.inl ⟨h4, (hrt.2 h4).1⟩)
            · exact .inr (.inr ⟨h3, h4⟩)
        have Hp := Lib.hid hp
        have HT := Lib.hid hT
        have HE := Lib.hid hE
        have hml := hlenS
        clear hmark hrt ht hs hi q6 q7 q8 hT hE hlenS hp
        cases t
        · have hskip : LiveAt L o i S := live_skip hLA.out (by
            intro e
            have := Ht.out
            rw [e] at this
            cases this)
          have HK := Lib.hid hskip
          clear hskip hLA HMK
          go_wp2
          exact ⟨⟨j + 1, S, by omega, by go_num, HT.out, HE.out, hc, hk, by rw [hj2]; exact HK⟩, by simp [intOf]; omega⟩
        · have hst : S[i]? = some true := by
            have := Ht.out
            rw [List.getElem?_eq_getElem (by omega)] at this ⊢
            rw [Option.getD_some] at this
            rw [← this]
          have hmk := live_mark HD.out hLA.out Hsi.out hst Hp.out
          have HK := Lib.hid hmk
          clear hmk hst hLA
          go_wp2_with fail
          refine HMK.out.mono ?_
          rintro e w3 ⟨rfl, M⟩
          have hE3 : Ext w w3 := Below.trans HE.out (Below.mono M.below hgB)
          have hc3 := M.rest _ _ (by simp) hc
          have hk3 := M.rest _ _ (by simp; omega) hk
          have hb3 := M.bits
          clear HMK HT HE hc hk M
          go_wp2
          exact ⟨⟨j + 1, markS S s, by omega, by go_num, hb3, hE3, hc3, hk3, by rw [hj2]; exact HK⟩, by simp [intOf]; omega⟩
      · go_wp2
        go_ret
        refine Post.mk hE ⟨fun h => absurd Hq.out.symm h, fun _ => ⟨g, S, rfl, hgB, hT, ?_⟩⟩
        have := hLA.out
        rw [show L.length - j = 0 by omega] at this
        exact this
  · have q0 : ¬ ((q : Int) = 0) := by omega
    go_enter Tryz.func22, Tryz.ntmps22
    go_wp2_with fail
    refine (HC.out _ (Ext.of_alloc _ _)).mono ?_
    rintro e w1 ⟨_, rfl, E1, rfl⟩
    clear HC
    go_wp2
    go_ret
    exact Post.mk (by repeat (first | with_reducible exact Ext.refl _ | with_reducible assumption | (with_reducible refine Ext.alloc ?_ _) | (with_reducible refine Ext.drew ?_) | (with_reducible refine Ext.drewN ?_ _) | (with_reducible refine Ext.set ?_ (by first | (simp; done) | (simp; omega)) _) | (with_reducible refine Ext.trans ?_ (by with_reducible assumption)))) ⟨fun _ => rfl, fun h => by rw [← hq] at h; exact absurd h hq0⟩
end Go.Proofs.YtbncdghbnnefdaaGreat
