/- Parts of the proof: contracts of the functions that the law reaches, and the arithmetic that they rest on; no condition beyond those that each theorem states. -/
import Derived.Test.YtbncdghbnnefdaaGreatM11

namespace Go.Proofs.YtbncdghbnnefdaaGreat
open Go.RowKit

set_option maxRecDepth 100000 in
set_option maxHeartbeats 8000000 in
theorem put_full (B pb mb bud pars gp : Nat) (row : Value) (L : List Step) (s : Step) (v : Value) (w : World) (hM : Mk w B pb mb row bud pars gp L) (hs : IsStep w v s) (hwf : Wf s) (hnew : ∀ t ∈ L, keyV t ≠ keyV s) (hn : Nice s) (hroom : bud ≤ L.length) :
    Calls Tryz.prog 30 #[.pointer (some ⟨pb, 0, none⟩), v] w (Post w fun r _ => r = .tuple #[.int .i64 0, .int .i64 171]) := by
  obtain ⟨a1, n1, c1, a2, n2, c2, rfl, h1, h2, hop, hn1, hn2⟩ := hs
  have k3 := hM.c3
  have k2 := hM.c2
  have k0 := hM.c0
  obtain ⟨ra, rc, rfl⟩ := hM.row_form
  have hpb := World.block_lt_of_cell? w _ k3
  simp at hpb
  have hA : MapAt mb L w := hM.map
  have hlk := fun W (h : MapAt mb L W) => look_miss (s := s) (mb := mb) (n := L.length) hM.good.wf hwf hnew W h
  unfold keyV at hlk
  have hbud := hM.good.bud1
  have hlen := hM.good.len
  have hlt : ((bud : Nat) : Int) ≤ ((L.length : Nat) : Int) := by omega
  by_cases h1' : s.op = 1
  · have hnc := normC_spec (hn.1 h1')
    obtain ⟨y1, y2, y3, y4, y5, y6⟩ := hnc
    have e1 : (((s.op : Nat) : Int) == 1) = true := by simp; omega
    obtain ⟨u, hu⟩ : ∃ u, u = txt (keyT s) := ⟨_, rfl⟩
    have hT := fun w' u1 u2 => ftext_any s.neg a1 a2 n1 c1 n2 c2 (val s.xs) (val s.ys) w' u1 u2 (h1.top hn1) (h2.top hn2) y1
    rw [y5, y6, y2] at hT
    have eT : fT s.neg (val s.xs) (val s.ys) = keyT s := by unfold fT keyT; rw [if_pos h1']
    rw [eT, ← hu] at hT
    rw [← hu] at hlk
    have HT := Lib.hid hT
    have Hlk := Lib.hid hlk
    have k1 : IsN w (.slice a1 n1 c1) (val s.xs) := IsN.of h1 (by omega)
    have kk2 : IsN w (.slice a2 n2 c2) (val s.ys) := IsN.of h2 (by omega)
    clear hn h1' hlk hT eT hu y1 y2 y3 y4 y5 y6 hnew
    go_enter Tryz.func30, Tryz.ntmps30
    go_wp2_with fail
    refine (HT.out _ (k1.ext (by repeat (first | with_reducible exact Ext.refl _ | with_reducible assumption | (with_reducible refine Ext.alloc ?_ _) | (with_reducible refine Ext.drew ?_) | (with_reducible refine Ext.drewN ?_ _) | (with_reducible refine Ext.set ?_ (by first | (simp; done) | (simp; omega)) _) | (with_reducible refine Ext.trans ?_ (by with_reducible assumption))))) (kk2.ext (by repeat (first | with_reducible exact Ext.refl _ | with_reducible assumption | (with_reducible refine Ext.alloc ?_ _) | (with_reducible refine Ext.drew ?_) | (with_reducible refine Ext.drewN ?_ _) | (with_reducible refine Ext.set ?_ (by first | (simp; done) | (simp; omega)) _) | (with_reducible refine Ext.trans ?_ (by with_reducible assumption)))))).mono ?_
    rintro e w9 ⟨_, rfl, E9, rfl⟩
    obtain ⟨hc, hf⟩ := E9.look
    have hz := E9.size
    simp at hz
    have k3' := E9.cell ((Ext.of_alloc _ _).cell ((Ext.of_alloc _ _).cell k3))
    have k2' := E9.cell ((Ext.of_alloc _ _).cell ((Ext.of_alloc _ _).cell k2))
    have k0' := E9.cell ((Ext.of_alloc _ _).cell ((Ext.of_alloc _ _).cell k0))
    have hA1 : MapAt mb L w9 := E9.block (MapAt_alloc (MapAt_alloc hA _) _)
    have hl := Hlk.out (w9.setCell ⟨w.heap.size + 1, 3, none⟩ (.string u)).drew (MapAt_set hA1 _ _)
    go_wp2
    go_region
    go_wp2
    go_region
    go_wp2
    go_ret2
    exact Post.mk (by repeat (first | with_reducible exact Ext.refl _ | with_reducible assumption | (with_reducible refine Ext.alloc ?_ _) | (with_reducible refine Ext.drew ?_) | (with_reducible refine Ext.drewN ?_ _) | (with_reducible refine Ext.set ?_ (by first | (simp; done) | (simp; omega)) _) | (with_reducible refine Ext.trans ?_ (by with_reducible assumption)))) rfl
  · have e1 : (((s.op : Nat) : Int) == 1) = false := by simp; omega
    have ek : txt (keyT s) = ⟨#[]⟩ := by unfold keyT; rw [if_neg h1']; rfl
    rw [ek] at hlk
    have hl := hlk ((w.alloc (.cells #[.int .u8 s.op, .int .i64 s.a, .int .i64 s.b, .bool s.neg, .slice a1 n1 c1, .slice a2 n2 c2] 78)).alloc (.cells #[.int .u8 s.op, .int .i64 s.a, .int .i64 s.b, .string ⟨#[]⟩] 98)).drew (MapAt_alloc (MapAt_alloc hA _) _)
    clear hn ek h1' hlk hnew
    go_enter Tryz.func30, Tryz.ntmps30
    go_wp2
    go_region
    go_wp2
    go_region
    go_wp2
    go_ret2
    exact Post.mk (by repeat (first | with_reducible exact Ext.refl _ | with_reducible assumption | (with_reducible refine Ext.alloc ?_ _) | (with_reducible refine Ext.drew ?_) | (with_reducible refine Ext.drewN ?_ _) | (with_reducible refine Ext.set ?_ (by first | (simp; done) | (simp; omega)) _) | (with_reducible refine Ext.trans ?_ (by with_reducible assumption)))) rfl
end Go.Proofs.YtbncdghbnnefdaaGreat

namespace Go.Proofs.YtbncdghbnnefdaaGreat

theorem rdig_inj : ∀ (k m n : Nat), m ≤ k → rdig m = rdig n → m = n := by
  intro k
  induction k with
  | zero =>
    intro m n hm h
    obtain rfl : m = 0 := by omega
    by_cases hn : n = 0
    · exact hn.symm
    · rw [rdig_zero, rdig_pos hn] at h; cases h
  | succ k ih =>
    intro m n hm h
    by_cases hm0 : m = 0
    · subst hm0
      by_cases hn : n = 0
      · exact hn.symm
      · rw [rdig_zero, rdig_pos hn] at h; cases h
    · by_cases hn : n = 0
      · subst hn
        rw [rdig_zero, rdig_pos hm0] at h; cases h
      · rw [rdig_pos hm0, rdig_pos hn] at h
        simp only [List.cons.injEq] at h
        have := ih (m / 10) (n / 10) (by omega) h.2
        omega
theorem decT_inj {m n : Nat} (h : decT m = decT n) : m = n := by
  unfold decT at h
  by_cases hm : m = 0
  · by_cases hn : n = 0
    · rw [hm, hn]
    · rw [if_pos hm, if_neg hn] at h
      have := congrArg List.reverse h
      rw [List.reverse_reverse, rdig_pos hn] at this
      simp only [List.reverse_singleton, List.cons.injEq] at this
      have h1 := rdig_inj 0 0 (n / 10) (Nat.le_refl _) (by rw [rdig_zero]; exact this.2)
      omega
  · by_cases hn : n = 0
    · rw [if_neg hm, if_pos hn] at h
      have := congrArg List.reverse h
      rw [List.reverse_reverse, rdig_pos hm] at this
      simp only [List.reverse_singleton, List.cons.injEq] at this
      have h1 := rdig_inj 0 0 (m / 10) (Nat.le_refl _) (by rw [rdig_zero]; exact this.2.symm)
      omega
    · rw [if_neg hm, if_neg hn] at h
      exact rdig_inj m m n (Nat.le_refl _) (List.reverse_inj.1 h)
theorem decT_rng (m : Nat) : ∀ x ∈ decT m, 48 ≤ x ∧ x < 58 := by
  unfold decT
  split
  · intro x hx; simp at hx; omega
  · intro x hx; exact rdig_lt m x (List.mem_reverse.1 hx)
theorem zT_rng (g : Bool) (m : Nat) : ∀ x ∈ zT g m, x = 45 ∨ 48 ≤ x ∧ x < 58 := by
  unfold zT
  intro x hx
  split at hx
  · rcases List.mem_cons.1 hx with h | h
    · exact .inl h
    · exact .inr (decT_rng m x h)
  · exact .inr (decT_rng m x hx)
theorem ofNat_inj {a b : Nat} (ha : a < 256) (hb : b < 256) (h : UInt8.ofNat a = UInt8.ofNat b) : a = b := by
  have := congrArg UInt8.toNat h
  simp only [UInt8.toNat_ofNat'] at this
  omega
theorem map_inj : ∀ {l k : List Nat}, (∀ x ∈ l, x < 256) → (∀ x ∈ k, x < 256) → l.map UInt8.ofNat = k.map UInt8.ofNat → l = k
  | [], [], _, _, _ => rfl
  | [], b :: k, _, _, h => by simp at h
  | a :: l, [], _, _, h => by simp at h
  | a :: l, b :: k, h1, h2, h => by
    simp only [List.map_cons, List.cons.injEq] at h
    rw [ofNat_inj (h1 a (by simp)) (h2 b (by simp)) h.1, map_inj (fun x hx => h1 x (by simp [hx])) (fun x hx => h2 x (by simp [hx])) h.2]
theorem txt_inj {l k : List Nat} (h1 : ∀ x ∈ l, x < 256) (h2 : ∀ x ∈ k, x < 256) (h : txt l = txt k) : l = k := by
  refine map_inj h1 h2 ?_
  have := congrArg ByteArray.toList h
  rwa [txt_bytes, txt_bytes] at this
theorem split_inj : ∀ {a c b d : List Nat}, 47 ∉ a → 47 ∉ c → a ++ 47 :: b = c ++ 47 :: d → a = c ∧ b = d
  | [], [], _, _, _, _, h => by simpa using h
  | [], x :: c, _, _, _, h2, h => by
    simp only [List.nil_append, List.cons_append, List.cons.injEq] at h
    exact absurd h.1 (fun e => h2 (by rw [e]; simp))
  | x :: a, [], _, _, h1, _, h => by
    simp only [List.nil_append, List.cons_append, List.cons.injEq] at h
    exact absurd h.1 (fun e => h1 (by rw [e]; simp))
  | x :: a, y :: c, b, d, h1, h2, h => by
    simp only [List.cons_append, List.cons.injEq] at h
    obtain ⟨e1, e2⟩ := split_inj (a := a) (c := c) (fun e => h1 (by simp [e])) (fun e => h2 (by simp [e])) h.2
    exact ⟨by rw [h.1, e1], e2⟩
theorem zT_inj {g g' : Bool} {m m' : Nat} (h : zT g m = zT g' m') : sg g m = sg g' m' ∧ m = m' := by
  unfold zT at h
  cases h1 : sg g m <;> cases h2 : sg g' m' <;> rw [h1, h2] at h <;> simp only [Bool.false_eq_true, if_false, if_true] at h
  · exact ⟨rfl, decT_inj h⟩
  · exfalso
    have := decT_rng m 45 (by rw [h]; simp)
    omega
  · exfalso
    have := decT_rng m' 45 (by rw [← h]; simp)
    omega
  · simp only [List.cons.injEq, true_and] at h
    exact ⟨rfl, decT_inj h⟩
theorem no47 (g : Bool) (m : Nat) : 47 ∉ zT g m := fun h => by
  have := zT_rng g m 47 h
  omega
theorem fT_inj {g g' : Bool} {n n' d d' : Nat} (h : (if d = 1 then zT g n else zT g n ++ 47 :: decT d) = (if d' = 1 then zT g' n' else zT g' n' ++ 47 :: decT d')) : sg g n = sg g' n' ∧ n = n' ∧ d = d' := by
  by_cases h1 : d = 1
  · by_cases h2 : d' = 1
    · rw [if_pos h1, if_pos h2] at h
      obtain ⟨e1, e2⟩ := zT_inj h
      exact ⟨e1, e2, by rw [h1, h2]⟩
    · rw [if_pos h1, if_neg h2] at h
      exact absurd (by rw [h]; simp) (no47 g n)
  · by_cases h2 : d' = 1
    · rw [if_neg h1, if_pos h2] at h
      exact absurd (by rw [← h]; simp) (no47 g' n')
    · rw [if_neg h1, if_neg h2] at h
      obtain ⟨e1, e2⟩ := split_inj (no47 g n) (no47 g' n') h
      obtain ⟨e3, e4⟩ := zT_inj e1
      exact ⟨e3, e4, decT_inj e2⟩
theorem keyT_rng (s : Step) : ∀ x ∈ keyT s, x < 256 := by
  unfold keyT
  intro x hx
  split at hx
  · split at hx
    · have := zT_rng _ _ x hx; omega
    · rcases List.mem_append.1 hx with h | h
      · have := zT_rng _ _ x h; omega
      · rcases List.mem_cons.1 h with h | h
        · omega
        · have := decT_rng _ x h; omega
  · cases hx
theorem noneC_spec {s : Step} (h : noneC s = true) : s.xs = [] ∧ s.ys = [] ∧ s.neg = false := by
  unfold noneC at h
  simp only [Bool.and_eq_true, decide_eq_true_eq, Bool.not_eq_true'] at h
  exact ⟨List.eq_nil_of_length_eq_zero h.1, List.eq_nil_of_length_eq_zero h.2.1, h.2.2⟩
theorem keyV_inj {s t : Step} (hs : Nice s) (ht : Nice t) (h : keyV s = keyV t) : s = t := by
  unfold keyV at h
  simp only [Value.agg.injEq] at h
  have h' := congrArg Array.toList h
  simp only [List.cons.injEq, Value.int.injEq, Value.string.injEq, and_true, true_and] at h'
  obtain ⟨e1, e2, e3, e4⟩ := h'
  have e1' : s.op = t.op := by omega
  have e5 := txt_inj (keyT_rng s) (keyT_rng t) e4
  by_cases ho : s.op = 1
  · have ho' : t.op = 1 := by omega
    obtain ⟨_, s2, s3, s4, _⟩ := normC_spec (hs.1 ho)
    obtain ⟨_, t2, t3, t4, _⟩ := normC_spec (ht.1 ho')
    unfold keyT at e5
    rw [if_pos ho, if_pos ho'] at e5
    obtain ⟨f1, f2, f3⟩ := fT_inj e5
    rw [s2, t2] at f1
    obtain ⟨op, a, b, neg, xs, ys⟩ := s
    obtain ⟨op', a', b', neg', xs', ys'⟩ := t
    simp only at *
    rw [s3, s4, t3, t4, f1, f2, f3, e1', e2, e3]
  · have ho' : ¬ t.op = 1 := by omega
    obtain ⟨s2, s3, s4⟩ := noneC_spec (hs.2 ho)
    obtain ⟨t2, t3, t4⟩ := noneC_spec (ht.2 ho')
    obtain ⟨op, a, b, neg, xs, ys⟩ := s
    obtain ⟨op', a', b', neg', xs', ys'⟩ := t
    simp only at *
    rw [s2, s3, s4, t2, t3, t4, e1', e2, e3]
/-- What may be is nice. -/
theorem nice_of_right {s : Step} {lim pars : Int} (h : rightP s lim pars = true) : Nice s := by
  unfold rightP at h
  have hf := fieldsN_cases s.op
  constructor
  · intro ho
    have : fieldsN s.op = 1 := by rw [ho]; rfl
    rw [if_pos this] at h
    simp only [Bool.and_eq_true] at h
    exact h.1
  · intro ho
    have h1 : fieldsN s.op ≠ 1 := by
      intro e
      unfold fieldsN at e
      rw [if_neg ho] at e
      split at e
      · omega
      · split at e
        · omega
        · split at e <;> omega
    rw [if_neg h1] at h
    split at h
    · simp only [Bool.and_eq_true] at h; exact h.1
    · split at h
      · simp only [Bool.and_eq_true] at h; exact h.1
      · split at h
        · simp only [Bool.and_eq_true] at h; exact h.1
        · cases h
end Go.Proofs.YtbncdghbnnefdaaGreat

namespace Go.Proofs.YtbncdghbnnefdaaGreat
open Go.RowKit

/-- Where a step lies among others. -/
def findS (L : List Step) (s : Step) : Option Nat := L.findIdx? (fun t => sameS t s)
theorem findS_some {L : List Step} {s : Step} {i : Nat} (h : findS L s = some i) : L[i]? = some s := by
  unfold findS at h
  rw [List.findIdx?_eq_some_iff_getElem] at h
  obtain ⟨hlt, h1, _⟩ := h
  rw [List.getElem?_eq_getElem hlt]
  rw [(sameS_iff _ _).1 h1]
theorem findS_none {L : List Step} {s : Step} (h : findS L s = none) : s ∉ L := by
  unfold findS at h
  rw [List.findIdx?_eq_none_iff] at h
  intro hm
  have := h s hm
  rw [(sameS_iff s s).2 rfl] at this
  cases this
/-- A step's place, the error, and what there is behind it. -/
def putR (bud : Nat) (L : List Step) (s : Step) : Nat × Nat × List Step :=
  match findS L s with
  | some i => (i, 0, L)
  | none => if bud ≤ L.length then (0, 171, L) else (L.length, 0, L ++ [s])

theorem right_more {s : Step} {i : Int} {p q : Nat} (h : rightP s i p = true) (hpq : p ≤ q) : rightP s i q = true := by
  unfold rightP at *
  split at h
  · rename_i h1; rw [if_pos h1]; exact h
  · rename_i h1
    rw [if_neg h1]
    split at h
    · rename_i h2
      rw [if_pos h2]
      simp only [Bool.and_eq_true, ahead, decide_eq_true_eq] at h ⊢
      obtain ⟨x1, ⟨x2, x3⟩, x4⟩ := h
      exact ⟨x1, ⟨x2, by omega⟩, x4⟩
    · rename_i h2; rw [if_neg h2]; exact h
theorem Good.more {bud p q : Nat} {L : List Step} (h : Good bud p L) (hpq : p ≤ q) (hq : q ≤ 200) : Good bud q L :=
  ⟨h.wf, h.apart, fun i s hi => right_more (h.right i s hi) hpq, h.len, h.bud0, h.bud1, hq⟩
theorem Good.nice {bud p : Nat} {L : List Step} (h : Good bud p L) : ∀ s ∈ L, Nice s := fun s hs => by
  obtain ⟨i, hi⟩ := List.getElem?_of_mem hs
  exact nice_of_right (h.right i s hi)
theorem Good.add {bud p : Nat} {L : List Step} {s : Step} (h : Good bud p L) (hs : Wf s) (hr : rightP s L.length p = true) (hn : s ∉ L) (hl : L.length < bud) : Good bud p (L ++ [s]) := by
  have hns := nice_of_right hr
  refine ⟨fun t ht => ?_, fun i j t u hi hj e => ?_, fun i t hi => ?_, by simp; omega, h.bud0, h.bud1, h.pars⟩
  · rcases List.mem_append.1 ht with h1 | h1
    · exact h.wf t h1
    · simp at h1; rw [h1]; exact hs
  · have hall : ∀ t ∈ L ++ [s], Nice t := fun t ht => by
      rcases List.mem_append.1 ht with h1 | h1
      · exact h.nice t h1
      · simp at h1; rw [h1]; exact hns
    have := keyV_inj (hall t (List.mem_of_getElem? hi)) (hall u (List.mem_of_getElem? hj)) e
    subst this
    by_cases i1 : i < L.length
    · by_cases j1 : j < L.length
      · rw [List.getElem?_append_left i1] at hi
        rw [List.getElem?_append_left j1] at hj
        exact h.apart i j t t hi hj rfl
      · rw [List.getElem?_append_left i1] at hi
        rw [List.getElem?_append_right (by omega)] at hj
        have := (List.getElem?_eq_some_iff.1 hj).1
        simp at this
        have e1 : j - L.length = 0 := by omega
        rw [e1] at hj
        simp at hj
        exact absurd (hj ▸ List.mem_of_getElem? hi) hn
    · by_cases j1 : j < L.length
      · rw [List.getElem?_append_left j1] at hj
        rw [List.getElem?_append_right (by omega)] at hi
        have := (List.getElem?_eq_some_iff.1 hi).1
        simp at this
        have e1 : i - L.length = 0 := by omega
        rw [e1] at hi
        simp at hi
        exact absurd (hi ▸ List.mem_of_getElem? hj) hn
      · have a1 := (List.getElem?_eq_some_iff.1 hi).1
        have a2 := (List.getElem?_eq_some_iff.1 hj).1
        simp at a1 a2
        omega
  · by_cases i1 : i < L.length
    · rw [List.getElem?_append_left i1] at hi
      exact h.right i t hi
    · have a1 := (List.getElem?_eq_some_iff.1 hi).1
      simp at a1
      have e1 : i = L.length := by omega
      subst e1
      rw [List.getElem?_append_right (Nat.le_refl _)] at hi
      simp at hi
      rw [← hi]
      exact hr

theorem put_any (B pb mb bud pars gp : Nat) (row : Value) (L : List Step) (s : Step) (v : Value) (w : World) (hM : Mk w B pb mb row bud pars gp L) (hs : IsStep w v s) (hwf : Wf s) (hr : rightP s L.length gp = true) :
    Calls Tryz.prog 30 #[.pointer (some ⟨pb, 0, none⟩), v] w fun e w' => ∃ row', e = .returned (.tuple #[.int .i64 (putR bud L s).1, .int .i64 (putR bud L s).2.1]) ∧ Mk w' B pb mb row' bud pars gp (putR bud L s).2.2 ∧ Mv pb mb row row' w w' := by
  have hn := nice_of_right hr
  unfold putR
  cases hf : findS L s with
  | some i =>
    refine (put_old B pb mb bud pars gp row L s v i w hM hs (findS_some hf) hn).mono ?_
    rintro e w' ⟨_, rfl, hE, rfl⟩
    exact ⟨row, rfl, hM.kept hE, Mv.of_ext hE⟩
  | none =>
    have hno := findS_none hf
    have hnew : ∀ t ∈ L, keyV t ≠ keyV s := fun t ht e => hno (by rw [← keyV_inj (hM.good.nice t ht) hn e]; exact ht)
    by_cases hb : bud ≤ L.length
    · simp only [if_pos hb]
      refine (put_full B pb mb bud pars gp row L s v w hM hs hwf hnew hn hb).mono ?_
      rintro e w' ⟨_, rfl, hE, rfl⟩
      exact ⟨row, rfl, hM.kept hE, Mv.of_ext hE⟩
    · simp only [if_neg hb]
      refine (put_new B pb mb bud pars gp row L s v w hM hs hwf hnew hn (by omega) (hM.good.add hwf hr hno (by omega))).mono ?_
      rintro e w' ⟨row', rfl, hM', hv⟩
      exact ⟨row', rfl, hM', hv⟩
end Go.Proofs.YtbncdghbnnefdaaGreat

namespace Go.Proofs.YtbncdghbnnefdaaGreat
open Go.RowKit

theorem map_is (mb : Nat) (w : World) : (binOp .neq 70 (.map (some mb)) (.map none)).run Tryz.prog w = .ok (.bool true) w :=
  run_neq_map_nil (P := Tryz.prog) w 70 98 3 (some mb) Tryz.underlying70
theorem map_no (w : World) : (binOp .neq 70 (.map none) (.map none)).run Tryz.prog w = .ok (.bool false) w :=
  run_neq_map_nil (P := Tryz.prog) w 70 98 3 none Tryz.underlying70
theorem there_yes {w : World} {B pb mb bud pars gp : Nat} {row : Value} {L : List Step} (h : Mk w B pb mb row bud pars gp L) :
    Calls Tryz.prog 28 #[.pointer (some ⟨pb, 0, none⟩)] w fun e w' => e = .returned (.bool true) ∧ w = w' := by
  have k3 := h.c3
  have hn := map_is mb
  clear h
  go_enter Tryz.func28, Tryz.ntmps28
  go_wp2
  go_ret
  exact ⟨rfl, rfl⟩
theorem there_nil (w : World) :
    Calls Tryz.prog 28 #[.pointer none] w fun e w' => e = .returned (.bool false) ∧ w = w' := by
  go_enter Tryz.func28, Tryz.ntmps28
  go_wp2
  go_ret
  exact ⟨rfl, rfl⟩
theorem there_zero (b : Nat) (w : World) (h : w.cell? ⟨b, 3, none⟩ = some (.map none)) :
    Calls Tryz.prog 28 #[.pointer (some ⟨b, 0, none⟩)] w fun e w' => e = .returned (.bool false) ∧ w = w' := by
  have hn := map_no
  go_enter Tryz.func28, Tryz.ntmps28
  go_wp2
  go_ret
  exact ⟨rfl, rfl⟩
theorem len_yes {w : World} {B pb mb bud pars gp : Nat} {row : Value} {L : List Step} (h : Mk w B pb mb row bud pars gp L) :
    Calls Tryz.prog 20 #[.pointer (some ⟨pb, 0, none⟩)] w fun e w' => e = .returned (.int .i64 L.length) ∧ w = w' := by
  have k2 := h.c2
  obtain ⟨ra, rc, rfl⟩ := h.row_form
  have H := Lib.hid (there_yes h)
  clear h
  go_enter Tryz.func20, Tryz.ntmps20
  go_wp2_with fail
  refine H.out.mono ?_
  rintro e w' ⟨rfl, rfl⟩
  go_wp2
  go_ret
  exact ⟨rfl, rfl⟩
/-- A maker that is none: nil, or the zero one. -/
def NoMk (w : World) (p : Option Addr) : Prop := p = none ∨ ∃ b, p = some ⟨b, 0, none⟩ ∧ w.cell? ⟨b, 3, none⟩ = some (.map none)
theorem NoMk.ext {w w' : World} {p : Option Addr} (h : NoMk w p) (e : Ext w w') : NoMk w' p := by
  rcases h with h | ⟨b, h, k⟩
  · exact .inl h
  · exact .inr ⟨b, h, e.cell k⟩
theorem there_no {w : World} {p : Option Addr} (h : NoMk w p) :
    Calls Tryz.prog 28 #[.pointer p] w fun e w' => e = .returned (.bool false) ∧ w = w' := by
  rcases h with rfl | ⟨b, rfl, k⟩
  · exact there_nil w
  · exact there_zero b w k
theorem len_no {w : World} {p : Option Addr} (h : NoMk w p) :
    Calls Tryz.prog 20 #[.pointer p] w fun e w' => e = .returned (.int .i64 0) ∧ w = w' := by
  have H := Lib.hid (there_no h)
  clear h
  go_enter Tryz.func20, Tryz.ntmps20
  go_wp2_with fail
  refine H.out.mono ?_
  rintro e w' ⟨rfl, rfl⟩
  go_wp2
  go_ret
  exact ⟨rfl, rfl⟩
theorem num_no {w : World} {p : Option Addr} (h : NoMk w p) (g : Bool) (a1 a2 : Option Addr) (n1 c1 n2 c2 : Nat) :
    Calls Tryz.prog 9 #[.pointer p, .agg #[.bool g, .slice a1 n1 c1, .slice a2 n2 c2]] w (Post w fun v _ => v = .tuple #[.int .i64 0, .int .i64 1]) := by
  have H := Lib.hid (fun W (e : Ext w W) => there_no (h.ext e))
  clear h
  go_enter Tryz.func9, Tryz.ntmps9
  go_wp2_with fail
  refine (H.out _ (by repeat (first | with_reducible exact Ext.refl _ | with_reducible assumption | (with_reducible refine Ext.alloc ?_ _) | (with_reducible refine Ext.drew ?_) | (with_reducible refine Ext.drewN ?_ _) | (with_reducible refine Ext.set ?_ (by first | (simp; done) | (simp; omega)) _) | (with_reducible refine Ext.trans ?_ (by with_reducible assumption))))).mono ?_
  rintro e w' ⟨rfl, rfl⟩
  go_wp2
  go_ret2
  exact Post.mk (by repeat (first | with_reducible exact Ext.refl _ | with_reducible assumption | (with_reducible refine Ext.alloc ?_ _) | (with_reducible refine Ext.drew ?_) | (with_reducible refine Ext.drewN ?_ _) | (with_reducible refine Ext.set ?_ (by first | (simp; done) | (simp; omega)) _) | (with_reducible refine Ext.trans ?_ (by with_reducible assumption)))) rfl
theorem par_no {w : World} {p : Option Addr} (h : NoMk w p) :
    Calls Tryz.prog 11 #[.pointer p] w (Post w fun v _ => v = .tuple #[.int .i64 0, .int .i64 1]) := by
  have H := Lib.hid (there_no h)
  clear h
  go_enter Tryz.func11, Tryz.ntmps11
  go_wp2_with fail
  refine H.out.mono ?_
  rintro e w' ⟨rfl, rfl⟩
  go_wp2
  go_ret2
  exact Post.mk (by repeat (first | with_reducible exact Ext.refl _ | with_reducible assumption | (with_reducible refine Ext.alloc ?_ _) | (with_reducible refine Ext.drew ?_) | (with_reducible refine Ext.drewN ?_ _) | (with_reducible refine Ext.set ?_ (by first | (simp; done) | (simp; omega)) _) | (with_reducible refine Ext.trans ?_ (by with_reducible assumption)))) rfl
theorem step_no {w : World} {p : Option Addr} (h : NoMk w p) (op : Nat) (a b : Int) (k : Nat) :
    Calls Tryz.prog 34 #[.pointer p, .agg #[.int .u8 op, .int .i64 a, .int .i64 b, .bool false, .slice none 0 0, .slice none 0 0], .int .i64 k] w (Post w fun v _ => v = .tuple #[.int .i64 0, .int .i64 1]) := by
  have H := Lib.hid (fun W (e : Ext w W) => there_no (h.ext e))
  clear h
  go_enter Tryz.func34, Tryz.ntmps34
  go_wp2_with fail
  refine (H.out _ (by repeat (first | with_reducible exact Ext.refl _ | with_reducible assumption | (with_reducible refine Ext.alloc ?_ _) | (with_reducible refine Ext.drew ?_) | (with_reducible refine Ext.drewN ?_ _) | (with_reducible refine Ext.set ?_ (by first | (simp; done) | (simp; omega)) _) | (with_reducible refine Ext.trans ?_ (by with_reducible assumption))))).mono ?_
  rintro e w' ⟨rfl, rfl⟩
  go_wp2
  go_ret2
  exact Post.mk (by repeat (first | with_reducible exact Ext.refl _ | with_reducible assumption | (with_reducible refine Ext.alloc ?_ _) | (with_reducible refine Ext.drew ?_) | (with_reducible refine Ext.drewN ?_ _) | (with_reducible refine Ext.set ?_ (by first | (simp; done) | (simp; omega)) _) | (with_reducible refine Ext.trans ?_ (by with_reducible assumption)))) rfl
theorem one_no {w : World} {p : Option Addr} (h : NoMk w p) (op : Nat) (a : Int) :
    Calls Tryz.prog 13 #[.pointer p, .int .u8 op, .int .i64 a] w (Post w fun v _ => v = .tuple #[.int .i64 0, .int .i64 1]) := by
  have H := Lib.hid (step_no h op a 0 4)
  clear h
  go_enter Tryz.func13, Tryz.ntmps13
  go_wp2_with fail
  refine H.out.mono ?_
  rintro e w' ⟨_, rfl, E1, rfl⟩
  go_wp2
  go_ret2
  exact Post.mk (by repeat (first | with_reducible exact Ext.refl _ | with_reducible assumption | (with_reducible refine Ext.alloc ?_ _) | (with_reducible refine Ext.drew ?_) | (with_reducible refine Ext.drewN ?_ _) | (with_reducible refine Ext.set ?_ (by first | (simp; done) | (simp; omega)) _) | (with_reducible refine Ext.trans ?_ (by with_reducible assumption)))) rfl
theorem two_no {w : World} {p : Option Addr} (h : NoMk w p) (op : Nat) (a b : Int) :
    Calls Tryz.prog 15 #[.pointer p, .int .u8 op, .int .i64 a, .int .i64 b] w (Post w fun v _ => v = .tuple #[.int .i64 0, .int .i64 1]) := by
  have H := Lib.hid (step_no h op a b 3)
  clear h
  go_enter Tryz.func15, Tryz.ntmps15
  go_wp2_with fail
  refine H.out.mono ?_
  rintro e w' ⟨_, rfl, E1, rfl⟩
  go_wp2
  go_ret2
  exact Post.mk (by repeat (first | with_reducible exact Ext.refl _ | with_reducible assumption | (with_reducible refine Ext.alloc ?_ _) | (with_reducible refine Ext.drew ?_) | (with_reducible refine Ext.drewN ?_ _) | (with_reducible refine Ext.set ?_ (by first | (simp; done) | (simp; omega)) _) | (with_reducible refine Ext.trans ?_ (by with_reducible assumption)))) rfl
theorem new_no (b : Int) (w : World) (h : b < 1 ∨ 20000 < b) : Calls Tryz.prog 5 #[.int .i64 b] w (Post w fun v _ => v = .tuple #[.pointer none, .int .i64 2]) := by
  rcases h with h | h
  · go_enter Tryz.func5, Tryz.ntmps5
    go_wp2
    go_ret2
    exact Post.mk (by repeat (first | with_reducible exact Ext.refl _ | with_reducible assumption | (with_reducible refine Ext.alloc ?_ _) | (with_reducible refine Ext.drew ?_) | (with_reducible refine Ext.drewN ?_ _) | (with_reducible refine Ext.set ?_ (by first | (simp; done) | (simp; omega)) _) | (with_reducible refine Ext.trans ?_ (by with_reducible assumption)))) rfl
  · have h' : ¬ b < 1 := by omega
    go_enter Tryz.func5, Tryz.ntmps5
    go_wp2
    go_ret2
    exact Post.mk (by repeat (first | with_reducible exact Ext.refl _ | with_reducible assumption | (with_reducible refine Ext.alloc ?_ _) | (with_reducible refine Ext.drew ?_) | (with_reducible refine Ext.drewN ?_ _) | (with_reducible refine Ext.set ?_ (by first | (simp; done) | (simp; omega)) _) | (with_reducible refine Ext.trans ?_ (by with_reducible assumption)))) rfl
theorem new_yes (b : Nat) (w : World) (h1 : 1 ≤ b) (h2 : b ≤ 20000) : Calls Tryz.prog 5 #[.int .i64 b] w
    fun e w' => ∃ pb mb, e = .returned (.tuple #[.pointer (some ⟨pb, 0, none⟩), .int .i64 0]) ∧ Ext w w' ∧ w.heap.size ≤ pb ∧ w.heap.size ≤ mb ∧ Mk w' w.heap.size pb mb (.slice none 0 0) b 0 0 [] := by
  have hmm := @run_makeMap Tryz.prog
  have h1' : ¬ ((b : Nat) : Int) < 1 := by omega
  have h2' : ¬ (20000 : Int) < ((b : Nat) : Int) := by omega
  go_enter Tryz.func5, Tryz.ntmps5
  go_wp2
  go_ret2
  refine ⟨w.heap.size + 1, rfl, (by repeat (first | with_reducible exact Ext.refl _ | with_reducible assumption | (with_reducible refine Ext.alloc ?_ _) | (with_reducible refine Ext.drew ?_) | (with_reducible refine Ext.drewN ?_ _) | (with_reducible refine Ext.set ?_ (by first | (simp; done) | (simp; omega)) _) | (with_reducible refine Ext.trans ?_ (by with_reducible assumption)))), by omega, w.heap.size, Nat.le_refl _, ⟨by omega, Nat.le_refl _, ?_, ?_, ⟨[], OwnsU.nil _ _ _ _, fun i s h => by simp at h⟩, ⟨fun s h => (by cases h), fun i j s t h => by simp at h, fun i s h => by simp at h, by simp, h1, h2, by omega⟩⟩⟩
  · have := heap_alloc_new (w.alloc (.map #[] 0)) (.cells #[.int .i64 b, .int .i64 0, .slice none 0 0, .map (some w.heap.size)] 72)
    simpa using this
  · exact (Ext.of_alloc (w.alloc (.map #[] 0)) _).block (heap_alloc_new w _)

theorem Num.few {w : World} {a : Option Addr} {n c m : Nat} (h : Num w (.slice a n c) m) : n ≤ 2048 := by
  rw [← h.nums.len]
  exact (fits_iff m).2 h.lt
/-- What a call of the maker tells, and the maker behind it. -/
def MkRes (B pb mb bud : Nat) (row : Value) (w : World) (i er pars' : Nat) (L' : List Step) (e : Ending) (w' : World) : Prop :=
  ∃ row', e = .returned (.tuple #[.int .i64 i, .int .i64 er]) ∧ Mk w' B pb mb row' bud pars' pars' L' ∧ Mv pb mb row row' w w'

/-- The step of a number. -/
def numStep (g : Bool) (n d : Nat) : Step := ⟨1, 0, 0, sg g (n / Nat.gcd n d), limbs (n / Nat.gcd n d), limbs (d / Nat.gcd n d)⟩
theorem numStep_norm (g : Bool) {n d : Nat} (hd : d ≠ 0) : normC (numStep g n d) = true := by
  have hg : 0 < Nat.gcd n d := Nat.gcd_pos_of_pos_right _ (Nat.pos_of_ne_zero hd)
  have hc : Nat.gcd (n / Nat.gcd n d) (d / Nat.gcd n d) = 1 := Nat.coprime_div_gcd_div_gcd hg
  have hD : d / Nat.gcd n d ≠ 0 := by
    intro e
    have := Nat.div_mul_cancel (Nat.gcd_dvd_right n d)
    rw [e] at this
    omega
  unfold normC numStep sameL
  simp only [val_limbs, hc, Nat.div_one]
  rw [decide_eq_true hD, sg_sg]
  simp
theorem wf_zero : (Lit.int .i64 (0 : Int)).wf = true := by rfl
theorem numStep_right (g : Bool) {n d : Nat} (hd : d ≠ 0) (lim pars : Int) : rightP (numStep g n d) lim pars = true := by
  unfold rightP
  rw [if_pos (by rfl), numStep_norm g hd]
  rfl
theorem size_le {l : List Nat} {k : Nat} (h : l.length ≤ k) (hk : k ≤ 1000000) : (txt l).size ≤ maxLen := by
  rw [txt_size]
  unfold maxLen
  omega
theorem keyT_len (g : Bool) {n d : Nat} (hn : n < Top) (hd : d < Top) : (keyT (numStep g n d)).length ≤ 300000 := by
  unfold keyT numStep
  simp only [if_true, val_limbs]
  have hN : n / Nat.gcd n d < Top := Nat.lt_of_le_of_lt (Nat.div_le_self _ _) hn
  have hD : d / Nat.gcd n d < Top := Nat.lt_of_le_of_lt (Nat.div_le_self _ _) hd
  have z1 := zT_len (g := sg g (n / Nat.gcd n d)) hN
  have z2 := decT_few hD
  split
  · omega
  · simp only [List.length_append, List.length_cons]; omega
theorem numStep_wf (g : Bool) {n d : Nat} (hn : n < Top) (hd : d < Top) : Wf (numStep g n d) :=
  ⟨by show (1 : Nat) < 256; omega, wf_zero, wf_zero, size_le (keyT_len g hn hd) (by omega)⟩
theorem step_text {op : Nat} {a b : Int} (h : op ≠ 1) : (txt (keyT ⟨op, a, b, false, [], []⟩)).size ≤ maxLen := by
  unfold keyT
  rw [if_neg h]
  exact size_le (l := []) (k := 0) (Nat.le_refl _) (by omega)

set_option maxRecDepth 100000 in
set_option maxHeartbeats 2000000 in
theorem num_yes (B pb mb bud pars : Nat) (row : Value) (L : List Step) (g : Bool) (a1 a2 : Option Addr) (n1 c1 n2 c2 n d : Nat) (w : World) (hM : Mk w B pb mb row bud pars pars L)
    (h1 : IsN w (.slice a1 n1 c1) n) (h2 : IsN w (.slice a2 n2 c2) d) (ht1 : n < Top) (ht2 : d < Top) (hd : d ≠ 0) :
    Calls Tryz.prog 9 #[.pointer (some ⟨pb, 0, none⟩), .agg #[.bool g, .slice a1 n1 c1, .slice a2 n2 c2]] w
      (MkRes B pb mb bud row w (putR bud L (numStep g n d)).1 (putR bud L (numStep g n d)).2.1 pars (putR bud L (numStep g n d)).2.2) := by
  have hN : n / Nat.gcd n d < Top := Nat.lt_of_le_of_lt (Nat.div_le_self _ _) ht1
  have hD : d / Nat.gcd n d < Top := Nat.lt_of_le_of_lt (Nat.div_le_self _ _) ht2
  have H := Lib.hid (fun W (e : Ext w W) => there_yes (hM.kept e))
  have HF := Lib.hid (fun W (e : Ext w W) => fnorm_ok g a1 a2 n1 c1 n2 c2 n d W (h1.ext e) (h2.ext e) ht1 ht2 hd)
  have HP := Lib.hid (fun W row (hM : Mk W B pb mb row bud pars pars L) v hs => put_any B pb mb bud pars pars row L (numStep g n d) v W hM hs (numStep_wf g ht1 ht2) (numStep_right g hd _ _))
  obtain ⟨p, hp⟩ : ∃ p, p = putR bud L (numStep g n d) := ⟨_, rfl⟩
  rw [← hp] at HP ⊢
  obtain ⟨i, er, L'⟩ := p
  simp only at HP ⊢
  clear hp h1 h2 ht1 ht2 hd
  go_enter Tryz.func9, Tryz.ntmps9
  go_wp2_with fail
  refine (H.out _ (by repeat (first | with_reducible exact Ext.refl _ | with_reducible assumption | (with_reducible refine Ext.alloc ?_ _) | (with_reducible refine Ext.drew ?_) | (with_reducible refine Ext.drewN ?_ _) | (with_reducible refine Ext.set ?_ (by first | (simp; done) | (simp; omega)) _) | (with_reducible refine Ext.trans ?_ (by with_reducible assumption))))).mono ?_
  rintro e w' ⟨rfl, rfl⟩
  go_wp2_with fail
  refine (HF.out _ (by repeat (first | with_reducible exact Ext.refl _ | with_reducible assumption | (with_reducible refine Ext.alloc ?_ _) | (with_reducible refine Ext.drew ?_) | (with_reducible refine Ext.drewN ?_ _) | (with_reducible refine Ext.set ?_ (by first | (simp; done) | (simp; omega)) _) | (with_reducible refine Ext.trans ?_ (by with_reducible assumption))))).mono ?_
  rintro e w1 ⟨_, rfl, E1, _, rfl, a5, n5, c5, a6, n6, c6, rfl, hu, hv⟩
  obtain ⟨hc, hf⟩ := E1.look
  have hz := E1.size
  simp at hz
  obtain ⟨b, hb⟩ : ∃ b, b = sg g (n / Nat.gcd n d) := ⟨_, rfl⟩
  rw [← hb]
  have Hb := Lib.hid hb
  clear hb
  go_wp2_with fail
  refine (HP.out _ row (hM.kept (by repeat (first | with_reducible exact Ext.refl _ | with_reducible assumption | (with_reducible refine Ext.alloc ?_ _) | (with_reducible refine Ext.drew ?_) | (with_reducible refine Ext.drewN ?_ _) | (with_reducible refine Ext.set ?_ (by first | (simp; done) | (simp; omega)) _) | (with_reducible refine Ext.trans ?_ (by with_reducible assumption))))) _ ⟨a5, n5, c5, a6, n6, c6, by rw [Hb.out]; rfl, hu.nums.keep (by repeat (first | with_reducible exact Keeps.refl _ | with_reducible assumption | (with_reducible refine Keeps.alloc ?_ _) | (with_reducible refine Keeps.drew ?_) | (with_reducible refine Keeps.drewN ?_ _) | (with_reducible refine Keeps.set ?_ (by simp [go_sem, isU, *]) _) | (with_reducible refine Keeps.trans ?_ (Ext.keeps (by with_reducible assumption))) | (with_reducible refine Keeps.trans ?_ (by with_reducible assumption)))), hv.nums.keep (by repeat (first | with_reducible exact Keeps.refl _ | with_reducible assumption | (with_reducible refine Keeps.alloc ?_ _) | (with_reducible refine Keeps.drew ?_) | (with_reducible refine Keeps.drewN ?_ _) | (with_reducible refine Keeps.set ?_ (by simp [go_sem, isU, *]) _) | (with_reducible refine Keeps.trans ?_ (Ext.keeps (by with_reducible assumption))) | (with_reducible refine Keeps.trans ?_ (by with_reducible assumption)))), by show (1 : Nat) < 256; omega, hu.few, hv.few⟩).mono ?_
  rintro e w2 ⟨row', rfl, hM', hv'⟩
  go_wp2
  go_ret2
  exact ⟨row', rfl, hM', (Mv.of_ext (by repeat (first | with_reducible exact Ext.refl _ | with_reducible assumption | (with_reducible refine Ext.alloc ?_ _) | (with_reducible refine Ext.drew ?_) | (with_reducible refine Ext.drewN ?_ _) | (with_reducible refine Ext.set ?_ (by first | (simp; done) | (simp; omega)) _) | (with_reducible refine Ext.trans ?_ (by with_reducible assumption))))).trans hv'⟩
theorem num_zero (B pb mb bud pars : Nat) (row : Value) (L : List Step) (g : Bool) (a1 a2 : Option Addr) (n1 c1 n2 c2 n : Nat) (w : World) (hM : Mk w B pb mb row bud pars pars L)
    (h1 : IsN w (.slice a1 n1 c1) n) (h2 : IsN w (.slice a2 n2 c2) 0) (ht1 : n < Top) :
    Calls Tryz.prog 9 #[.pointer (some ⟨pb, 0, none⟩), .agg #[.bool g, .slice a1 n1 c1, .slice a2 n2 c2]] w (Post w fun v _ => v = .tuple #[.int .i64 0, .int .i64 2]) := by
  have H := Lib.hid (fun W (e : Ext w W) => there_yes (hM.kept e))
  have HF := Lib.hid (fun W (e : Ext w W) => fnorm_zero g a1 a2 n1 c1 n2 c2 n W (h1.ext e) (h2.ext e) ht1)
  clear h1 h2 hM
  go_enter Tryz.func9, Tryz.ntmps9
  go_wp2_with fail
  refine (H.out _ (by repeat (first | with_reducible exact Ext.refl _ | with_reducible assumption | (with_reducible refine Ext.alloc ?_ _) | (with_reducible refine Ext.drew ?_) | (with_reducible refine Ext.drewN ?_ _) | (with_reducible refine Ext.set ?_ (by first | (simp; done) | (simp; omega)) _) | (with_reducible refine Ext.trans ?_ (by with_reducible assumption))))).mono ?_
  rintro e w' ⟨rfl, rfl⟩
  go_wp2_with fail
  refine (HF.out _ (by repeat (first | with_reducible exact Ext.refl _ | with_reducible assumption | (with_reducible refine Ext.alloc ?_ _) | (with_reducible refine Ext.drew ?_) | (with_reducible refine Ext.drewN ?_ _) | (with_reducible refine Ext.set ?_ (by first | (simp; done) | (simp; omega)) _) | (with_reducible refine Ext.trans ?_ (by with_reducible assumption))))).mono ?_
  rintro e w1 ⟨_, rfl, E1, rfl⟩
  obtain ⟨hc, hf⟩ := E1.look
  have hz := E1.size
  simp at hz
  go_wp2
  go_ret2
  exact Post.mk (by repeat (first | with_reducible exact Ext.refl _ | with_reducible assumption | (with_reducible refine Ext.alloc ?_ _) | (with_reducible refine Ext.drew ?_) | (with_reducible refine Ext.drewN ?_ _) | (with_reducible refine Ext.set ?_ (by first | (simp; done) | (simp; omega)) _) | (with_reducible refine Ext.trans ?_ (by with_reducible assumption)))) rfl

/-- The step of a parameter. -/
def parStep (p : Nat) : Step := ⟨2, p, 0, false, [], []⟩
theorem parStep_right (p q : Nat) (lim : Int) (h : p < q) : rightP (parStep p) lim q = true := by
  unfold rightP parStep
  rw [if_neg (show ¬ fieldsN 2 = 1 by decide), if_pos (show fieldsN 2 = 2 by decide)]
  simp [noneC, ahead]
  omega
theorem parStep_wf {p : Nat} (h : p ≤ 200) : Wf (parStep p) :=
  ⟨by show (2 : Nat) < 256; omega, WalkArith.wf_i64 (by show _ ≤ (p : Int) ∧ (p : Int) ≤ _; omega), wf_zero, step_text (by omega)⟩
theorem nilN (w : World) : Nums w none 0 0 [] := Nums.nil _ _ _

/-- Par's answer. -/
def parR (bud pars : Nat) (L : List Step) : Nat × Nat × Nat × List Step :=
  if 200 ≤ pars then (0, 171, pars, L) else
    let r := putR bud L (parStep pars)
    (r.1, r.2.1, if r.2.1 = 0 then pars + 1 else pars, r.2.2)
end Go.Proofs.YtbncdghbnnefdaaGreat

namespace Go.Proofs.YtbncdghbnnefdaaGreat
open Go.RowKit

theorem Mk.more {w : World} {B pb mb bud pars p q : Nat} {row : Value} {L : List Step} (h : Mk w B pb mb row bud pars p L) (hpq : p ≤ q) (hq : q ≤ 200) : Mk w B pb mb row bud pars q L :=
  ⟨h.b1, h.b2, h.blk, h.map, h.steps, h.good.more hpq hq⟩
/-- The maker counts a parameter. -/
theorem Mk.count {w : World} {B pb mb bud p q gp : Nat} {row : Value} {L : List Step} (h : Mk w B pb mb row bud p gp L) :
    Mk (w.setCell ⟨pb, 1, none⟩ (.int .i64 q)) B pb mb row bud q gp L ∧ Mv pb mb row row w (w.setCell ⟨pb, 1, none⟩ (.int .i64 q)) := by
  obtain ⟨cells, ho, hs⟩ := h.steps
  have hk : Keeps w (w.setCell ⟨pb, 1, none⟩ (.int .i64 q)) := (Keeps.refl w).set ⟨_, h.c1, rfl⟩ _
  have hb : ∀ k, k ≠ pb → (w.setCell ⟨pb, 1, none⟩ (.int .i64 q)).heap[k]? = w.heap[k]? := fun k hk => by
    simp only [World.setCell, Array.getElem?_modify]
    rw [if_neg (fun e => hk e.symm)]
  refine ⟨⟨h.b1, h.b2, ?_, ?_, ⟨cells, ho.kept fun k hk => hb k (fun e => h.rp.1 (by rw [hk, e])), fun i s hi => (hs i s hi).keep hk⟩, h.good⟩, ⟨rfl, rfl, rfl, by simp [World.setCell], fun k _ h1 _ _ => hb k h1, .inl rfl, hk⟩⟩
  · simp only [World.setCell, Array.getElem?_modify, if_true, h.blk]
    rfl
  · rw [hb mb (Ne.symm h.pm)]
    exact h.map

set_option maxRecDepth 100000 in
set_option maxHeartbeats 2000000 in
theorem par_yes (B pb mb bud pars : Nat) (row : Value) (L : List Step) (w : World) (hM : Mk w B pb mb row bud pars pars L) (hp : pars < 200) :
    Calls Tryz.prog 11 #[.pointer (some ⟨pb, 0, none⟩)] w
      (MkRes B pb mb bud row w (putR bud L (parStep pars)).1 (putR bud L (parStep pars)).2.1 (if (putR bud L (parStep pars)).2.1 = 0 then pars + 1 else pars) (putR bud L (parStep pars)).2.2) := by
  have H := Lib.hid (there_yes hM)
  have k1 := hM.c1
  have HP := Lib.hid (fun v hs => put_any B pb mb bud pars (pars + 1) row L (parStep pars) v w (hM.more (Nat.le_succ _) (by omega)) hs (parStep_wf (by omega)) (parStep_right pars (pars + 1) _ (by omega)))
  have hL : (putR bud L (parStep pars)).2.1 ≠ 0 → (putR bud L (parStep pars)).2.2 = L := by
    unfold putR
    cases findS L (parStep pars) with
    | some i => intro h; exact absurd rfl h
    | none =>
      simp only
      split
      · intro _; rfl
      · intro h; exact absurd rfl h
  obtain ⟨p, hp'⟩ : ∃ p, p = putR bud L (parStep pars) := ⟨_, rfl⟩
  rw [← hp'] at HP hL ⊢
  obtain ⟨i, er, L'⟩ := p
  simp only at HP hL ⊢
  clear hp'
  have HL := Lib.hid hL
  clear hL
  have h200 : ¬ (200 : Int) ≤ ((pars : Nat) : Int) := by omega
  by_cases he : er = 0
  · subst he
    rw [if_pos rfl]
    go_enter Tryz.func11, Tryz.ntmps11
    go_wp2_with fail
    refine H.out.mono ?_
    rintro e w' ⟨rfl, rfl⟩
    go_wp2_with fail
    refine (HP.out _ ⟨none, 0, 0, none, 0, 0, rfl, nilN _, nilN _, by show (2 : Nat) < 256; omega, by omega, by omega⟩).mono ?_
    rintro e w2 ⟨row', rfl, hM', hv'⟩
    have k1' := hM'.c1
    have hfr := hM'.fr 1
    go_wp2
    go_ret2
    obtain ⟨m1, m2⟩ := hM'.count (q := pars + 1)
    exact ⟨row', rfl, m1, hv'.trans m2⟩
  · rw [if_neg he]
    have he' : (((er : Nat) : Int) == 0) = false := by simp; omega
    have He := Lib.hid he
    clear he
    go_enter Tryz.func11, Tryz.ntmps11
    go_wp2_with fail
    refine H.out.mono ?_
    rintro e w' ⟨rfl, rfl⟩
    go_wp2_with fail
    refine (HP.out _ ⟨none, 0, 0, none, 0, 0, rfl, nilN _, nilN _, by show (2 : Nat) < 256; omega, by omega, by omega⟩).mono ?_
    rintro e w2 ⟨row', rfl, hM', hv'⟩
    go_wp2
    go_ret2
    obtain rfl := HL.out He.out
    exact ⟨row', rfl, ⟨hM'.b1, hM'.b2, hM'.blk, hM'.map, hM'.steps, hM.good⟩, hv'⟩
theorem par_full (B pb mb bud pars : Nat) (row : Value) (L : List Step) (w : World) (hM : Mk w B pb mb row bud pars pars L) (hp : 200 ≤ pars) :
    Calls Tryz.prog 11 #[.pointer (some ⟨pb, 0, none⟩)] w (Post w fun v _ => v = .tuple #[.int .i64 0, .int .i64 171]) := by
  have H := Lib.hid (there_yes hM)
  have k1 := hM.c1
  have h200 : (200 : Int) ≤ ((pars : Nat) : Int) := by omega
  clear hM
  go_enter Tryz.func11, Tryz.ntmps11
  go_wp2_with fail
  refine H.out.mono ?_
  rintro e w' ⟨rfl, rfl⟩
  go_wp2
  go_ret2
  exact Post.mk (by repeat (first | with_reducible exact Ext.refl _ | with_reducible assumption | (with_reducible refine Ext.alloc ?_ _) | (with_reducible refine Ext.drew ?_) | (with_reducible refine Ext.drewN ?_ _) | (with_reducible refine Ext.set ?_ (by first | (simp; done) | (simp; omega)) _) | (with_reducible refine Ext.trans ?_ (by with_reducible assumption)))) rfl
theorem par_any (B pb mb bud pars : Nat) (row : Value) (L : List Step) (w : World) (hM : Mk w B pb mb row bud pars pars L) :
    Calls Tryz.prog 11 #[.pointer (some ⟨pb, 0, none⟩)] w
      (MkRes B pb mb bud row w (parR bud pars L).1 (parR bud pars L).2.1 (parR bud pars L).2.2.1 (parR bud pars L).2.2.2) := by
  by_cases hp : 200 ≤ pars
  · unfold parR
    simp only [if_pos hp]
    refine (par_full B pb mb bud pars row L w hM hp).mono ?_
    rintro e w' ⟨_, rfl, hE, rfl⟩
    exact ⟨row, rfl, hM.kept hE, Mv.of_ext hE⟩
  · unfold parR
    simp only [if_neg hp]
    exact par_yes B pb mb bud pars row L w hM (by omega)
end Go.Proofs.YtbncdghbnnefdaaGreat
