/- Parts of the proof: contracts of the functions that the law reaches, and the arithmetic that they rest on; no condition beyond those that each theorem states. -/
import Derived.Laws.Externs
import Derived.Maps.AppendAt
import Derived.Lib.AppendZeros
import Derived.Deep.RegionWith
import Derived.Test.YtgihjgkpmochcaaChecked
import Derived.Test.YtgihjgkpmochcaaShelf
import Derived.Test.YtgihjgkpmochcaaM1

namespace Go.Proofs.Ytgihjgkpmochcaa
open Go.RowKit

theorem info_u64 : (Try.prog.info? 34).map (fun i => (i.zero, i.size, i.bytes)) = some (some (.int .u64 0), 1, 8) := by kernel_rfl

/-- A slice whose cells, if it has any, came after the first B blocks. -/
def Fresh (B : Nat) (a : Option Addr) : Prop := ∀ p, a = some p → B ≤ p.block
theorem Nums.of_own' {w : World} {B e : Nat} {v : Value} {xs : List Nat} (h : w.ownsRow B e 1 v xs.length (xs.map fun (x : Nat) => Value.int .u64 (x : Int))) (hf : xs.length ≤ 65536) (hx : ∀ x ∈ xs, x < B64) :
    ∃ a c, v = .slice a xs.length c ∧ Nums w a xs.length c xs ∧ Fresh B a := by
  obtain ⟨a, c, rfl, hn⟩ := Nums.of_own h hf hx
  refine ⟨a, c, rfl, hn, fun p hp => ?_⟩
  subst hp
  rcases h.2 with ⟨e, _⟩ | ⟨g, cap, cur, e, hg, _⟩
  · cases e
  · cases e; exact hg

set_option maxHeartbeats 400000 in
theorem clone_own (a : Option Addr) (n c : Nat) (xs : List Nat) (w : World) (h : Nums w a n c xs) :
    Calls Try.prog 60 #[.slice a n c] w (Post w fun v w' => ∃ a' c', v = .slice a' n c' ∧ Nums w' a' n c' xs ∧ Fresh w.heap.size a') := by
  obtain ⟨i0, hi, hz0, hz1, hz2⟩ := info_parts info_u64
  obtain rfl := h.len
  have hfew := h.few
  have e1 := fun w => Lib.run_eql_slice_nil (P := Try.prog) w 26 34 a xs.length c 0 0 Try.underlying26
  by_cases ha : a = none
  · subst ha
    have h0 : xs.length = 0 := by rcases h.at_ with h0 | ⟨b, off, ha, _⟩; exact h0; cases ha
    go_enter Try.func60, Try.ntmps60
    have H0 := Lib.hid h0
    clear h0
    go_wp2
    go_ret
    have h0 := H0.out
    refine Post.mk (Ext.refl _) ⟨none, 0, ?_, ⟨h.len, h.few, by omega, h.lt, .inl h0⟩, fun p hp => by cases hp⟩
    show Value.slice none 0 0 = _
    rw [h0]
  · have ha' : a.isNone = false := by cases a <;> simp_all
    go_enter Try.func60, Try.ntmps60
    go_wp2_with (at_builtin; refine wpList_app w (Ext.of_alloc _ _) rfl _ _ 26 rfl 34 i0 (.int .u64 0) 1 8 Try.underlying26 hi hz0 hz1 hz2 rfl (by decide) _ 0 [] rfl (World.ownsRow_made w _ _ (Nat.le_refl _) (by decide) (by simp)) a xs.length c (xs.map fun (x : Nat) => Value.int .u64 (x : Int)) rfl (by simp) (h.cells.ext (Ext.of_alloc _ _)) (oneCell_u64 _) (by omega) (by omega) ?_; intro v' w1 hown hext _)
    go_ret
    rw [Nat.zero_add, List.nil_append] at hown
    obtain ⟨a', c', rfl, hn⟩ := Nums.of_own' hown hfew h.lt
    exact Post.mk hext ⟨_, _, rfl, hn⟩

theorem clone_any (a : Option Addr) (n c : Nat) (xs : List Nat) (w : World) (h : Nums w a n c xs) :
    Calls Try.prog 60 #[.slice a n c] w (Post w fun v w' => ∃ a' c', v = .slice a' n c' ∧ Nums w' a' n c' xs) := by
  refine (clone_own a n c xs w h).mono ?_
  rintro e w' ⟨v, rfl, hext, a', c', rfl, hn, _⟩
  exact Post.mk hext ⟨a', c', rfl, hn⟩

/-- How many limbs are left without zeros on top. -/
def nz (xs : List Nat) : Nat → Nat
  | 0 => 0
  | k + 1 => if xs[k]?.getD 0 = 0 then nz xs k else k + 1
theorem nz_le (xs : List Nat) (k : Nat) : nz xs k ≤ k := by
  induction k with
  | zero => exact Nat.le_refl _
  | succ k ih => rw [nz]; split <;> omega
theorem nz_zero (xs : List Nat) (k : Nat) : ∀ i, nz xs k ≤ i → i < k → xs[i]?.getD 0 = 0 := by
  induction k with
  | zero => intro i _ h; omega
  | succ k ih =>
    intro i h1 h2
    rw [nz] at h1
    split at h1
    · by_cases hi : i = k
      · subst hi; assumption
      · exact ih i h1 (by omega)
    · omega
theorem nz_top (xs : List Nat) (k : Nat) : nz xs k = 0 ∨ xs[nz xs k - 1]?.getD 0 ≠ 0 := by
  induction k with
  | zero => exact .inl rfl
  | succ k ih =>
    rw [nz]
    split
    · exact ih
    · right; simpa
theorem take_nz {xs : List Nat} (hx : ∀ x ∈ xs, x < B64) : xs.take (nz xs xs.length) = limbs (val xs) := by
  refine take_normal (nz_le _ _) hx (fun i hi => ?_) (nz_top _ _)
  by_cases h : i < xs.length
  · exact nz_zero _ _ i hi h
  · rw [List.getElem?_eq_none (by omega)]; rfl

set_option maxHeartbeats 400000 in
theorem normal_own (a : Option Addr) (n c : Nat) (xs : List Nat) (w : World) (h : Nums w a n c xs) :
    Calls Try.prog 35 #[.slice a n c] w (Post w fun v w' => ∃ a' n' c', v = .slice a' n' c' ∧ Nums w' a' n' c' (limbs (val xs)) ∧ Fresh w.heap.size a') := by
  have hfew := h.few
  have hcap := h.cap
  go_enter Try.func35, Try.ntmps35
  go_wp2
  go_loopw [3] (fun k wr => ∃ j : Nat, j ≤ n ∧ k = .int .i64 j ∧ nz xs j = nz xs n ∧ Ext w wr) (fun k _ => (intOf k).toNat)
  case atStart => exact ⟨n, Nat.le_refl _, rfl, rfl, Ext.refl _⟩
  case round =>
    obtain ⟨j, hj, rfl, hnz, hext⟩ := hrel
    have Hnz := Lib.hid hnz
    clear hnz
    by_cases h0 : j = 0
    · subst h0
      go_wp2_with (go_at_call 60; refine (clone_own _ _ _ _ _ ((h.take 0 0 (by omega) (by omega)).ext hext)).mono ?_; rintro e w1 ⟨v, rfl, hext1, a', c', rfl, hn, hfr⟩)
      go_ret
      refine Post.mk (hext.trans hext1) ⟨a', 0, c', rfl, ?_, fun p hp => Nat.le_trans hext.size (hfr p hp)⟩
      have e := take_nz h.lt
      rw [h.len, ← Hnz.out, nz] at e
      rw [← e]; exact hn
    · obtain ⟨j, rfl⟩ : ∃ i, j = i + 1 := ⟨j - 1, by omega⟩
      rcases h.at_ with h0 | ⟨b, off, rfl, hc⟩
      · omega
      have hcell := hext.cell (hc j (by omega))
      clear hc
      have hbd := h.bd j
      by_cases hz : xs[j]?.getD 0 = 0
      · have hz' : (((xs[j]?.getD 0 : Nat) : Int) == 0) = true := by rw [hz]; rfl
        have Hz := Lib.hid hz
        clear hz
        go_wp2
        go_roundw
        case rel => exact ⟨j, by omega, by go_num, by rw [← Hnz.out, nz, if_pos Hz.out], hext⟩
        case measure => simp [intOf]
      · have hz' : (((xs[j]?.getD 0 : Nat) : Int) == 0) = false := by simp [hz]
        go_wp2_with (go_at_call 60; refine (clone_own _ _ _ _ _ ((h.take (j + 1) (j + 1) (by omega) (by omega)).ext hext)).mono ?_; rintro e w1 ⟨v, rfl, hext1, a', c', rfl, hn, hfr⟩)
        go_ret
        refine Post.mk (hext.trans hext1) ⟨a', _, c', rfl, ?_, fun p hp => Nat.le_trans hext.size (hfr p hp)⟩
        have e := take_nz h.lt
        rw [h.len, ← Hnz.out, nz, if_neg hz] at e
        rw [← e]; exact hn

theorem normal_any (a : Option Addr) (n c : Nat) (xs : List Nat) (w : World) (h : Nums w a n c xs) :
    Calls Try.prog 35 #[.slice a n c] w (Post w fun v w' => ∃ a' n' c', v = .slice a' n' c' ∧ Nums w' a' n' c' (limbs (val xs))) := by
  refine (normal_own a n c xs w h).mono ?_
  rintro e w' ⟨v, rfl, hext, a', n', c', rfl, hn, _⟩
  exact Post.mk hext ⟨a', n', c', rfl, hn⟩

/-- A number, or the error that it is too long. -/
def NRes (w : World) (v : Value) : Option Nat → Prop
  | some m => ∃ a n c, v = .tuple #[.slice a n c, .int .i64 0] ∧ Nums w a n c (limbs m)
  | none => v = .tuple #[.slice none 0 0, .int .i64 3]
/-- The same, with the value taken apart. -/
def NOut (w : World) (a : Option Addr) (n c : Nat) (k : Int) : Option Nat → Prop
  | some m => k = 0 ∧ Nums w a n c (limbs m)
  | none => k = 3 ∧ a = none ∧ n = 0 ∧ c = 0
theorem NRes.out {w : World} {v : Value} {o : Option Nat} (h : NRes w v o) : ∃ a n c k, v = .tuple #[.slice a n c, .int .i64 k] ∧ NOut w a n c k o := by
  cases o with
  | some m => obtain ⟨a, n, c, rfl, hn⟩ := h; exact ⟨a, n, c, 0, rfl, rfl, hn⟩
  | none => exact ⟨none, 0, 0, 3, h, rfl, rfl, rfl, rfl⟩
theorem NOut.res {w : World} {a : Option Addr} {n c : Nat} {k : Int} {o : Option Nat} (h : NOut w a n c k o) : NRes w (.tuple #[.slice a n c, .int .i64 k]) o := by
  cases o with
  | some m => obtain ⟨rfl, hn⟩ := h; exact ⟨a, n, c, rfl, hn⟩
  | none => obtain ⟨rfl, rfl, rfl, rfl⟩ := h; rfl
theorem NRes.ext {w w' : World} {v : Value} {o : Option Nat} (h : NRes w v o) (e : Ext w w') : NRes w' v o := by
  cases o with
  | some m => obtain ⟨a, n, c, rfl, hn⟩ := h; exact ⟨a, n, c, rfl, hn.ext e⟩
  | none => exact h
/-- What can be told of a number. -/
def fit (m : Nat) : Option Nat := if m < Top then some m else none

theorem told_any (a : Option Addr) (n c : Nat) (xs : List Nat) (w : World) (h : Nums w a n c xs) :
    Calls Try.prog 28 #[.slice a n c] w (Post w fun v w' => NRes w' v (fit (val xs))) := by
  unfold fit
  by_cases hf : val xs < Top
  · rw [if_pos hf]
    rw [← fits_iff] at hf
    go_enter Try.func28, Try.ntmps28
    go_wp2_with (go_at_call 35; refine (normal_any _ _ _ _ _ h).mono ?_; rintro e w1 ⟨v, rfl, hext1, a', n', c', rfl, hn⟩; obtain rfl := hn.len)
    · have h0 : (((limbs (val xs)).length : Int) == 0) = true := by assumption
      have h0 : limbs (val xs) = [] := by simpa using h0
      go_ret2
      refine Post.mk hext1 ⟨none, 0, 0, rfl, ?_⟩
      rw [h0]; exact Nums.nil _ _ _
    · go_ret2
      exact Post.mk hext1 ⟨_, _, _, rfl, hn⟩
  · rw [if_neg hf]
    rw [← fits_iff] at hf
    go_enter Try.func28, Try.ntmps28
    go_wp2_with (go_at_call 35; refine (normal_any _ _ _ _ _ h).mono ?_; rintro e w1 ⟨v, rfl, hext1, a', n', c', rfl, hn⟩; obtain rfl := hn.len)
    go_ret2
    exact Post.mk hext1 rfl

/-- A bit of a number. -/
theorem Calls.ret {P : Program} {f : FuncId} {args : Array Value} {w : World} {v v' : Value} (h : Calls P f args w fun e w' => e = .returned v ∧ w' = w) (e : v = v') :
    Calls P f args w fun e w' => e = .returned v' ∧ w' = w := e ▸ h

def digitF (xs : List Nat) (i : Nat) : Nat := if i % 2 = 0 then xs[i / 2]?.getD 0 % 4294967296 else xs[i / 2]?.getD 0 / 4294967296

set_option maxHeartbeats 400000 in
theorem digit_any (a : Option Addr) (n c : Nat) (xs : List Nat) (i : Nat) (w : World) (h : Nums w a n c xs) (hi : i ≤ 1000000) :
    Calls Try.prog 21 #[.slice a n c, .int .i64 i] w fun e w' => e = .returned (.int .u64 (digitF xs i)) ∧ w = w' := by
  obtain rfl := h.len
  have hfew := h.few
  unfold digitF
  have hbd := h.bd (i / 2)
  unfold B64 at hbd
  by_cases hn : xs.length ≤ i / 2
  · rw [List.getElem?_eq_none hn]
    go_enter Try.func21, Try.ntmps21
    go_wp2
    all_goals
      go_ret
      exact ⟨by simp, rfl⟩
  · rcases h.at_ with h0 | ⟨b, off, rfl, hc⟩
    · omega
    have hcell := hc (i / 2) (by omega)
    clear hc
    by_cases h2 : i % 2 = 0
    · rw [if_pos h2]
      go_enter Try.func21, Try.ntmps21
      go_wp2
      go_ret
      exact ⟨by simp, rfl⟩
    · rw [if_neg h2]
      go_enter Try.func21, Try.ntmps21
      go_wp2
      go_ret
      exact ⟨by simp, rfl⟩
end Go.Proofs.Ytgihjgkpmochcaa

namespace Go.Proofs.Ytgihjgkpmochcaa
open Go.RowKit

/-- Is a number too long? -/
def isLong (xs : List Nat) : Bool := decide (Top ≤ val xs)
theorem isLong_iff (xs : List Nat) : isLong xs = decide (2048 < (limbs (val xs)).length) := by
  unfold isLong
  have := fits_iff (val xs)
  by_cases h : Top ≤ val xs <;> simp [h] <;> omega

/-- The slice reads as a row of numbers. -/
def NumsL (w : World) (a : Option Addr) (n : Nat) (xss : List (List Nat)) : Prop :=
  xss.length = n ∧ n ≤ 65536 ∧ (n = 0 ∨ ∃ b off, a = some ⟨b, off, none⟩ ∧ ∀ i xs, xss[i]? = some xs → ∃ ai ni ci, w.cell? ⟨b, off + i, none⟩ = some (.slice ai ni ci) ∧ Nums w ai ni ci xs)

theorem long1_any (a : Option Addr) (n c : Nat) (xs : List Nat) (w : World) (h : Nums w a n c xs) :
    Calls Try.prog 59 #[.slice a n c] w (Post w fun v _ => v = .bool (isLong xs)) := by
  rw [isLong_iff]
  go_enter Try.func59, Try.ntmps59
  go_wp2_with (go_at_call 35; refine (normal_any _ _ _ _ _ h).mono ?_; rintro e w1 ⟨v, rfl, hext1, a', n', c', rfl, hn⟩; obtain rfl := hn.len)
  go_ret
  exact Post.mk hext1 (by simp; omega)

set_option maxHeartbeats 400000 in
theorem index_long_no (a : Option Addr) (n c : Nat) (xss : List (List Nat)) (w : World) (h : NumsL w a n xss) (hno : xss.any isLong = false) :
    Calls Try.prog 79 #[.slice a n c, .func (.func 59) #[] #[]] w (Post w fun v _ => v = .int .i64 (-1)) := by
  obtain ⟨rfl, hfew, hat⟩ := h
  have HNO := Lib.hid hno
  clear hno
  go_enter Try.func79, Try.ntmps79
  go_wp2
  go_loopw [8] (fun k wr => ∃ j : Nat, j ≤ xss.length ∧ k = .int .i64 j ∧ Ext w wr) (fun k _ => xss.length - (intOf k).toNat)
  case atStart => exact ⟨0, Nat.zero_le _, rfl, Ext.refl _⟩
  case round =>
    obtain ⟨j, hj, rfl, hext⟩ := hrel
    by_cases hlt : j < xss.length
    · rcases hat with h0 | ⟨b, off, rfl, hc⟩
      · omega
      obtain ⟨ai, ni, ci, hcell, hn⟩ := hc j xss[j] (List.getElem?_eq_getElem hlt)
      have hcell' := hext.cell hcell
      have hl : isLong xss[j] = false := by
        have := HNO.out
        rw [List.any_eq_false] at this
        simpa using this xss[j] (List.getElem_mem hlt)
      have HL := Lib.hid hl
      clear hl hc hcell
      go_wp2_with (go_at_call 59; refine (long1_any _ _ _ _ _ (hn.ext hext)).mono ?_; rintro e w1 ⟨v, rfl, hext1, rfl⟩; rw [HL.out])
      go_roundw
      case rel => exact ⟨j + 1, by omega, by go_num, hext.trans hext1⟩
      case measure => simp [intOf]; omega
    · go_wp2
      go_ret
      exact Post.mk hext rfl

set_option maxHeartbeats 400000 in
theorem index_long_yes (a : Option Addr) (n c : Nat) (xss : List (List Nat)) (w : World) (h : NumsL w a n xss) (hyes : xss.any isLong = true) :
    Calls Try.prog 79 #[.slice a n c, .func (.func 59) #[] #[]] w (Post w fun v _ => ∃ k : Nat, v = .int .i64 k) := by
  obtain ⟨rfl, hfew, hat⟩ := h
  have HNO := Lib.hid hyes
  clear hyes
  go_enter Try.func79, Try.ntmps79
  go_wp2
  go_loopw [8] (fun k wr => ∃ j : Nat, j ≤ xss.length ∧ k = .int .i64 j ∧ Ext w wr ∧ ∀ i, i < j → (xss[i]?.map isLong) ≠ some true) (fun k _ => xss.length - (intOf k).toNat)
  case atStart => exact ⟨0, Nat.zero_le _, rfl, Ext.refl _, fun i hi => by omega⟩
  case round =>
    obtain ⟨j, hj, rfl, hext, hbef⟩ := hrel
    have HB := Lib.hid hbef
    clear hbef
    by_cases hlt : j < xss.length
    · rcases hat with h0 | ⟨b, off, rfl, hc⟩
      · omega
      obtain ⟨ai, ni, ci, hcell, hn⟩ := hc j xss[j] (List.getElem?_eq_getElem hlt)
      have hcell' := hext.cell hcell
      clear hc hcell
      cases hl : isLong xss[j] with
      | false =>
        have HL := Lib.hid hl
        clear hl
        go_wp2_with (go_at_call 59; refine (long1_any _ _ _ _ _ (hn.ext hext)).mono ?_; rintro e w1 ⟨v, rfl, hext1, rfl⟩; rw [HL.out])
        go_roundw
        case rel =>
          refine ⟨j + 1, by omega, by go_num, hext.trans hext1, fun i hi => ?_⟩
          by_cases hij : i = j
          · subst hij; rw [List.getElem?_eq_getElem hlt]; simp [HL.out]
          · exact HB.out i (by omega)
        case measure => simp [intOf]; omega
      | true =>
        have HL := Lib.hid hl
        clear hl
        go_wp2_with (go_at_call 59; refine (long1_any _ _ _ _ _ (hn.ext hext)).mono ?_; rintro e w1 ⟨v, rfl, hext1, rfl⟩; rw [HL.out])
        go_ret
        exact Post.mk (hext.trans hext1) ⟨j, rfl⟩
    · exfalso
      have hy := HNO.out
      rw [List.any_eq_true] at hy
      obtain ⟨x, hx, hx'⟩ := hy
      obtain ⟨i, hi, rfl⟩ := List.getElem_of_mem hx
      exact HB.out i (by omega) (by rw [List.getElem?_eq_getElem hi]; simp [hx'])

theorem contains_long (a : Option Addr) (n c : Nat) (xss : List (List Nat)) (w : World) (h : NumsL w a n xss) :
    Calls Try.prog 58 #[.slice a n c, .func (.func 59) #[] #[]] w (Post w fun v _ => v = .bool (xss.any isLong)) := by
  cases hl : xss.any isLong with
  | false =>
    go_enter Try.func58, Try.ntmps58
    go_wp2_with (go_at_call 79; refine (index_long_no _ _ _ _ _ h hl).mono ?_; rintro e w1 ⟨v, rfl, hext1, rfl⟩)
    go_ret
    exact Post.mk hext1 rfl
  | true =>
    go_enter Try.func58, Try.ntmps58
    go_wp2_with (go_at_call 79; refine (index_long_yes _ _ _ _ _ h hl).mono ?_; rintro e w1 ⟨v, rfl, hext1, k, rfl⟩)
    go_ret
    exact Post.mk hext1 (by simp)

theorem long_any (a : Option Addr) (n c : Nat) (xss : List (List Nat)) (w : World) (h : NumsL w a n xss) :
    Calls Try.prog 34 #[.slice a n c] w (Post w fun v _ => v = .bool (xss.any isLong)) := by
  go_enter Try.func34, Try.ntmps34
  go_wp2_with (go_at_call 58; refine (contains_long _ _ _ _ _ h).mono ?_; rintro e w1 ⟨v, rfl, hext1, rfl⟩)
  go_ret
  exact Post.mk hext1 rfl

/-- A row of two numbers that the call itself has laid. -/
theorem NumsL.two {w : World} {b : Nat} {a1 a2 : Option Addr} {n1 c1 n2 c2 : Nat} {xs ys : List Nat} (h1 : w.cell? ⟨b, 0, none⟩ = some (.slice a1 n1 c1)) (h2 : w.cell? ⟨b, 1, none⟩ = some (.slice a2 n2 c2))
    (hx : Nums w a1 n1 c1 xs) (hy : Nums w a2 n2 c2 ys) : NumsL w (some ⟨b, 0, none⟩) 2 [xs, ys] :=
  ⟨rfl, by omega, .inr ⟨b, 0, rfl, fun i zs hi => by
    match i, hi with
    | 0, hi => simp at hi; subst hi; exact ⟨_, _, _, h1, hx⟩
    | 1, hi => simp at hi; subst hi; exact ⟨_, _, _, h2, hy⟩
    | i + 2, hi => simp at hi⟩⟩
theorem NumsL.one {w : World} {b : Nat} {a1 : Option Addr} {n1 c1 : Nat} {xs : List Nat} (h1 : w.cell? ⟨b, 0, none⟩ = some (.slice a1 n1 c1)) (hx : Nums w a1 n1 c1 xs) : NumsL w (some ⟨b, 0, none⟩) 1 [xs] :=
  ⟨rfl, by omega, .inr ⟨b, 0, rfl, fun i zs hi => by
    match i, hi with
    | 0, hi => simp at hi; subst hi; exact ⟨_, _, _, h1, hx⟩
    | i + 1, hi => simp at hi⟩⟩
end Go.Proofs.Ytgihjgkpmochcaa

namespace Go.Proofs.Ytgihjgkpmochcaa
set_option linter.unusedVariables false
open Go.RowKit Go.Shelf

attribute [local go_sem] Oper.semAt_some

theorem at_any (a : Option Addr) (n c : Nat) (xs : List Nat) (i : Nat) (w : World) (h : Nums w a n c xs) (hi : i ≤ 1000000) :
    Calls Try.prog 82 #[.slice a n c, .int .i64 i] w fun e w' => e = .returned (.int .u64 ((xs[i]?.getD 0 : Nat) : Int)) ∧ w' = w := by
  obtain rfl := h.len
  have hfew := h.few
  by_cases hlt : i < xs.length
  · rcases h.at_ with h0 | ⟨b, off, rfl, hc⟩
    · omega
    have hcell := hc i (by omega)
    clear hc
    go_enter Try.func82, Try.ntmps82
    go_wp2
    go_ret
    exact ⟨by simp [hlt], rfl⟩
  · rw [List.getElem?_eq_none (by omega)]
    go_enter Try.func82, Try.ntmps82
    go_wp2
    go_ret
    exact ⟨rfl, rfl⟩

set_option maxHeartbeats 400000 in
theorem pairs_any (v1 v2 : Value) (a1 a2 : Option Addr) (n1 c1 n2 c2 : Nat) (w : World) (e1 : v1 = .slice a1 n1 c1) (e2 : v2 = .slice a2 n2 c2) :
    Calls Try.prog 65 #[v1, v2] w fun e w' => e = .returned (.func (.func 83) #[] #[.pointer (some ⟨w.heap.size, 0, none⟩), .pointer (some ⟨w.heap.size + 1, 0, none⟩), .pointer (some ⟨w.heap.size + 1 + 1, 0, none⟩)]) ∧
      w' = ((w.alloc (.cells #[v1] 26)).alloc (.cells #[v2] 26)).alloc (.cells #[.func (.func 82) #[] #[]] 52) := by
  subst e1 e2
  have hmf : ∀ (fn : Fn) (first cap : Array Value) (w : World), (Instr.makeFunc fn first cap).run Try.prog w = .ok (.func fn first cap) w := fun _ _ _ _ => rfl
  go_enter Try.func65, Try.ntmps65
  go_wp2
  go_ret
  exact ⟨rfl, rfl⟩

/-- A place and the two limbs there. -/
structure Pr where
  i : Nat
  x : Nat
  y : Nat
  hx : x < B64
  hy : y < B64
def Pr.enc (p : Pr) : Array Value := #[.int .i64 p.i, .agg #[.int .u64 p.x, .int .u64 p.y]]

set_option maxRecDepth 100000 in
set_option maxHeartbeats 1000000 in
theorem pairs2_in (l : Nat) (B : Nat) (a1 a2 : Option Addr) (n1 c1 n2 c2 : Nat) (xs ys : List Nat) (w W0 : World) (hw : Ext w W0) (hwB : w.heap.size ≤ B)
    (h1 : Nums w a1 n1 c1 xs) (h2 : Nums w a2 n2 c2 ys)
    (b1 : W0.cell? ⟨B, 0, none⟩ = some (.slice a1 n1 c1)) (b2 : W0.cell? ⟨B + 1, 0, none⟩ = some (.slice a2 n2 c2)) (b3 : W0.cell? ⟨B + 1 + 1, 0, none⟩ = some (.func (.func 82) #[] #[]))
    (J Jx : List Pr → World → Prop)
    (hY : ∀ pre x W, J pre W → pre.length < max n1 n2 → YieldAt Fence.wide 2 Try.prog l x.enc W fun e W' =>
      (e = .returned (.bool true) ∧ J (pre ++ [x]) W' ∧ Hole w.heap.size B W0.heap.size W W') ∨ (e = .returned (.bool false) ∧ Jx (pre ++ [x]) W'))
    (W : World) (hW : Ext W0 W) (hJ : AbidesFrom W.heap.size J) (h0 : J [] W) :
    CallsIn Fence.wide 3 Try.prog 83 #[.func (.yield l) #[] #[], .pointer (some ⟨B, 0, none⟩), .pointer (some ⟨B + 1, 0, none⟩), .pointer (some ⟨B + 1 + 1, 0, none⟩)] W fun e W' => (∃ v, e = .returned v) ∧
      ((∃ zs : List Pr, (zs.map fun p => (p.x, p.y)) = prs xs ys (max n1 n2) ∧ J zs W') ∨ (∃ pre, Jx pre W')) := by
  have k1 : B < W0.heap.size := World.block_lt_of_cell? W0 ⟨B, 0, none⟩ b1
  have k2 : B + 1 < W0.heap.size := World.block_lt_of_cell? W0 ⟨B + 1, 0, none⟩ b2
  have k3 : B + 1 + 1 < W0.heap.size := World.block_lt_of_cell? W0 ⟨B + 1 + 1, 0, none⟩ b3
  have f1 := h1.few
  have f2 := h2.few
  have g1 := hW.cell b1
  have g2 := hW.cell b2
  refine callsIn_of_wp Try.func83 rfl trivial ?_ rfl
  simp only [Try.ntmps83, List.size_toArray, List.length_cons, List.length_nil, Nat.reduceAdd, Nat.reduceSub, Array.replicate_succ, Array.replicate_zero, List.push_toArray, List.append_toArray, List.nil_append, List.cons_append]
  rcases Nat.lt_or_ge n1 n2 with h12 | h12
  all_goals
    gi_wp2
    gi_loopw [11] (fun k wr => ∃ (j : Nat) (zs : List Pr), j ≤ max n1 n2 ∧ k = .int .i64 j ∧ (zs.map fun p => (p.x, p.y)) = prs xs ys j ∧ Hole w.heap.size B W0.heap.size W0 wr ∧ J zs wr)
      (fun k _ => max n1 n2 - (intOf k).toNat)
    case atStart => exact ⟨0, [], by omega, rfl, rfl, .of_below hW, h0⟩
    case round =>
      obtain ⟨j, zs, hj, rfl, hzs, hext, hJs⟩ := hrel
      have HZ := Lib.hid hzs
      clear hzs
      have g3 := hext.cell k1 (.inr (Nat.le_refl _)) b1
      have g4 := hext.cell k2 (.inr (by simp)) b2
      have g5 := hext.cell k3 (.inr (by simp; omega)) b3
      have hwr := hext.ext hw hw.size
      by_cases hlt : j < max n1 n2
      · gi_wp2
        refine wpIn_region_tail open_wide 11 (by kernel_rfl) (by kernel_rfl) ?_
        simp only [List.take_succ_cons, List.take_zero, List.drop_succ_cons, List.drop_zero]
        repeat (go_big_quiet_step ((go_at_call 82; first | exact Calls.quiet_of_same (at_any _ _ _ _ _ _ (h1.ext (hwr.drewN _)) (by omega)) | exact Calls.quiet_of_same (at_any _ _ _ _ _ _ (h2.ext (hwr.drewN _)) (by omega)))))
        refine wpQuiet_nil ?_
        rintro _ ⟨nq, rfl⟩
        have hd : Hole w.heap.size B W0.heap.size W0 (wr.drewN nq) := hext.drewN nq
        have hJd : J zs (wr.drewN nq) := hJ zs wr (wr.drewN nq) none hJs ⟨rfl, rfl, rfl, Nat.le_refl _, fun _ _ _ => rfl⟩ (fun r e => by cases e)
        obtain ⟨fn, tmps, assign, body, hy, hR⟩ := hY zs ⟨j, _, _, h1.bd j, h2.bd j⟩ (wr.drewN nq) hJd (by have := congrArg List.length HZ.out; simp [prs] at this; omega)
        simp only [Pr.enc] at hy
        have HR := Lib.hid hR
        clear hR hY hJ h0 hwr
        gi_wp2
        refine HR.out.mono ?_
        rintro e W3 (⟨rfl, hJ3, hk3⟩ | ⟨rfl, hJx3⟩)
        · gi_wp2
          go_roundw
          case rel => exact ⟨j + 1, _, by omega, by go_num, by rw [prs_succ, List.map_append, HZ.out]; rfl, hd.trans hk3, hJ3⟩
          case measure => simp [intOf]; omega
        · gi_wp2
          refine bodyPost_ret (results_none rfl _ _ _) rfl ?_
          exact ⟨⟨_, rfl⟩, .inr ⟨_, hJx3⟩⟩
      · gi_wp2
        go_end0
        have : j = max n1 n2 := by omega
        subst this
        exact ⟨⟨_, rfl⟩, .inl ⟨zs, HZ.out, hJs⟩⟩

/-- What pairs hands back, as an iterator. -/
theorem pairs_stops (B : Nat) (a1 a2 : Option Addr) (n1 c1 n2 c2 : Nat) (xs ys : List Nat) (w W0 : World) (hw : Ext w W0) (hwB : w.heap.size ≤ B)
    (h1 : Nums w a1 n1 c1 xs) (h2 : Nums w a2 n2 c2 ys)
    (b1 : W0.cell? ⟨B, 0, none⟩ = some (.slice a1 n1 c1)) (b2 : W0.cell? ⟨B + 1, 0, none⟩ = some (.slice a2 n2 c2)) (b3 : W0.cell? ⟨B + 1 + 1, 0, none⟩ = some (.func (.func 82) #[] #[])) :
    SeqStopsK Fence.wide 3 Try.prog 83 #[.pointer (some ⟨B, 0, none⟩), .pointer (some ⟨B + 1, 0, none⟩), .pointer (some ⟨B + 1 + 1, 0, none⟩)] Pr.enc (Hole w.heap.size B W0.heap.size)
      (fun zs => (zs.map fun p => (p.x, p.y)) = prs xs ys (max n1 n2)) (fun _ => True) (max n1 n2) W0 := fun l J Jx W hW hJ _ hY h0 =>
  (pairs2_in l B a1 a2 n1 c1 n2 c2 xs ys w W0 hw hwB h1 h2 b1 b2 b3 J Jx hY W hW hJ h0).mono fun _ _ ⟨hv, h⟩ => ⟨hv, h.imp (fun ⟨zs, hz, hj⟩ => ⟨zs, hz, hj⟩) fun ⟨pre, hp⟩ => ⟨pre, trivial, hp⟩⟩

end Go.Proofs.Ytgihjgkpmochcaa

namespace Go.Proofs.Ytgihjgkpmochcaa
open Go.RowKit Go.Shelf

attribute [local go_sem] Oper.semAt_some

/-- Block B holds two limbs side by side. -/
def Pair2 (W : World) (B : Nat) (t : TypeId) (x y : Nat) : Prop := W.heap[B]? = some (.cells #[.int .u64 x, .int .u64 y] t (0, 0))
theorem Pair2.new (W : World) (t x y : Nat) : Pair2 (W.alloc (.cells #[.int .u64 x, .int .u64 y] t)) W.heap.size t x y := World.alloc_heap_new W _
theorem Pair2.cell0 {W : World} {B t x y : Nat} (h : Pair2 W B t x y) : W.cell? ⟨B, 0, none⟩ = some (.int .u64 x) := by simp [World.cell?, show W.heap[B]? = _ from h]
theorem Pair2.cell1 {W : World} {B t x y : Nat} (h : Pair2 W B t x y) : W.cell? ⟨B, 1, none⟩ = some (.int .u64 y) := by simp [World.cell?, show W.heap[B]? = _ from h]
theorem Pair2.kept {W W' : World} {row : Option Nat} {B t x y : Nat} (h : Pair2 W B t x y) (hg : W.grownBy W' row) (hne : some B ≠ row) : Pair2 W' B t x y :=
  (hg.block B (Array.getElem?_eq_some_iff.1 h).1 hne).trans h
theorem ownFrom_size {β : Type} {B : Nat} (n : Nat) : OwnFrom B (fun (_ : β) W => n ≤ W.heap.size) := fun _ _ _ _ hs hg _ => Nat.le_trans hs hg.size
def Pr.two (p : Pr) : Nat × Nat := (p.x, p.y)

set_option maxRecDepth 100000 in
set_option maxHeartbeats 1000000 in
theorem cmp_in (a1 a2 : Option Addr) (n1 c1 n2 c2 : Nat) (xs ys : List Nat) (w : World) (h1 : Nums w a1 n1 c1 xs) (h2 : Nums w a2 n2 c2 ys) :
    CallsIn Fence.wide 4 Try.prog 43 #[.slice a1 n1 c1, .slice a2 n2 c2] w (Post w fun v _ => v = .int .i64 (cmpL (prs xs ys (max n1 n2)))) := by
  refine callsIn_of_wp_marks Try.func43 rfl trivial ?_ rfl
  simp only [Try.ntmps43, List.size_toArray, List.length_cons, List.length_nil, Nat.reduceAdd, Nat.reduceSub, Array.replicate_succ, Array.replicate_zero, List.push_toArray, List.append_toArray, List.nil_append, List.cons_append]
  gi_wp2_with (refine ⟨trivial, ?_⟩; gi_at_call 65; refine (open_wide.calls (pairs_any _ _ _ _ _ _ _ _ _ rfl rfl)).mono ?_; rintro e w' ⟨rfl, rfl⟩)
  have bO := (((Boxed.new w 3 (.int .i64 0)).alloc (.cells #[.slice a1 n1 c1] 26)).alloc (.cells #[.slice a2 n2 c2] 26)).alloc (.cells #[.func (.func 82) #[] #[]] 52)
  have bA := ((Boxed.new (w.alloc (.cells #[.int .i64 0] 3)) 26 (.slice a1 n1 c1)).alloc (.cells #[.slice a2 n2 c2] 26)).alloc (.cells #[.func (.func 82) #[] #[]] 52)
  have bB := (Boxed.new ((w.alloc (.cells #[.int .i64 0] 3)).alloc (.cells #[.slice a1 n1 c1] 26)) 26 (.slice a2 n2 c2)).alloc (.cells #[.func (.func 82) #[] #[]] 52)
  have bC := Boxed.new (((w.alloc (.cells #[.int .i64 0] 3)).alloc (.cells #[.slice a1 n1 c1] 26)).alloc (.cells #[.slice a2 n2 c2] 26)) 52 (.func (.func 82) #[] #[])
  simp only [World.size_alloc] at bA bB bC
  have hE : Ext w ((((w.alloc (.cells #[.int .i64 0] 3)).alloc (.cells #[.slice a1 n1 c1] 26)).alloc (.cells #[.slice a2 n2 c2] 26)).alloc (.cells #[.func (.func 82) #[] #[]] 52)) := ((((Ext.refl w).alloc _).alloc _).alloc _).alloc _
  have hsz : ((((w.alloc (.cells #[.int .i64 0] 3)).alloc (.cells #[.slice a1 n1 c1] 26)).alloc (.cells #[.slice a2 n2 c2] 26)).alloc (.cells #[.func (.func 82) #[] #[]] 52)).heap.size = w.heap.size + 4 := by simp
  generalize ((((w.alloc (.cells #[.int .i64 0] 3)).alloc (.cells #[.slice a1 n1 c1] 26)).alloc (.cells #[.slice a2 n2 c2] 26)).alloc (.cells #[.func (.func 82) #[] #[]] 52)) = W0 at *
  refine wpIn_rangeFunc_ownH rfl (by omega) (gf := 83) rfl trivial (enters_of Try.func83 (by kernel_rfl) rfl)
    (pairs_stops (w.heap.size + 1) a1 a2 n1 c1 n2 c2 xs ys w W0 hE (by omega) h1 h2 bA.cell bB.cell bC.cell) (fun h k => h.trans k) (Hole.put (Nat.le_refl _)) (Below.refl _ _) (fun _ => rfl)
    (fun pre W => (Boxed W w.heap.size 3 (.int .i64 (cmpL (pre.map Pr.two))) ∧ Ext w W) ∧ W0.heap.size ≤ W.heap.size)
    (fun _ _ _ => False)
    (OwnFrom.and (OwnFrom.and (Own.from (boxed_own _ _ _) _) (ownFrom_below (Nat.le_refl _) hE.size)) (ownFrom_size _))
    (fun _ _ _ _ _ hs _ _ => hs)
    ⟨⟨bO, hE⟩, Nat.le_refl _⟩
    (fun x a' W => ∃ Bx, W0.heap.size ≤ Bx ∧ Pair2 W Bx 94 x.x x.y ∧ a' = { tmps := #[.slice a1 n1 c1, .slice a2 n2 c2, undef, undef, .int .i64 0,
          .pointer (some ⟨w.heap.size, 0, none⟩), undef, .pointer (some ⟨Bx, 0, none⟩), .slice a1 n1 c1, .slice a2 n2 c2,
          .func (.func 83) #[] #[.pointer (some ⟨w.heap.size + 1, 0, none⟩), .pointer (some ⟨w.heap.size + 1 + 1, 0, none⟩), .pointer (some ⟨w.heap.size + 1 + 1 + 1, 0, none⟩)],
          .int .i64 x.i, .agg #[.int .u64 x.x, .int .u64 x.y], undef, undef, undef, undef, undef, undef, undef, undef, undef, undef, undef, undef, undef], defers := [] })
    (fun x a' _ X Y row hs hg hr => by obtain ⟨Bx, h1, h2, h3⟩ := hs; exact ⟨Bx, h1, h2.kept hg (fun e => by obtain ⟨_, o, ho, hc⟩ := hr _ e.symm; rw [h2] at ho; cases ho; cases hc), h3⟩)
    ?assign ?body ?done ?stop
  case assign =>
    rintro l pre x W K ⟨⟨bO1, hE1⟩, hsW⟩ hK
    simp only [Pr.enc]
    gi_wp2
    exact hK _ _ ((KeepsOthers.alloc _ _).from _) ((Hole.refl _ _ _ W).alloc hsW _) ⟨⟨bO1.alloc _, hE1.alloc _⟩, by simp; omega⟩ ⟨W.heap.size, hsW, Pair2.new _ _ _ _, rfl⟩
  case body =>
    rintro l pre x a' W hl ⟨r, hr⟩ ⟨⟨bO1, hE1⟩, hsW⟩ ⟨Bx, hBx, p2, rfl⟩ hlt
    have d0 := p2.cell0
    have d1 := p2.cell1
    have cO := bO1.cell
    have fO := bO1.frozen
    clear hr
    by_cases hxy : x.x < x.y
    · gi_wp2
      exact ⟨(KeepsOthers.setCell _ _ _).from _, (Hole.refl _ _ _ W).set (p := ⟨w.heap.size, 0, none⟩) (Nat.le_refl _) (.inl (by simp)) _, ⟨by rw [List.map_append, List.map_singleton, cmpL_snoc, Pr.two, if_pos hxy]; exact bO1.set _, hE1.set (p := ⟨w.heap.size, 0, none⟩) (Nat.le_refl _) _⟩, by simpa [World.setCell] using hsW⟩
    · by_cases hyx : x.y < x.x
      · gi_wp2
        exact ⟨(KeepsOthers.setCell _ _ _).from _, (Hole.refl _ _ _ W).set (p := ⟨w.heap.size, 0, none⟩) (Nat.le_refl _) (.inl (by simp)) _, ⟨by rw [List.map_append, List.map_singleton, cmpL_snoc, Pr.two, if_neg hxy, if_pos hyx]; exact bO1.set _, hE1.set (p := ⟨w.heap.size, 0, none⟩) (Nat.le_refl _) _⟩, by simpa [World.setCell] using hsW⟩
      · gi_wp2
        exact ⟨KeepsFrom.refl _ _, Hole.refl _ _ _ _, ⟨by rw [List.map_append, List.map_singleton, cmpL_snoc, Pr.two, if_neg hxy, if_neg hyx]; exact bO1, hE1⟩, hsW⟩
  case done =>
    rintro D zs W hD hz ⟨⟨bO1, hE1⟩, hsW⟩ hK
    have cO := bO1.cell
    have HZ := Lib.hid hz
    clear hz
    gi_wp2
    refine ⟨by simp, .inl ⟨_, _, rfl, run_takeDeferred hK, ?_⟩⟩
    refine ⟨_, results_tmp rfl _ _ _, _, rfl, Below.trans hE1 (belowK_b (w := w) (Nat.le_refl _) W D _ _ (by omega) hK rfl rfl), ?_⟩
    rw [← HZ.out]; rfl
  case stop =>
    rintro D c pre W _ _ h _
    exact h.elim

theorem cmp_any (a1 a2 : Option Addr) (n1 c1 n2 c2 : Nat) (xs ys : List Nat) (w : World) (h1 : Nums w a1 n1 c1 xs) (h2 : Nums w a2 n2 c2 ys) :
    Calls Try.prog 43 #[.slice a1 n1 c1, .slice a2 n2 c2] w (Post w fun v _ => v = .int .i64 (cmpN (val xs) (val ys))) := by
  rw [← cmpL_val h1.lt h2.lt (max n1 n2) (by have := h1.len; omega) (by have := h2.len; omega)]
  exact callsIn_wide.1 (cmp_in a1 a2 n1 c1 n2 c2 xs ys w h1 h2)
end Go.Proofs.Ytgihjgkpmochcaa

namespace Go.Proofs.Ytgihjgkpmochcaa
open Go.RowKit Go.Shelf

attribute [local go_sem] Oper.semAt_some

/-- The model's own Sub64. -/
def subEntry : Array Value → Sem Value := fun args => do
  let (x, y, b) ← Extern.MathBitsCarry.three "Sub64" args
  pure (Extern.MathBitsCarry.pair ((x + Extern.MathBitsCarry.m64 - y - b) % Extern.MathBitsCarry.m64) (if x < y + b then 1 else 0))

theorem run_Sub64 (x y b : Nat) (hx : x < B64) (hy : y < B64) (hb : b ≤ 1) (w : World) :
    (callFunc 81 #[.int .u64 x, .int .u64 y, .int .u64 b]).run Try.prog w = .ok (.value (.tuple #[.int .u64 ((difOf B64 x y b : Nat) : Int), .int .u64 ((borOf x y b : Nat) : Int)])) w := by
  rw [run_callFunc_extern Try.func81 (by kernel_rfl) (by kernel_rfl) (by kernel_rfl) (e := subEntry) (by kernel_rfl)]
  have key : (subEntry #[.int .u64 x, .int .u64 y, .int .u64 b]).run Try.prog w = .ok (.tuple #[.int .u64 (((x + 18446744073709551616 - y - b) % 18446744073709551616 : Nat) : Int), .int .u64 ((borOf x y b : Nat) : Int)]) w := by
    have : b = 0 ∨ b = 1 := by omega
    rcases this with rfl | rfl <;> rfl
  rw [key]
  have e : (x + 18446744073709551616 - y - b) % 18446744073709551616 = difOf B64 x y b := by unfold difOf B64 at *; omega
  rw [e]; rfl
theorem run_Add64 (x y c : Nat) (hc : c ≤ 1) (w : World) :
    (callFunc 73 #[.int .u64 x, .int .u64 y, .int .u64 c]).run Try.prog w = .ok (.value (.tuple #[.int .u64 (((x + y + c) % B64 : Nat) : Int), .int .u64 (((x + y + c) / B64 : Nat) : Int)])) w := by
  rw [run_callFunc_extern Try.func73 (by kernel_rfl) (by kernel_rfl) (by kernel_rfl) (e := add64Entry) (by kernel_rfl), run_add64 x y c (by omega) (by omega) (by omega) (by omega)]
  simp only [Result.andThen]
  unfold B64
  congr 5 <;> omega

/-- Two boxes stay behind an append onto a row that is neither. -/
theorem boxes2 {W w1 : World} {B1 B2 t1 t2 base e size k : Nat} {u1 u2 v : Value} {xs : List Value} {tmp : Obj} (b1 : Boxed W B1 t1 u1) (b2 : Boxed W B2 t2 u2) (hr : W.ownsRow base e size v k xs) (h1 : t1 ≠ e) (h2 : B2 < base)
    (hg : (W.alloc tmp).grownBy w1 v.ownBlock) : Boxed w1 B1 t1 u1 ∧ Boxed w1 B2 t2 u2 ∧ w1.cell? ⟨B1, 0, none⟩ = some u1 ∧ w1.frozen? ⟨B1, 0, none⟩ = false ∧ w1.cell? ⟨B2, 0, none⟩ = some u2 ∧ w1.frozen? ⟨B2, 0, none⟩ = false := by
  have k1 : Boxed w1 B1 t1 u1 := (b1.alloc tmp).kept hg (b1.not_row h1 hr)
  have k2 : Boxed w1 B2 t2 u2 := (b2.alloc tmp).kept hg (fun e => by have := own_block hr B2 e.symm; omega)
  exact ⟨k1, k2, k1.cell, k1.frozen, k2.cell, k2.frozen⟩

theorem Nums.put {W : World} {a : Option Addr} {n c : Nat} {xs : List Nat} (h : Nums W a n c xs) {l : Nat} {o : Obj} (hl : W.heap[l]? = some o) (ho : o.isCells = false) (o' : Obj) : Nums (W.putObj l o') a n c xs :=
  ⟨h.len, h.few, h.cap, h.lt, h.at_.imp id fun ⟨b, off, ha, hc⟩ => ⟨b, off, ha, fun i hi => cell_kept (hc i hi) (grownBy_putObj' W l o') (fun r e => by cases e; exact ⟨o, hl, ho⟩)⟩⟩
/-- What a round that appends a limb, and turns the carry, leaves. -/
theorem round_app {w W0 W w1 : World} {v v' u u' : Value} {L : List Nat} {d tN tU : Nat} {tmp : Obj} (hne : tN ≠ tU) (hsz : w.heap.size + 2 ≤ W0.heap.size) (hsW : W0.heap.size ≤ W.heap.size) (hE1 : Ext w W)
    (bO1 : Boxed W w.heap.size tN v) (bR1 : Boxed W (w.heap.size + 1) tU u) (own1 : W.ownsRow W0.heap.size tU 1 v L.length (lims L))
    (hown' : w1.ownsRow W0.heap.size tU 1 v' (L.length + 1) (lims L ++ [Value.int .u64 (d : Int)])) (hgrow : (W.alloc tmp).grownBy w1 v.ownBlock) :
    KeepsFrom W0.heap.size W ((w1.setCell ⟨w.heap.size, 0, none⟩ v').setCell ⟨w.heap.size + 1, 0, none⟩ u') ∧
    Hole w.heap.size (w.heap.size + 1 + 1) W0.heap.size W ((w1.setCell ⟨w.heap.size, 0, none⟩ v').setCell ⟨w.heap.size + 1, 0, none⟩ u') ∧
    (((∃ v, Boxed ((w1.setCell ⟨w.heap.size, 0, none⟩ v').setCell ⟨w.heap.size + 1, 0, none⟩ u') w.heap.size tN v ∧ ((w1.setCell ⟨w.heap.size, 0, none⟩ v').setCell ⟨w.heap.size + 1, 0, none⟩ u').ownsRow W0.heap.size tU 1 v (L ++ [d]).length (lims (L ++ [d])) ∧ True) ∧
      Boxed ((w1.setCell ⟨w.heap.size, 0, none⟩ v').setCell ⟨w.heap.size + 1, 0, none⟩ u') (w.heap.size + 1) tU u') ∧ Ext w ((w1.setCell ⟨w.heap.size, 0, none⟩ v').setCell ⟨w.heap.size + 1, 0, none⟩ u')) ∧
    W0.heap.size ≤ ((w1.setCell ⟨w.heap.size, 0, none⟩ v').setCell ⟨w.heap.size + 1, 0, none⟩ u').heap.size := by
  obtain ⟨hbo, hbr, _⟩ := boxes2 bO1 bR1 own1 hne (by omega) hgrow
  have hb := own_block own1
  have hb' := own_block hown'
  have hn1 : ∀ {x : Value} {B : Nat}, (∀ k, x.ownBlock = some k → W0.heap.size ≤ k) → B < W0.heap.size → x.ownBlock = none ∨ x.ownBlock ≠ some B := fun h hB => .inr fun e => by have := h _ e; omega
  have hsA : W0.heap.size ≤ (W.alloc tmp).heap.size := by simp; omega
  refine ⟨(((((KeepsOthers.alloc W tmp).trans (KeepsOthers.of_grownBy hgrow fun j o ej hj => ?_)).trans (KeepsOthers.setCell _ _ _)).trans (KeepsOthers.setCell _ _ _)).from _), ?_, ⟨⟨⟨v', ?_, ?_, trivial⟩, ?_⟩, ?_⟩, ?_⟩
  · rcases (own1.alloc tmp).2 with ⟨rfl, _⟩ | ⟨g, cap, cur, rfl, _, hgb, _⟩
    · simp [Value.ownBlock] at ej
    · obtain rfl : g = j := by simpa [Value.ownBlock] using ej
      rw [hgb] at hj; cases hj; rfl
  · exact ((((Hole.refl w.heap.size (w.heap.size + 1 + 1) W0.heap.size W).alloc hsW tmp).grown hgrow hsA (fun k e => ⟨by have := hb k e; omega, .inr (hb k e)⟩)).set (p := ⟨w.heap.size, 0, none⟩) (Nat.le_refl _) (.inl (by simp; omega)) _).set (p := ⟨w.heap.size + 1, 0, none⟩) (by simp) (.inl (by simp)) _
  · exact (hbo.set v').other (by omega) _
  · rw [lims_snoc, List.length_append, List.length_singleton]
    exact (hown'.kept (grownBy_setCell' w1 w.heap.size v') (hn1 hb' (by omega))).kept (grownBy_setCell' _ (w.heap.size + 1) u') (hn1 hb' (by omega))
  · exact (hbr.other (by omega) v').set u'
  · exact (((hE1.alloc tmp).grown hgrow (fun k e => by have := hb k e; omega)).set (p := ⟨w.heap.size, 0, none⟩) (Nat.le_refl _) _).set (p := ⟨w.heap.size + 1, 0, none⟩) (by simp) _
  · have := hgrow.size
    simp only [World.size_alloc] at this
    simp [World.setCell]; omega

set_option maxRecDepth 100000 in
set_option maxHeartbeats 2000000 in
theorem less_in (a1 a2 : Option Addr) (n1 c1 n2 c2 : Nat) (xs ys : List Nat) (w : World) (h1 : Nums w a1 n1 c1 xs) (h2 : Nums w a2 n2 c2 ys) :
    CallsIn Fence.wide 4 Try.prog 63 #[.slice a1 n1 c1, .slice a2 n2 c2] w (Post w fun v w' => ∃ a n c, v = .slice a n c ∧ Nums w' a n c (limbs (val (subL (prs xs ys (max n1 n2))).1)) ∧ Fresh w.heap.size a) := by
  obtain ⟨i0, hi, hz0, hz1, hz2⟩ := info_parts info_u64
  have f1 := h1.few
  have f2 := h2.few
  refine callsIn_of_wp_marks Try.func63 rfl trivial ?_ rfl
  simp only [Try.ntmps63, List.size_toArray, List.length_cons, List.length_nil, Nat.reduceAdd, Nat.reduceSub, Array.replicate_succ, Array.replicate_zero, List.push_toArray, List.append_toArray, List.nil_append, List.cons_append]
  gi_wp2_with (refine ⟨trivial, ?_⟩; gi_at_call 65; refine (open_wide.calls (pairs_any _ _ _ _ _ _ _ _ _ rfl rfl)).mono ?_; rintro e w' ⟨rfl, rfl⟩)
  have bO := ((((Boxed.new w 26 (.slice none 0 0)).alloc (.cells #[.int .u64 0] 34)).alloc (.cells #[.slice a1 n1 c1] 26)).alloc (.cells #[.slice a2 n2 c2] 26)).alloc (.cells #[.func (.func 82) #[] #[]] 52)
  have bR := (((Boxed.new (w.alloc (.cells #[.slice none 0 0] 26)) 34 (.int .u64 0)).alloc (.cells #[.slice a1 n1 c1] 26)).alloc (.cells #[.slice a2 n2 c2] 26)).alloc (.cells #[.func (.func 82) #[] #[]] 52)
  have bA := ((Boxed.new ((w.alloc (.cells #[.slice none 0 0] 26)).alloc (.cells #[.int .u64 0] 34)) 26 (.slice a1 n1 c1)).alloc (.cells #[.slice a2 n2 c2] 26)).alloc (.cells #[.func (.func 82) #[] #[]] 52)
  have bB := (Boxed.new (((w.alloc (.cells #[.slice none 0 0] 26)).alloc (.cells #[.int .u64 0] 34)).alloc (.cells #[.slice a1 n1 c1] 26)) 26 (.slice a2 n2 c2)).alloc (.cells #[.func (.func 82) #[] #[]] 52)
  have bC := Boxed.new ((((w.alloc (.cells #[.slice none 0 0] 26)).alloc (.cells #[.int .u64 0] 34)).alloc (.cells #[.slice a1 n1 c1] 26)).alloc (.cells #[.slice a2 n2 c2] 26)) 52 (.func (.func 82) #[] #[])
  simp only [World.size_alloc] at bR bA bB bC
  have hE : Ext w (((((w.alloc (.cells #[.slice none 0 0] 26)).alloc (.cells #[.int .u64 0] 34)).alloc (.cells #[.slice a1 n1 c1] 26)).alloc (.cells #[.slice a2 n2 c2] 26)).alloc (.cells #[.func (.func 82) #[] #[]] 52)) := (((((Ext.refl w).alloc _).alloc _).alloc _).alloc _).alloc _
  have hsz : (((((w.alloc (.cells #[.slice none 0 0] 26)).alloc (.cells #[.int .u64 0] 34)).alloc (.cells #[.slice a1 n1 c1] 26)).alloc (.cells #[.slice a2 n2 c2] 26)).alloc (.cells #[.func (.func 82) #[] #[]] 52)).heap.size = w.heap.size + 5 := by simp
  generalize (((((w.alloc (.cells #[.slice none 0 0] 26)).alloc (.cells #[.int .u64 0] 34)).alloc (.cells #[.slice a1 n1 c1] 26)).alloc (.cells #[.slice a2 n2 c2] 26)).alloc (.cells #[.func (.func 82) #[] #[]] 52)) = W0 at *
  refine wpIn_rangeFunc_ownH rfl (by omega) (gf := 83) rfl trivial (enters_of Try.func83 (by kernel_rfl) rfl)
    (pairs_stops (w.heap.size + 1 + 1) a1 a2 n1 c1 n2 c2 xs ys w W0 hE (by omega) h1 h2 bA.cell bB.cell bC.cell) (fun h k => h.trans k) (Hole.put (Nat.le_refl _)) (Below.refl _ _) (fun _ => rfl)
    (fun pre W => (((∃ v, Boxed W w.heap.size 26 v ∧ W.ownsRow W0.heap.size 34 1 v (subL (pre.map Pr.two)).1.length (lims (subL (pre.map Pr.two)).1) ∧ True) ∧ Boxed W (w.heap.size + 1) 34 (.int .u64 ((subL (pre.map Pr.two)).2 : Nat))) ∧ Ext w W) ∧ W0.heap.size ≤ W.heap.size)
    (fun _ _ _ => False)
    (OwnFrom.and (OwnFrom.and (OwnFrom.and (Own.from (holdsRow_own W0.heap.size w.heap.size 26 34 1 (fun (pre : List Pr) => (subL (pre.map Pr.two)).1.length) (fun (pre : List Pr) => lims (subL (pre.map Pr.two)).1) (fun _ _ => True)) _) (Own.from (boxed_own _ _ _) _)) (ownFrom_below (Nat.le_refl _) hE.size)) (ownFrom_size _))
    (fun _ _ _ _ _ hs _ _ => hs)
    ⟨⟨⟨⟨_, bO, World.ownsRow_nil _ _ _ _, trivial⟩, bR⟩, hE⟩, Nat.le_refl _⟩
    (fun x a' W => ∃ Bx, W0.heap.size ≤ Bx ∧ Pair2 W Bx 94 x.x x.y ∧ a' = { tmps := #[.slice a1 n1 c1, .slice a2 n2 c2, undef, undef, .slice none 0 0,
          .pointer (some ⟨w.heap.size, 0, none⟩), .pointer (some ⟨w.heap.size + 1, 0, none⟩), undef, .pointer (some ⟨Bx, 0, none⟩), undef, undef, .slice a1 n1 c1, .slice a2 n2 c2,
          .func (.func 83) #[] #[.pointer (some ⟨w.heap.size + 1 + 1, 0, none⟩), .pointer (some ⟨w.heap.size + 1 + 1 + 1, 0, none⟩), .pointer (some ⟨w.heap.size + 1 + 1 + 1 + 1, 0, none⟩)],
          .int .i64 x.i, .agg #[.int .u64 x.x, .int .u64 x.y], undef, undef, undef, undef, undef, undef, undef, undef, undef, undef, undef, undef, undef, undef, undef, undef], defers := [] })
    (fun x a' _ X Y row hs hg hr => by obtain ⟨Bx, h1, h2, h3⟩ := hs; exact ⟨Bx, h1, h2.kept hg (fun e => by obtain ⟨_, o, ho, hc⟩ := hr _ e.symm; rw [h2] at ho; cases ho; cases hc), h3⟩)
    ?assign ?body ?done ?stop
  case assign =>
    rintro l pre x W K ⟨⟨⟨⟨v, bO1, own1, _⟩, bR1⟩, hE1⟩, hsW⟩ hK
    simp only [Pr.enc]
    gi_wp2
    exact hK _ _ ((KeepsOthers.alloc _ _).from _) ((Hole.refl _ _ _ W).alloc hsW _) ⟨⟨⟨⟨v, bO1.alloc _, own1.alloc _, trivial⟩, bR1.alloc _⟩, hE1.alloc _⟩, by simp; omega⟩ ⟨W.heap.size, hsW, Pair2.new _ _ _ _, rfl⟩
  case body =>
    rintro l pre x a' W hl ⟨r, hr⟩ ⟨⟨⟨⟨v, bO1, own1, _⟩, bR1⟩, hE1⟩, hsW⟩ ⟨Bx, hBx, p2, rfl⟩ hlt
    have d0 := p2.cell0
    have d1 := p2.cell1
    have cO := bO1.cell
    have fO := bO1.frozen
    have cR := bR1.cell
    have fR := bR1.frozen
    clear hr
    have hok := subL_ok (pre.map Pr.two)
    have hsub := run_Sub64 x.x x.y (subL (pre.map Pr.two)).2 x.hx x.hy hok.2.1
    have hlen : (subL (pre.map Pr.two)).1.length ≤ 65536 := by rw [hok.1, List.length_map]; omega
    have HOK := Lib.hid hok
    clear hok
    gi_wp2_with (first | (gi_at_builtin; refine wpListIn_append_own _ rfl _ _ 26 rfl W0.heap.size 34 i0 (.int .u64 0) 1 8 Try.underlying26 hi hz0 hz1 hz2 rfl (by decide) _ _ _ rfl (own1.alloc _) ⟨W.heap.size, 0, none⟩ 1 1 [.int .u64 ((difOf B64 x.x x.y (subL (pre.map Pr.two)).2 : Nat) : Int)] rfl rfl (cell_one_new _ _ _) (by simp [Value.oneCell']) (by unfold maxLen; omega) (by omega) (by simp; omega) ?_; intro v' w1 hown' hgrow _; obtain ⟨g', cap', rfl⟩ := ownsRow_succ hown'; obtain ⟨hbo, hbr, hco, hfo, hcr, hfr⟩ := boxes2 bO1 bR1 own1 (by decide) (by omega) hgrow) | (refine ⟨trivial, ?_⟩))
    have R := round_app (u' := .int .u64 ((borOf x.x x.y (subL (pre.map Pr.two)).2 : Nat) : Int)) (by decide) (by omega) hsW hE1 bO1 bR1 own1 hown' hgrow
    refine ⟨R.1, R.2.1, ?_⟩
    dsimp only
    rw [List.map_append, List.map_singleton, subL_snoc]
    exact R.2.2
  case done =>
    rintro D zs W hD hz ⟨⟨⟨⟨v, bO1, own1, _⟩, bR1⟩, hE1⟩, hsW⟩ hK
    have cO := bO1.cell
    have HZ := Lib.hid hz
    clear hz
    obtain ⟨hok1, hok2, hok3⟩ := subL_ok (zs.map Pr.two)
    have hzl : zs.length = max n1 n2 := by have := congrArg List.length HZ.out; simpa [length_prs] using this
    have hle : (subL (zs.map Pr.two)).1.length ≤ 65536 := by rw [hok1, List.length_map]; omega
    obtain ⟨a', c', rfl, hn⟩ := Nums.of_own own1 hle hok3
    have HK1 := Lib.hid hok1
    have HK3 := Lib.hid hok3
    clear hok1 hok3
    gi_wp2_with (refine ⟨trivial, ?_⟩; gi_at_call 35; refine (open_wide.calls (normal_own _ _ _ _ _ hn)).mono ?_; rintro e w2 ⟨v, rfl, hext2, a2', n2', c2', rfl, hn2, hfr⟩)
    have hK2 := hext2.block hK
    refine ⟨by simp, .inl ⟨_, _, rfl, run_takeDeferred hK2, ?_⟩⟩
    refine ⟨_, results_tmp rfl _ _ _, _, rfl, Below.trans (hE1.trans hext2) (belowK_b (w := w) (Nat.le_refl _) w2 D _ _ (by omega) hK2 rfl rfl), a2', n2', c2', rfl, ?_, fun p hp => Nat.le_trans hE1.size (hfr p hp)⟩
    rw [← HZ.out]
    exact hn2.put hK2 rfl _
  case stop =>
    rintro D c pre W _ _ h _
    exact h.elim

theorem less_own (a1 a2 : Option Addr) (n1 c1 n2 c2 : Nat) (xs ys : List Nat) (w : World) (h1 : Nums w a1 n1 c1 xs) (h2 : Nums w a2 n2 c2 ys) (hle : val ys ≤ val xs) :
    Calls Try.prog 63 #[.slice a1 n1 c1, .slice a2 n2 c2] w (Post w fun v w' => ∃ a n c, v = .slice a n c ∧ Nums w' a n c (limbs (val xs - val ys)) ∧ Fresh w.heap.size a) := by
  have h := callsIn_wide.1 (less_in a1 a2 n1 c1 n2 c2 xs ys w h1 h2)
  rwa [subL_val h1.lt h2.lt (max n1 n2) (by have := h1.len; omega) (by have := h2.len; omega) hle] at h
theorem less_any (a1 a2 : Option Addr) (n1 c1 n2 c2 : Nat) (xs ys : List Nat) (w : World) (h1 : Nums w a1 n1 c1 xs) (h2 : Nums w a2 n2 c2 ys) (hle : val ys ≤ val xs) :
    Calls Try.prog 63 #[.slice a1 n1 c1, .slice a2 n2 c2] w (Post w fun v w' => ∃ a n c, v = .slice a n c ∧ Nums w' a n c (limbs (val xs - val ys))) := by
  refine (less_own a1 a2 n1 c1 n2 c2 xs ys w h1 h2 hle).mono ?_
  rintro e w' ⟨v, rfl, hext, a, n, c, rfl, hn, _⟩
  exact Post.mk hext ⟨a, n, c, rfl, hn⟩
end Go.Proofs.Ytgihjgkpmochcaa

namespace Go.Proofs.Ytgihjgkpmochcaa
open Go.RowKit Go.Shelf

attribute [local go_sem] Oper.semAt_some

theorem addL_ok' (pre : List Pr) : (addL (pre.map Pr.two)).1.length = (pre.map Pr.two).length ∧ (addL (pre.map Pr.two)).2 ≤ 1 ∧ ∀ x ∈ (addL (pre.map Pr.two)).1, x < B64 :=
  addL_ok _ fun p hp => by obtain ⟨q, _, rfl⟩ := List.mem_map.1 hp; exact ⟨q.hx, q.hy⟩

theorem Nums.of_app {w : World} {B e : Nat} {v : Value} {L : List Nat} {x : Nat} (h : w.ownsRow B e 1 v (L.length + 1) (lims L ++ [.int .u64 (x : Int)])) (hf : L.length ≤ 65535) (hx : ∀ y ∈ L, y < B64) (hx' : x < B64) :
    ∃ a c, v = .slice a (L.length + 1) c ∧ Nums w a (L.length + 1) c (L ++ [x]) := by
  have e : (L ++ [x]).length = L.length + 1 := by simp
  rw [← lims_snoc, ← e] at h
  obtain ⟨a, c, hv, hn⟩ := Nums.of_own h (by omega) (fun y hy => by
    rcases List.mem_append.1 hy with hy | hy
    · exact hx y hy
    · rw [List.mem_singleton.1 hy]; exact hx')
  rw [e] at hv hn
  exact ⟨a, c, hv, hn⟩
theorem own_ne {w : World} {base e size n D : Nat} {v : Value} {xs : List Value} {o : Obj} (h : w.ownsRow base e size v n xs) (hD : w.heap[D]? = some o) (ho : o.isCells = false) : some D ≠ v.ownBlock := by
  rcases h.2 with ⟨rfl, _⟩ | ⟨g, cap, cur, rfl, _, hgb, _⟩
  · simp [Value.ownBlock]
  · intro e'
    obtain rfl : D = g := by simpa [Value.ownBlock] using e'
    rw [hgb] at hD; cases hD; cases ho
theorem NRes.put {W : World} {v : Value} {o : Option Nat} (h : NRes W v o) {l : Nat} {o1 : Obj} (hl : W.heap[l]? = some o1) (ho : o1.isCells = false) (o' : Obj) : NRes (W.putObj l o') v o := by
  cases o with
  | some m => obtain ⟨a, n, c, rfl, hn⟩ := h; exact ⟨a, n, c, rfl, hn.put hl ho o'⟩
  | none => exact h
theorem any_two (xs ys : List Nat) : [xs, ys].any isLong = (isLong xs || isLong ys) := by simp

set_option maxRecDepth 100000 in
set_option maxHeartbeats 2000000 in
theorem add_in (a1 a2 : Option Addr) (n1 c1 n2 c2 : Nat) (xs ys : List Nat) (w : World) (h1 : Nums w a1 n1 c1 xs) (h2 : Nums w a2 n2 c2 ys) (hf1 : n1 ≤ 65535) (hf2 : n2 ≤ 65535) (hno : [xs, ys].any isLong = false) :
    CallsIn Fence.wide 4 Try.prog 52 #[.slice a1 n1 c1, .slice a2 n2 c2] w (Post w fun v w' => NRes w' v (fit (val ((addL (prs xs ys (max n1 n2))).1 ++ [(addL (prs xs ys (max n1 n2))).2])))) := by
  obtain ⟨i0, hi, hz0, hz1, hz2⟩ := info_parts info_u64
  have hL : NumsL (w.alloc (.cells #[.slice a1 n1 c1, .slice a2 n2 c2] 26)) (some ⟨w.heap.size, 0, none⟩) 2 [xs, ys] :=
    NumsL.two (by simp) (by simp) (h1.ext (Ext.of_alloc _ _)) (h2.ext (Ext.of_alloc _ _))
  refine callsIn_of_wp_marks Try.func52 rfl trivial ?_ rfl
  simp only [Try.ntmps52, List.size_toArray, List.length_cons, List.length_nil, Nat.reduceAdd, Nat.reduceSub, Array.replicate_succ, Array.replicate_zero, List.push_toArray, List.append_toArray, List.nil_append, List.cons_append]
  gi_wp2_with (first
    | (refine ⟨trivial, ?_⟩; gi_at_call 34; refine (open_wide.calls (long_any _ _ _ _ _ hL)).mono ?_; rintro e w1 ⟨v, rfl, hext1, rfl⟩; rw [hno])
    | (refine ⟨trivial, ?_⟩; gi_at_call 65; refine (open_wide.calls (pairs_any _ _ _ _ _ _ _ _ _ rfl rfl)).mono ?_; rintro e w' ⟨rfl, rfl⟩))
  have hw1 : Ext w w1 := (Ext.of_alloc _ _).trans hext1
  have k1 := h1.ext hw1
  have k2 := h2.ext hw1
  have bO := ((((Boxed.new w1 26 (.slice none 0 0)).alloc (.cells #[.int .u64 0] 34)).alloc (.cells #[.slice a1 n1 c1] 26)).alloc (.cells #[.slice a2 n2 c2] 26)).alloc (.cells #[.func (.func 82) #[] #[]] 52)
  have bR := (((Boxed.new (w1.alloc (.cells #[.slice none 0 0] 26)) 34 (.int .u64 0)).alloc (.cells #[.slice a1 n1 c1] 26)).alloc (.cells #[.slice a2 n2 c2] 26)).alloc (.cells #[.func (.func 82) #[] #[]] 52)
  have bA := ((Boxed.new ((w1.alloc (.cells #[.slice none 0 0] 26)).alloc (.cells #[.int .u64 0] 34)) 26 (.slice a1 n1 c1)).alloc (.cells #[.slice a2 n2 c2] 26)).alloc (.cells #[.func (.func 82) #[] #[]] 52)
  have bB := (Boxed.new (((w1.alloc (.cells #[.slice none 0 0] 26)).alloc (.cells #[.int .u64 0] 34)).alloc (.cells #[.slice a1 n1 c1] 26)) 26 (.slice a2 n2 c2)).alloc (.cells #[.func (.func 82) #[] #[]] 52)
  have bC := Boxed.new ((((w1.alloc (.cells #[.slice none 0 0] 26)).alloc (.cells #[.int .u64 0] 34)).alloc (.cells #[.slice a1 n1 c1] 26)).alloc (.cells #[.slice a2 n2 c2] 26)) 52 (.func (.func 82) #[] #[])
  simp only [World.size_alloc] at bR bA bB bC
  have hE : Ext w1 (((((w1.alloc (.cells #[.slice none 0 0] 26)).alloc (.cells #[.int .u64 0] 34)).alloc (.cells #[.slice a1 n1 c1] 26)).alloc (.cells #[.slice a2 n2 c2] 26)).alloc (.cells #[.func (.func 82) #[] #[]] 52)) := (((((Ext.refl w1).alloc _).alloc _).alloc _).alloc _).alloc _
  have hsz : (((((w1.alloc (.cells #[.slice none 0 0] 26)).alloc (.cells #[.int .u64 0] 34)).alloc (.cells #[.slice a1 n1 c1] 26)).alloc (.cells #[.slice a2 n2 c2] 26)).alloc (.cells #[.func (.func 82) #[] #[]] 52)).heap.size = w1.heap.size + 5 := by simp
  generalize (((((w1.alloc (.cells #[.slice none 0 0] 26)).alloc (.cells #[.int .u64 0] 34)).alloc (.cells #[.slice a1 n1 c1] 26)).alloc (.cells #[.slice a2 n2 c2] 26)).alloc (.cells #[.func (.func 82) #[] #[]] 52)) = W0 at *
  refine wpIn_rangeFunc_ownH rfl (by omega) (gf := 83) rfl trivial (enters_of Try.func83 (by kernel_rfl) rfl)
    (pairs_stops (w1.heap.size + 1 + 1) a1 a2 n1 c1 n2 c2 xs ys w1 W0 hE (by omega) k1 k2 bA.cell bB.cell bC.cell) (fun h k => h.trans k) (Hole.put (Nat.le_refl _)) (Below.refl _ _) (fun _ => rfl)
    (fun pre W => (((∃ v, Boxed W w1.heap.size 26 v ∧ W.ownsRow W0.heap.size 34 1 v (addL (pre.map Pr.two)).1.length (lims (addL (pre.map Pr.two)).1) ∧ True) ∧ Boxed W (w1.heap.size + 1) 34 (.int .u64 ((addL (pre.map Pr.two)).2 : Nat))) ∧ Ext w1 W) ∧ W0.heap.size ≤ W.heap.size)
    (fun _ _ _ => False)
    (OwnFrom.and (OwnFrom.and (OwnFrom.and (Own.from (holdsRow_own W0.heap.size w1.heap.size 26 34 1 (fun (pre : List Pr) => (addL (pre.map Pr.two)).1.length) (fun (pre : List Pr) => lims (addL (pre.map Pr.two)).1) (fun _ _ => True)) _) (Own.from (boxed_own _ _ _) _)) (ownFrom_below (Nat.le_refl _) hE.size)) (ownFrom_size _))
    (fun _ _ _ _ _ hs _ _ => hs)
    ⟨⟨⟨⟨_, bO, World.ownsRow_nil _ _ _ _, trivial⟩, bR⟩, hE⟩, Nat.le_refl _⟩
    (fun x a' W => ∃ Bx, W0.heap.size ≤ Bx ∧ Pair2 W Bx 94 x.x x.y ∧ a' = { tmps := #[.slice a1 n1 c1, .slice a2 n2 c2, undef, undef, .slice none 0 0, .int .i64 0,
          .pointer (some ⟨w1.heap.size, 0, none⟩), .pointer (some ⟨w1.heap.size + 1, 0, none⟩), undef, .pointer (some ⟨Bx, 0, none⟩), undef, undef, .slice a1 n1 c1, .slice a2 n2 c2, .slice (some ⟨w.heap.size, 0, none⟩) 2 2, .bool false, .slice a1 n1 c1, .slice a2 n2 c2,
          .func (.func 83) #[] #[.pointer (some ⟨w1.heap.size + 1 + 1, 0, none⟩), .pointer (some ⟨w1.heap.size + 1 + 1 + 1, 0, none⟩), .pointer (some ⟨w1.heap.size + 1 + 1 + 1 + 1, 0, none⟩)],
          .int .i64 x.i, .agg #[.int .u64 x.x, .int .u64 x.y], undef, undef, undef, undef, undef, undef, undef, undef, undef, undef, undef, undef, undef, undef, undef, undef, undef, undef, undef, undef, undef], defers := [] })
    (fun x a' _ X Y row hs hg hr => by obtain ⟨Bx, h1, h2, h3⟩ := hs; exact ⟨Bx, h1, h2.kept hg (fun e => by obtain ⟨_, o, ho, hc⟩ := hr _ e.symm; rw [h2] at ho; cases ho; cases hc), h3⟩)
    ?assign ?body ?done ?stop
  case assign =>
    rintro l pre x W K ⟨⟨⟨⟨v, bO1, own1, _⟩, bR1⟩, hE1⟩, hsW⟩ hK
    simp only [Pr.enc]
    gi_wp2
    exact hK _ _ ((KeepsOthers.alloc _ _).from _) ((Hole.refl _ _ _ W).alloc hsW _) ⟨⟨⟨⟨v, bO1.alloc _, own1.alloc _, trivial⟩, bR1.alloc _⟩, hE1.alloc _⟩, by simp; omega⟩ ⟨W.heap.size, hsW, Pair2.new _ _ _ _, rfl⟩
  case body =>
    rintro l pre x a' W hl ⟨r, hr⟩ ⟨⟨⟨⟨v, bO1, own1, _⟩, bR1⟩, hE1⟩, hsW⟩ ⟨Bx, hBx, p2, rfl⟩ hlt
    have d0 := p2.cell0
    have d1 := p2.cell1
    have cO := bO1.cell
    have fO := bO1.frozen
    have cR := bR1.cell
    have fR := bR1.frozen
    clear hr
    have hok := addL_ok' pre
    have hsub := run_Add64 x.x x.y (addL (pre.map Pr.two)).2 hok.2.1
    have hlen : (addL (pre.map Pr.two)).1.length ≤ 65536 := by rw [hok.1, List.length_map]; omega
    have HOK := Lib.hid hok
    clear hok
    gi_wp2_with (first | (gi_at_builtin; refine wpListIn_append_own _ rfl _ _ 26 rfl W0.heap.size 34 i0 (.int .u64 0) 1 8 Try.underlying26 hi hz0 hz1 hz2 rfl (by decide) _ _ _ rfl (own1.alloc _) ⟨W.heap.size, 0, none⟩ 1 1 [.int .u64 (((x.x + x.y + (addL (pre.map Pr.two)).2) % B64 : Nat) : Int)] rfl rfl (cell_one_new _ _ _) (by simp [Value.oneCell']) (by unfold maxLen; omega) (by omega) (by simp; omega) ?_; intro v' w2 hown' hgrow _; obtain ⟨g', cap', rfl⟩ := ownsRow_succ hown'; obtain ⟨hbo, hbr, hco, hfo, hcr, hfr⟩ := boxes2 bO1 bR1 own1 (by decide) (by omega) hgrow) | (refine ⟨trivial, ?_⟩))
    have R := round_app (u' := .int .u64 (((x.x + x.y + (addL (pre.map Pr.two)).2) / B64 : Nat) : Int)) (by decide) (by omega) hsW hE1 bO1 bR1 own1 hown' hgrow
    refine ⟨R.1, R.2.1, ?_⟩
    dsimp only
    rw [List.map_append, List.map_singleton, addL_snoc]
    exact R.2.2
  case done =>
    rintro D zs W hD hz ⟨⟨⟨⟨v, bO1, own1, _⟩, bR1⟩, hE1⟩, hsW⟩ hK
    have cO := bO1.cell
    have cR := bR1.cell
    have HZ := Lib.hid hz
    clear hz
    have hok := addL_ok' zs
    have hzl : zs.length = max n1 n2 := by have := congrArg List.length HZ.out; simpa [length_prs] using this
    have hle : (addL (zs.map Pr.two)).1.length ≤ 65535 := by rw [hok.1, List.length_map]; omega
    have HOK := Lib.hid hok
    clear hok
    gi_wp2_with (first
      | (gi_at_builtin; refine wpListIn_append_own _ rfl _ _ 26 rfl W0.heap.size 34 i0 (.int .u64 0) 1 8 Try.underlying26 hi hz0 hz1 hz2 rfl (by decide) _ _ _ rfl (own1.alloc _) ⟨W.heap.size, 0, none⟩ 1 1 [.int .u64 (((addL (zs.map Pr.two)).2 : Nat) : Int)] rfl rfl (cell_one_new _ _ _) (by simp [Value.oneCell']) (by unfold maxLen; omega) (by omega) (by simp; omega) ?_; intro v' w2 hown' hgrow _; have hb := own_block own1; obtain ⟨a', c', rfl, hn⟩ := Nums.of_app hown' hle HOK.out.2.2 (Nat.lt_of_le_of_lt HOK.out.2.1 B64_one))
      | (refine ⟨trivial, ?_⟩; gi_at_call 28; refine (open_wide.calls (told_any _ _ _ _ _ hn)).mono ?_; rintro e w3 ⟨v, rfl, hext3, hres⟩; obtain ⟨ar, nr, cr, kr, rfl, hout⟩ := hres.out))
    have hK1 : (W.alloc (.cells #[.int .u64 (((addL (zs.map Pr.two)).2 : Nat) : Int)] 34)).heap[D]? = some (.deferred (some [])) := (Ext.of_alloc W _).block hK
    have hK2 : w2.heap[D]? = some (.deferred (some [])) := (hgrow.block D (Array.getElem?_eq_some_iff.1 hK1).1 (own_ne (own1.alloc _) hK1 rfl)).trans hK1
    have hK3 := hext3.block hK2
    have hE3 : Ext w w3 := hw1.trans (((hE1.alloc _).grown hgrow (fun k e => by have := hb k e; omega)).trans hext3)
    refine ⟨by simp, .inl ⟨_, _, rfl, run_takeDeferred hK3, ?_⟩⟩
    refine ⟨_, results_tmp2 rfl _ _ _, _, rfl, Below.trans hE3 (belowK_b (w := w) (Nat.le_refl _) w3 D _ _ (by have := hw1.size; omega) hK3 rfl rfl), ?_⟩
    rw [← HZ.out]
    exact hres.put hK3 rfl _
  case stop =>
    rintro D c pre W _ _ h _
    exact h.elim

theorem add_any (a1 a2 : Option Addr) (n1 c1 n2 c2 : Nat) (xs ys : List Nat) (w : World) (h1 : Nums w a1 n1 c1 xs) (h2 : Nums w a2 n2 c2 ys) (hf1 : n1 ≤ 65535) (hf2 : n2 ≤ 65535) :
    Calls Try.prog 52 #[.slice a1 n1 c1, .slice a2 n2 c2] w (Post w fun v w' => NRes w' v (fit (val xs + val ys))) := by
  cases hno : [xs, ys].any isLong with
  | false =>
    have h := callsIn_wide.1 (add_in a1 a2 n1 c1 n2 c2 xs ys w h1 h2 hf1 hf2 hno)
    rwa [addL_val (max n1 n2) (by have := h1.len; omega) (by have := h2.len; omega)] at h
  | true =>
    have hL : NumsL (w.alloc (.cells #[.slice a1 n1 c1, .slice a2 n2 c2] 26)) (some ⟨w.heap.size, 0, none⟩) 2 [xs, ys] :=
      NumsL.two (by simp) (by simp) (h1.ext (Ext.of_alloc _ _)) (h2.ext (Ext.of_alloc _ _))
    have hf : fit (val xs + val ys) = none := by
      unfold fit
      rw [if_neg]
      rw [any_two, Bool.or_eq_true] at hno
      unfold isLong at hno
      simp only [decide_eq_true_eq] at hno
      generalize Top = T at *
      omega
    rw [hf]
    go_enter Try.func52, Try.ntmps52
    go_wp2_with (go_at_call 34; refine (long_any _ _ _ _ _ hL).mono ?_; rintro e w1 ⟨v, rfl, hext1, rfl⟩; rw [hno])
    go_ret2
    exact Post.mk ((Ext.of_alloc _ _).trans hext1) rfl
end Go.Proofs.Ytgihjgkpmochcaa

namespace Go.Proofs.Ytgihjgkpmochcaa
open Go.RowKit

theorem Nums.one {w : World} {b x c : Nat} (h : w.cell? ⟨b, 0, none⟩ = some (.int .u64 x)) (hx : x < B64) (hc : 1 ≤ c) : Nums w (some ⟨b, 0, none⟩) 1 c [x] :=
  ⟨rfl, by omega, hc, by simpa using hx, .inr ⟨b, 0, rfl, fun i hi => by
    obtain rfl : i = 0 := by omega
    simpa using h⟩⟩
theorem val_one (x : Nat) : val [x] = x := by simp [val]
theorem Top_big : B64 ≤ Top := by
  have := (fits_iff (B64 - 1)).1 (Nat.le_trans (length_limbs_le (k := 1) (by rw [Nat.pow_one]; have := B64_pos; omega)) (by omega))
  have := B64_pos
  omega
theorem fit_small {m : Nat} (h : m < B64) : fit m = some m := by
  unfold fit
  rw [if_pos (Nat.lt_of_lt_of_le h Top_big)]

theorem of_any (x : Nat) (hx : x < B64) (w : World) :
    Calls Try.prog 13 #[.int .u64 x] w (Post w fun v w' => ∃ a n c, v = .slice a n c ∧ Nums w' a n c (limbs x)) := by
  go_enter Try.func13, Try.ntmps13
  go_wp2_with (go_at_call 28; refine (told_any _ _ _ [x] _ (Nums.one (by simp) hx (by omega))).mono ?_; rintro e w1 ⟨v, rfl, hext, hres⟩; rw [val_one, fit_small hx] at hres; obtain ⟨a, n, c, rfl, hn⟩ := hres)
  go_ret
  exact Post.mk ((Ext.of_alloc _ _).trans hext) ⟨_, _, _, rfl, hn⟩

theorem norm_any (a : Option Addr) (n c : Nat) (xs : List Nat) (w : World) (h : Nums w a n c xs) :
    Calls Try.prog 23 #[.slice a n c] w (Post w fun v w' => NRes w' v (fit (val xs))) := by
  go_enter Try.func23, Try.ntmps23
  go_wp2_with (go_at_call 28; refine (told_any _ _ _ _ _ h).mono ?_; rintro e w1 ⟨v, rfl, hext, hres⟩; obtain ⟨ar, nr, cr, kr, rfl, hout⟩ := hres.out)
  go_ret2
  exact Post.mk hext hout.res

set_option maxHeartbeats 400000 in
theorem bits_any (a : Option Addr) (n c : Nat) (xs : List Nat) (w : World) (h : Nums w a n c xs) :
    Calls Try.prog 42 #[.slice a n c] w (Post w fun v _ => v = .int .i64 (blen (val xs))) := by
  by_cases h0 : val xs = 0
  · have H0 := Lib.hid h0
    clear h0
    go_enter Try.func42, Try.ntmps42
    go_wp2_with (go_at_call 35; refine (normal_any _ _ _ _ _ h).mono ?_; rintro e w1 ⟨v, rfl, hext1, a', n', c', rfl, hn⟩; rw [H0.out, limbs_zero] at hn; obtain rfl := hn.len)
    go_ret
    exact Post.mk hext1 (by rw [H0.out, blen_zero]; rfl)
  · have hl := length_limbs_pos h0
    have hb := blen_limbs h0
    have hlt := getD_lt (lt_limbs (val xs)) ((limbs (val xs)).length - 1)
    have hbl := bitLen_blen _ hlt
    have HB := Lib.hid hb
    have HBL := Lib.hid hbl
    clear hb hbl
    have hlt' : ((limbs (val xs))[(limbs (val xs)).length - 1]?.getD 0 : Nat) ≤ 18446744073709551615 := by unfold B64 at hlt; omega
    generalize hL : limbs (val xs) = L at *
    have HL := Lib.hid hL
    clear hL h0
    go_enter Try.func42, Try.ntmps42
    go_wp2_with (go_at_call 35; refine (normal_any _ _ _ _ _ h).mono ?_; rintro e w1 ⟨v, rfl, hext1, a', n', c', rfl, hn⟩; rw [HL.out] at hn; obtain rfl := hn.len; have hfew := hn.few; obtain ⟨b, off, rfl, hcell⟩ := hn.at (i := L.length - 1) (by omega))
    refine (Try.bits_Len64 _ _ (by omega) (by omega)).mono ?_
    rintro e w2 ⟨rfl, rfl⟩
    rw [Int.toNat_natCast, HBL.out]
    have hb64 : blen (L[L.length - 1]?.getD 0) ≤ 64 := (blen_iff _ 64).1 hlt
    go_wp2
    go_ret
    exact Post.mk hext1 (by rw [HB.out]; exact congrArg (Value.int .i64) (by omega))

set_option maxHeartbeats 400000 in
theorem sub_any (a1 a2 : Option Addr) (n1 c1 n2 c2 : Nat) (xs ys : List Nat) (w : World) (h1 : Nums w a1 n1 c1 xs) (h2 : Nums w a2 n2 c2 ys) :
    Calls Try.prog 41 #[.slice a1 n1 c1, .slice a2 n2 c2] w (Post w fun v w' => if val xs < Top ∧ val ys < Top then (if val ys ≤ val xs then NRes w' v (some (val xs - val ys)) else v = .tuple #[.slice none 0 0, .int .i64 7]) else NRes w' v none) := by
  have hL : NumsL (w.alloc (.cells #[.slice a1 n1 c1, .slice a2 n2 c2] 26)) (some ⟨w.heap.size, 0, none⟩) 2 [xs, ys] :=
    NumsL.two (by simp) (by simp) (h1.ext (Ext.of_alloc _ _)) (h2.ext (Ext.of_alloc _ _))
  have hlong : [xs, ys].any isLong = decide (¬ (val xs < Top ∧ val ys < Top)) := by
    rw [any_two]
    unfold isLong
    rw [← Bool.decide_or]
    apply decide_eq_decide.2
    omega
  by_cases hl : val xs < Top ∧ val ys < Top
  · rw [decide_eq_false (by simpa using hl)] at hlong
    by_cases hle : val ys ≤ val xs
    · have hc : decide ((cmpN (val xs) (val ys) : Int) < 0) = false := by rw [decide_eq_false_iff_not]; unfold cmpN; rw [if_neg (by omega)]; split <;> omega
      simp only [if_pos hl, if_pos hle]
      go_enter Try.func41, Try.ntmps41
      go_wp2_with (first
        | (go_at_call 34; refine (long_any _ _ _ _ _ hL).mono ?_; rintro e w1 ⟨v, rfl, hext1, rfl⟩; rw [hlong]; have hw1 := (Ext.of_alloc w _).trans hext1)
        | (go_at_call 43; refine (cmp_any _ _ _ _ _ _ _ _ _ (h1.ext hw1) (h2.ext hw1)).mono ?_; rintro e w2 ⟨v, rfl, hext2, rfl⟩; have hw2 := hw1.trans hext2)
        | (go_at_call 63; refine (less_any _ _ _ _ _ _ _ _ _ (h1.ext hw2) (h2.ext hw2) hle).mono ?_; rintro e w3 ⟨v, rfl, hext3, ar, nr, cr, rfl, hn⟩; have hw3 := hw2.trans hext3)
        | (go_at_call 28; refine (told_any _ _ _ _ _ hn).mono ?_; rintro e w4 ⟨v, rfl, hext4, hres⟩; obtain ⟨ar, nr, cr, kr, rfl, hout⟩ := hres.out))
      go_ret2
      refine Post.mk (hw3.trans hext4) ?_
      have := hout.res
      rw [val_limbs] at this
      unfold fit at this
      rwa [if_pos (by omega)] at this
    · have hc : decide ((cmpN (val xs) (val ys) : Int) < 0) = true := by rw [decide_eq_true_eq]; unfold cmpN; rw [if_pos (by omega)]; omega
      simp only [if_pos hl, if_neg hle]
      go_enter Try.func41, Try.ntmps41
      go_wp2_with (first
        | (go_at_call 34; refine (long_any _ _ _ _ _ hL).mono ?_; rintro e w1 ⟨v, rfl, hext1, rfl⟩; rw [hlong]; have hw1 := (Ext.of_alloc w _).trans hext1)
        | (go_at_call 43; refine (cmp_any _ _ _ _ _ _ _ _ _ (h1.ext hw1) (h2.ext hw1)).mono ?_; rintro e w2 ⟨v, rfl, hext2, rfl⟩; have hw2 := hw1.trans hext2))
      go_ret2
      exact Post.mk hw2 rfl
  · rw [decide_eq_true (by simpa using hl)] at hlong
    simp only [if_neg hl]
    go_enter Try.func41, Try.ntmps41
    go_wp2_with (go_at_call 34; refine (long_any _ _ _ _ _ hL).mono ?_; rintro e w1 ⟨v, rfl, hext1, rfl⟩; rw [hlong])
    go_ret2
    exact Post.mk ((Ext.of_alloc _ _).trans hext1) rfl
end Go.Proofs.Ytgihjgkpmochcaa

namespace Go.Proofs.Ytgihjgkpmochcaa
open Go.RowKit

set_option maxRecDepth 100000 in
set_option maxHeartbeats 1000000 in
theorem shift_any (a : Option Addr) (n c : Nat) (xs : List Nat) (k : Nat) (hk : k < 64) (w : World) (h : Nums w a n c xs) (hn : n ≤ 65535) :
    Calls Try.prog 88 #[.slice a n c, .int .i64 k] w (Post w fun v w' => ∃ L, v = .slice (some ⟨w.heap.size, 0, none⟩) (n + 1) (n + 1) ∧ L.length = n + 1 ∧ Row w' w.heap.size 34 L ∧ (∀ x ∈ L, x < B64) ∧ val L = val xs * 2 ^ k) := by
  obtain ⟨i0, hi, hz0, hz1, hz2⟩ := info_parts info_u64
  obtain rfl := h.len
  go_enter Try.func88, Try.ntmps88
  go_wp2_with (at_make; refine wpList_make_row _ rfl _ _ 26 rfl 34 i0 Try.underlying26 hi hz0 hz1 hz2 _ _ _ _ (xs.length + 1) rfl rfl (by omega) (by omega) (by omega) ?_; intro w1 hrow hext hsz)
  have hh := h.ext hext
  go_loopw [14] (fun i wr => ∃ (j : Nat) (L : List Nat), j ≤ xs.length ∧ i = .int .i64 j ∧ Ext w wr ∧ Row wr w.heap.size 34 L ∧ Hid (ShiftOk xs k j L))
    (fun i _ => xs.length - (intOf i).toNat)
  case atStart => exact ⟨0, _, Nat.zero_le _, rfl, hext, hrow, Lib.hid (ShiftOk.start xs k)⟩
  case round =>
    obtain ⟨j, L, hj, rfl, hext1, hrow1, HL⟩ := hrel
    by_cases hlt : j < xs.length
    · obtain ⟨b, off, rfl, hcell⟩ := (h.ext hext1).at hlt
      have hL := HL.out.1
      have cj := hrow1.cell (i := j) (by omega)
      have cj1 := hrow1.cell (i := j + 1) (by omega)
      have fj := hrow1.frozen j
      have fj1 := hrow1.frozen (j + 1)
      have hbd := h.bd j
      have hbdL := getD_lt HL.out.2.1 j
      generalize hx : xs[j]?.getD 0 = x at *
      generalize hy : L[j]?.getD 0 = y at *
      generalize hz : L[j + 1]?.getD 0 = z at *
      have Hx := Lib.hid hx
      have Hy := Lib.hid hy
      have Hz := Lib.hid hz
      clear hx hy hz hh hrow hext hsz
      have hbd' := hbd
      unfold B64 at hbd hbdL
      go_wp2
      refine wp_region_tail 9 (by kernel_rfl) (by kernel_rfl) ?_
      simp only [List.take_succ_cons, List.take_zero, List.drop_succ_cons, List.drop_zero]
      repeat (go_big_quiet_step (fail))
      refine wpQuiet_nil ?_
      rintro _ ⟨nq, rfl⟩
      go_wp2
      refine ⟨⟨j + 1, _, by omega, by go_num, ?_, ?_, Lib.hid (HL.out.step hk hlt Hx.out hbd' Hy.out)⟩, by simp [intOf]; omega⟩
      · exact ((hext1.drewN nq).set (p := ⟨w.heap.size, j, none⟩) (Nat.le_refl _) _).set (p := ⟨w.heap.size, j + 1, none⟩) (Nat.le_refl _) _
      · have hc2 := HL.out.2.2.2.1
        rw [Hy.out] at hc2
        rw [shift_or x y k hk hc2, shift_hi x k hk]
        exact ((hrow1.drewN nq).set j _).set (j + 1) _
    · have hlen := HL.out.1
      have : j = xs.length := by omega
      subst this
      go_wp2
      go_ret
      refine Post.mk hext1 ⟨L, rfl, hlen, hrow1, HL.out.2.1, ?_⟩
      rw [HL.out.2.2.1, pv_add _ _ (Nat.le_refl _)]
end Go.Proofs.Ytgihjgkpmochcaa

namespace Go.Proofs.Ytgihjgkpmochcaa
open Go.RowKit

/-- The slice's cells, one by one. -/
theorem NumsL.at {w : World} {a : Option Addr} {n : Nat} {xss : List (List Nat)} (h : NumsL w a n xss) {j : Nat} (hj : j < xss.length) :
    ∃ b off ai ni ci, a = some ⟨b, off, none⟩ ∧ w.cell? ⟨b, off + j, none⟩ = some (.slice ai ni ci) ∧ Nums w ai ni ci xss[j] := by
  obtain ⟨hl, _, h0 | ⟨b, off, ha, hc⟩⟩ := h
  · omega
  · obtain ⟨ai, ni, ci, h1, h2⟩ := hc j xss[j] (List.getElem?_eq_getElem hj)
    exact ⟨b, off, ai, ni, ci, ha, h1, h2⟩
theorem flatten_take (xss : List (List Nat)) (j : Nat) (hj : j < xss.length) : (xss.take (j + 1)).flatten = (xss.take j).flatten ++ xss[j] := by
  rw [List.take_add_one, List.getElem?_eq_getElem hj, List.flatten_append]
  congr 1
  simp
theorem flatten_take_le (xss : List (List Nat)) (j : Nat) : (xss.take j).flatten.length ≤ xss.flatten.length := by
  conv => rhs; rw [← List.take_append_drop j xss, List.flatten_append, List.length_append]
  omega

end Go.Proofs.Ytgihjgkpmochcaa

namespace Go.Proofs.Ytgihjgkpmochcaa
open Go.RowKit

theorem run_make_u64 (n : Nat) (hn : n ≤ 1000000) (w : World) :
    (Instr.makeSlice 26 (.int .i64 n) (.int .i64 n)).run Try.prog w = .ok (.slice (some ⟨w.heap.size, 0, none⟩) n n) (w.alloc (.cells (lims (List.replicate n 0)).toArray 34)) := by
  obtain ⟨i0, hi, hz0, hz1, hz2⟩ := info_parts info_u64
  have h := run_make (P := Try.prog) w 26 34 i0 (.int .u64 0) Try.underlying26 hi hz0 .i64 .i64 (n : Int) (n : Int) (by omega) (Int.le_refl _) (by rw [hz2]; omega) (by omega)
  rw [hz1, Nat.mul_one, Int.toNat_natCast, show Value.cells (.int .u64 0) = #[Value.int .u64 0] from rfl, madeCells_lims] at h
  exact h

theorem zeros_nums (w : World) (T q : Nat) (hq : q ≤ 65536) : Nums (w.alloc (.cells (lims (List.replicate q 0)).toArray T)) (some ⟨w.heap.size, 0, none⟩) q q (List.replicate q 0) := by
  have h : Row (w.alloc (.cells (lims (List.replicate q 0)).toArray T)) w.heap.size T (List.replicate q 0) := heap_alloc_new w _
  have := h.nums (c := q) (by simp; omega) (by simp) (fun x hx => by rw [(List.mem_replicate.1 hx).2]; exact B64_pos)
  rwa [List.length_replicate] at this
theorem Row.nums' {w : World} {b T n : Nat} {L : List Nat} (h : Row w b T L) (hf : n ≤ 65536) (hl : L.length = n) (hx : ∀ x ∈ L, x < B64) : Nums w (some ⟨b, 0, none⟩) n n L := by
  subst hl; exact h.nums hf (Nat.le_refl _) hx
theorem Row.at_ {w : World} {b b' T : Nat} {L : List Nat} (h : Row w b T L) (e : b = b') : Row w b' T L := e ▸ h
theorem any_one (xs : List Nat) : [xs].any isLong = isLong xs := by simp
theorem isLong_false {xs : List Nat} (h : val xs < Top) : isLong xs = false := by unfold isLong; exact decide_eq_false (by omega)
theorem isLong_true {xs : List Nat} (h : ¬ val xs < Top) : isLong xs = true := by unfold isLong; exact decide_eq_true (by omega)

end Go.Proofs.Ytgihjgkpmochcaa

namespace Go.Proofs.Ytgihjgkpmochcaa
open Go.RowKit

theorem pow_big_aux (K k m : Nat) (h : (limbs (m * 2 ^ k)).length ≤ K) (hm : m ≠ 0) : k < 64 * K := by
  have h2 := lt_of_length_limbs h
  rw [B64_pow] at h2
  have h4 : 2 ^ k ≤ m * 2 ^ k := Nat.le_mul_of_pos_left _ (Nat.pos_of_ne_zero hm)
  exact (Nat.pow_lt_pow_iff_right (a := 2) (by omega)).1 (Nat.lt_of_le_of_lt h4 h2)
theorem pow_big {k : Nat} (hk : ¬ k ≤ 131072) {m : Nat} (hm : m ≠ 0) : ¬ m * 2 ^ k < Top := by
  intro h
  have := pow_big_aux 2048 k m ((fits_iff _).2 h) hm
  omega

set_option maxHeartbeats 400000 in
theorem shr_neg (a : Option Addr) (n c : Nat) (xs : List Nat) (k : Int) (hk : k < 0) (w : World) (h : Nums w a n c xs) (hf : val xs < Top) :
    Calls Try.prog 91 #[.slice a n c, .int .i64 k] w (Post w fun v _ => v = .tuple #[.slice none 0 0, .int .i64 2]) := by
  have hno : [limbs (val xs)].any isLong = false := by rw [any_one]; exact isLong_false (by rw [val_limbs]; exact hf)
  have HNO := Lib.hid hno
  clear hno
  go_enter Try.func91, Try.ntmps91
  go_wp2_with (first
    | (go_at_call 35; refine (normal_any _ _ _ _ _ h).mono ?_; rintro e w1 ⟨v, rfl, hext1, a', n', c', rfl, hn⟩)
    | (go_at_call 34; refine (long_any _ _ _ [limbs (val xs)] _ (NumsL.one (by simp) (hn.ext (Ext.of_alloc _ _)))).mono ?_; rintro e w2 ⟨v, rfl, hext2, rfl⟩; rw [HNO.out]))
  go_ret2
  exact Post.mk (hext1.trans ((Ext.of_alloc _ _).trans hext2)) rfl

theorem Nums.drop {w : World} {b off n c c' : Nat} {xs : List Nat} (h : Nums w (some ⟨b, off, none⟩) n c xs) (k : Nat) (hk : k ≤ n) (hc : n - k ≤ c') : Nums w (some ⟨b, off + k, none⟩) (n - k) c' (xs.drop k) := by
  refine ⟨by simp [h.len], by have := h.few; omega, hc, fun x hx => h.lt x (List.mem_of_mem_drop hx), ?_⟩
  rcases h.at_ with h0 | ⟨b', off', e, hc⟩
  · exact .inl (by omega)
  · cases e
    exact .inr ⟨b, off + k, rfl, fun i hi => by rw [Nat.add_assoc, hc (k + i) (by omega), List.getElem?_drop]⟩
theorem Nums.drop0 {w : World} {b n c c' : Nat} {xs : List Nat} (h : Nums w (some ⟨b, 0, none⟩) n c xs) (k : Nat) (hk : k ≤ n) (hc : n - k ≤ c') : Nums w (some ⟨b, k, none⟩) (n - k) c' (xs.drop k) := by
  have := h.drop k hk hc
  rwa [Nat.zero_add] at this
theorem val_drop (xs : List Nat) (hx : ∀ x ∈ xs, x < B64) (q : Nat) (hq : q ≤ xs.length) : val (xs.drop q) = val xs / B64 ^ q := by
  have h := val_take_drop xs q hq
  have h1 := val_lt (xs := xs.take q) fun x hx' => hx x (List.mem_of_mem_take hx')
  rw [List.length_take, Nat.min_eq_left hq] at h1
  rw [h, Nat.add_mul_div_left _ _ (pow_pos' q), Nat.div_eq_of_lt h1, Nat.zero_add]
theorem div_big {xs : List Nat} (hx : ∀ x ∈ xs, x < B64) {q : Nat} (hq : xs.length ≤ q) (r : Nat) : val xs / 2 ^ (64 * q + r) = 0 := by
  apply Nat.div_eq_of_lt
  refine Nat.lt_of_lt_of_le (val_lt hx) ?_
  rw [B64_pow]
  exact Nat.pow_le_pow_right (by omega) (by omega)
theorem shr_val (v q r : Nat) (hr0 : 0 < r) (hr : r < 64) : (v / B64 ^ q * 2 ^ (64 - r)) / B64 = v / 2 ^ (64 * q + r) := by
  rw [B64_pow, B64_two, div_shift _ _ (by omega), show 64 - (64 - r) = r by omega, Nat.div_div_eq_div_mul, ← Nat.pow_add]

set_option maxRecDepth 100000 in
set_option maxHeartbeats 2000000 in
theorem shr_any (a : Option Addr) (n c : Nat) (xs : List Nat) (k : Nat) (w : World) (h : Nums w a n c xs) (hf : val xs < Top) (hk0 : k ≤ 4611686018427387904) :
    Calls Try.prog 91 #[.slice a n c, .int .i64 k] w (Post w fun v w' => NRes w' v (some (val xs / 2 ^ k))) := by
  have hno : [limbs (val xs)].any isLong = false := by rw [any_one]; exact isLong_false (by rw [val_limbs]; exact hf)
  have hl2 := (fits_iff _).2 hf
  have hv := val_limbs (val xs)
  have hlt := lt_limbs (val xs)
  generalize hL : limbs (val xs) = L at *
  have HL := Lib.hid hL
  have HV := Lib.hid hv
  have HNO := Lib.hid hno
  have HLT := Lib.hid hlt
  clear hL hv hno hlt
  obtain ⟨q, hq⟩ : ∃ q, q = k / 64 := ⟨_, rfl⟩
  obtain ⟨r, hr⟩ : ∃ r, r = k % 64 := ⟨_, rfl⟩
  have hwq : (k : Int) / 64 = (q : Int) := by omega
  have hwr : (k : Int) % 64 = (r : Int) := by omega
  have hr64 : r < 64 := by omega
  have hqk : q ≤ 4611686018427387904 := by omega
  have hqr : k = 64 * q + r := by omega
  have HQ := Lib.hid hqr
  clear hq hr hqr
  by_cases hlen : L.length ≤ q
  · go_enter Try.func91, Try.ntmps91
    go_wp2_with (first
      | (go_at_call 35; refine (normal_any _ _ _ _ _ h).mono ?_; rintro e w1 ⟨v, rfl, hext1, a', n', c', rfl, hn⟩; rw [HL.out] at hn; obtain rfl := hn.len)
      | (go_at_call 34; refine (long_any _ _ _ [L] _ (NumsL.one (by simp) (hn.ext (Ext.of_alloc _ _)))).mono ?_; rintro e w2 ⟨v, rfl, hext2, rfl⟩; rw [HNO.out]))
    go_ret2
    refine Post.mk (hext1.trans ((Ext.of_alloc _ _).trans hext2)) ⟨none, 0, 0, rfl, ?_⟩
    rw [← HV.out, HQ.out, div_big HLT.out hlen, limbs_zero]; exact Nums.nil _ _ _
  · have hfew2 : L.length ≤ 65535 := by omega
    by_cases hr0 : r = 0
    · have hwr' : (k : Int) % 64 = 0 := by omega
      clear hwr
      go_enter Try.func91, Try.ntmps91
      go_wp2_with (first
        | (go_at_call 35; refine (normal_any _ _ _ _ _ h).mono ?_; rintro e w1 ⟨v, rfl, hext1, a', n', c', rfl, hn⟩; rw [HL.out] at hn; obtain rfl := hn.len; have hcap := hn.cap; obtain ⟨b, off, rfl, _⟩ := hn.at (i := 0) (by omega))
        | (go_at_call 34; refine (long_any _ _ _ [L] _ (NumsL.one (by simp) (hn.ext (Ext.of_alloc _ _)))).mono ?_; rintro e w2 ⟨v, rfl, hext2, rfl⟩; rw [HNO.out])
        | (go_at_call 28; refine (told_any _ _ _ (L.drop q) _ ((hn.ext ((Ext.of_alloc _ _).trans hext2)).drop q (by omega) (by omega))).mono ?_; rintro e w5 ⟨v, rfl, hext5, hres⟩; obtain ⟨ar, nr, cr, kr, rfl, hout⟩ := hres.out))
      go_ret2
      refine Post.mk ((hext1.trans ((Ext.of_alloc _ _).trans hext2)).trans hext5) ?_
      have := hout.res
      rw [val_drop L HLT.out q (by omega), HV.out, B64_pow] at this
      rw [HQ.out, hr0, Nat.add_zero]
      unfold fit at this
      rwa [if_pos (Nat.lt_of_le_of_lt (Nat.div_le_self _ _) hf)] at this
    · obtain ⟨s, hs⟩ : ∃ s, s = 64 - r := ⟨_, rfl⟩
      have hws : (64 : Int) - (r : Int) = (s : Int) := by omega
      have hs64 : s < 64 := by omega
      have HS := Lib.hid hs
      clear hs
      go_enter Try.func91, Try.ntmps91
      go_wp2_with (first
        | (go_at_call 35; refine (normal_any _ _ _ _ _ h).mono ?_; rintro e w1 ⟨v, rfl, hext1, a', n', c', rfl, hn⟩; rw [HL.out] at hn; obtain rfl := hn.len; have hcap := hn.cap; obtain ⟨b, off, rfl, _⟩ := hn.at (i := 0) (by omega))
        | (go_at_call 34; refine (long_any _ _ _ [L] _ (NumsL.one (by simp) (hn.ext (Ext.of_alloc _ _)))).mono ?_; rintro e w2 ⟨v, rfl, hext2, rfl⟩; rw [HNO.out])
        | (go_at_call 88; refine (shift_any _ _ _ (L.drop q) s hs64 _ ((hn.ext ((Ext.of_alloc _ _).trans hext2)).drop q (by omega) (by omega)) (by omega)).mono ?_; rintro e w3 ⟨v, rfl, hext3, L', rfl, hl', hrow', hlt', hval'⟩; have hn3 := hrow'.nums' (by omega) hl' hlt')
        | (go_at_call 28; refine (told_any _ _ _ (L'.drop 1) _ (hn3.drop0 1 (by omega) (by omega))).mono ?_; rintro e w5 ⟨v, rfl, hext5, hres⟩; obtain ⟨ar, nr, cr, kr, rfl, hout⟩ := hres.out))
      go_ret2
      refine Post.mk (((hext1.trans ((Ext.of_alloc _ _).trans hext2)).trans hext3).trans hext5) ?_
      have := hout.res
      rw [val_drop L' hlt' 1 (by omega), hval', val_drop L HLT.out q (by omega), HV.out, Nat.pow_one, HS.out, shr_val _ _ _ (by omega) hr64] at this
      rw [HQ.out]
      unfold fit at this
      rwa [if_pos (Nat.lt_of_le_of_lt (Nat.div_le_self _ _) hf)] at this
end Go.Proofs.Ytgihjgkpmochcaa
