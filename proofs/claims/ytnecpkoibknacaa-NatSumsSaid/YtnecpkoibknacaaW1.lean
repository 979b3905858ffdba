/- The leaves of nat and of its reference: Clone, normal, told, bit, digit. -/
import Derived.Test.YtnecpkoibknacaaPlain
import Derived.Test.YtnecpkoibknacaaChecked
namespace Go.Proofs.Ytnecpkoibknacaa
open Go.RowKit

theorem info_u64 : (Try.prog.info? 48).map (fun i => (i.zero, i.size, i.bytes)) = some (some (.int .u64 0), 1, 8) := by kernel_rfl

/-- A slice whose cells, if it has any, came after the first B blocks. -/
def Fresh (B : Nat) (a : Option Addr) : Prop := ∀ p, a = some p → B ≤ p.block
theorem Nums.of_own' {w : World} {B e : Nat} {v : Value} {xs : List Nat} (h : w.ownsRow B e 1 v xs.length (xs.map fun (x : Nat) => Value.int .u64 (x : Int))) (hf : xs.length ≤ 65536) (hx : ∀ x ∈ xs, x < B64) :
    ∃ a c, v = .slice a xs.length c ∧ Nums w a xs.length c xs ∧ Fresh B a := by
  obtain ⟨a, c, rfl, hn⟩ := Nums.of_own h hf hx
  refine ⟨a, c, rfl, hn, fun p hp => ?_⟩
  subst hp
  rcases h.2 with ⟨e, _⟩ | ⟨g, cap, cur, e, hg, _⟩
  · cases e
  · cases e; exact hg

set_option maxHeartbeats 400000 in
theorem clone_own (a : Option Addr) (n c : Nat) (xs : List Nat) (w : World) (h : Nums w a n c xs) :
    Calls Try.prog 63 #[.slice a n c] w (Post w fun v w' => ∃ a' c', v = .slice a' n c' ∧ Nums w' a' n c' xs ∧ Fresh w.heap.size a') := by
  obtain ⟨i0, hi, hz0, hz1, hz2⟩ := info_parts info_u64
  obtain rfl := h.len
  have hfew := h.few
  have e1 := fun w => Lib.run_eql_slice_nil (P := Try.prog) w 23 48 a xs.length c 0 0 Try.underlying23
  by_cases ha : a = none
  · subst ha
    have h0 : xs.length = 0 := by rcases h.at_ with h0 | ⟨b, off, ha, _⟩; exact h0; cases ha
    go_enter Try.func63, Try.ntmps63
    have H0 := Lib.hid h0
    clear h0
    go_wp2
    go_ret
    have h0 := H0.out
    refine Post.mk (Ext.refl _) ⟨none, 0, ?_, ⟨h.len, h.few, by omega, h.lt, .inl h0⟩, fun p hp => by cases hp⟩
    show Value.slice none 0 0 = _
    rw [h0]
  · have ha' : a.isNone = false := by cases a <;> simp_all
    go_enter Try.func63, Try.ntmps63
    go_wp2_with (at_builtin; refine wpList_app w (Ext.of_alloc _ _) rfl _ _ 23 rfl 48 i0 (.int .u64 0) 1 8 Try.underlying23 hi hz0 hz1 hz2 rfl (by decide) _ 0 [] rfl (World.ownsRow_made w _ _ (Nat.le_refl _) (by decide) (by simp)) a xs.length c (xs.map fun (x : Nat) => Value.int .u64 (x : Int)) rfl (by simp) (h.cells.ext (Ext.of_alloc _ _)) (oneCell_u64 _) (by omega) (by omega) ?_; intro v' w1 hown hext _)
    go_ret
    rw [Nat.zero_add, List.nil_append] at hown
    obtain ⟨a', c', rfl, hn⟩ := Nums.of_own' hown hfew h.lt
    exact Post.mk hext ⟨_, _, rfl, hn⟩

theorem clone_any (a : Option Addr) (n c : Nat) (xs : List Nat) (w : World) (h : Nums w a n c xs) :
    Calls Try.prog 63 #[.slice a n c] w (Post w fun v w' => ∃ a' c', v = .slice a' n c' ∧ Nums w' a' n c' xs) := by
  refine (clone_own a n c xs w h).mono ?_
  rintro e w' ⟨v, rfl, hext, a', c', rfl, hn, _⟩
  exact Post.mk hext ⟨a', c', rfl, hn⟩

/-- How many limbs are left without zeros on top. -/
def nz (xs : List Nat) : Nat → Nat
  | 0 => 0
  | k + 1 => if xs[k]?.getD 0 = 0 then nz xs k else k + 1
theorem nz_le (xs : List Nat) (k : Nat) : nz xs k ≤ k := by
  induction k with
  | zero => exact Nat.le_refl _
  | succ k ih => rw [nz]; split <;> omega
theorem nz_zero (xs : List Nat) (k : Nat) : ∀ i, nz xs k ≤ i → i < k → xs[i]?.getD 0 = 0 := by
  induction k with
  | zero => intro i _ h; omega
  | succ k ih =>
    intro i h1 h2
    rw [nz] at h1
    split at h1
    · by_cases hi : i = k
      · subst hi; assumption
      · exact ih i h1 (by omega)
    · omega
theorem nz_top (xs : List Nat) (k : Nat) : nz xs k = 0 ∨ xs[nz xs k - 1]?.getD 0 ≠ 0 := by
  induction k with
  | zero => exact .inl rfl
  | succ k ih =>
    rw [nz]
    split
    · exact ih
    · right; simpa
theorem take_nz {xs : List Nat} (hx : ∀ x ∈ xs, x < B64) : xs.take (nz xs xs.length) = limbs (val xs) := by
  refine take_normal (nz_le _ _) hx (fun i hi => ?_) (nz_top _ _)
  by_cases h : i < xs.length
  · exact nz_zero _ _ i hi h
  · rw [List.getElem?_eq_none (by omega)]; rfl

set_option maxHeartbeats 400000 in
theorem normal_own (a : Option Addr) (n c : Nat) (xs : List Nat) (w : World) (h : Nums w a n c xs) :
    Calls Try.prog 41 #[.slice a n c] w (Post w fun v w' => ∃ a' n' c', v = .slice a' n' c' ∧ Nums w' a' n' c' (limbs (val xs)) ∧ Fresh w.heap.size a') := by
  have hfew := h.few
  have hcap := h.cap
  go_enter Try.func41, Try.ntmps41
  go_wp2
  go_loopw [3] (fun k wr => ∃ j : Nat, j ≤ n ∧ k = .int .i64 j ∧ nz xs j = nz xs n ∧ Ext w wr) (fun k _ => (intOf k).toNat)
  case atStart => exact ⟨n, Nat.le_refl _, rfl, rfl, Ext.refl _⟩
  case round =>
    obtain ⟨j, hj, rfl, hnz, hext⟩ := hrel
    have Hnz := Lib.hid hnz
    clear hnz
    by_cases h0 : j = 0
    · subst h0
      go_wp2_with (go_at_call 63; refine (clone_own _ _ _ _ _ ((h.take 0 0 (by omega) (by omega)).ext hext)).mono ?_; rintro e w1 ⟨v, rfl, hext1, a', c', rfl, hn, hfr⟩)
      go_ret
      refine Post.mk (hext.trans hext1) ⟨a', 0, c', rfl, ?_, fun p hp => Nat.le_trans hext.size (hfr p hp)⟩
      have e := take_nz h.lt
      rw [h.len, ← Hnz.out, nz] at e
      rw [← e]; exact hn
    · obtain ⟨j, rfl⟩ : ∃ i, j = i + 1 := ⟨j - 1, by omega⟩
      rcases h.at_ with h0 | ⟨b, off, rfl, hc⟩
      · omega
      have hcell := hext.cell (hc j (by omega))
      clear hc
      have hbd := h.bd j
      by_cases hz : xs[j]?.getD 0 = 0
      · have hz' : (((xs[j]?.getD 0 : Nat) : Int) == 0) = true := by rw [hz]; rfl
        have Hz := Lib.hid hz
        clear hz
        go_wp2
        go_roundw
        case rel => exact ⟨j, by omega, by go_num, by rw [← Hnz.out, nz, if_pos Hz.out], hext⟩
        case measure => simp [intOf]
      · have hz' : (((xs[j]?.getD 0 : Nat) : Int) == 0) = false := by simp [hz]
        go_wp2_with (go_at_call 63; refine (clone_own _ _ _ _ _ ((h.take (j + 1) (j + 1) (by omega) (by omega)).ext hext)).mono ?_; rintro e w1 ⟨v, rfl, hext1, a', c', rfl, hn, hfr⟩)
        go_ret
        refine Post.mk (hext.trans hext1) ⟨a', _, c', rfl, ?_, fun p hp => Nat.le_trans hext.size (hfr p hp)⟩
        have e := take_nz h.lt
        rw [h.len, ← Hnz.out, nz, if_neg hz] at e
        rw [← e]; exact hn

theorem normal_any (a : Option Addr) (n c : Nat) (xs : List Nat) (w : World) (h : Nums w a n c xs) :
    Calls Try.prog 41 #[.slice a n c] w (Post w fun v w' => ∃ a' n' c', v = .slice a' n' c' ∧ Nums w' a' n' c' (limbs (val xs))) := by
  refine (normal_own a n c xs w h).mono ?_
  rintro e w' ⟨v, rfl, hext, a', n', c', rfl, hn, _⟩
  exact Post.mk hext ⟨a', n', c', rfl, hn⟩

/-- A number, or the error that it is too long. -/
def NRes (w : World) (v : Value) : Option Nat → Prop
  | some m => ∃ a n c, v = .tuple #[.slice a n c, .int .i64 0] ∧ Nums w a n c (limbs m)
  | none => v = .tuple #[.slice none 0 0, .int .i64 3]
/-- The same, with the value taken apart. -/
def NOut (w : World) (a : Option Addr) (n c : Nat) (k : Int) : Option Nat → Prop
  | some m => k = 0 ∧ Nums w a n c (limbs m)
  | none => k = 3 ∧ a = none ∧ n = 0 ∧ c = 0
theorem NRes.out {w : World} {v : Value} {o : Option Nat} (h : NRes w v o) : ∃ a n c k, v = .tuple #[.slice a n c, .int .i64 k] ∧ NOut w a n c k o := by
  cases o with
  | some m => obtain ⟨a, n, c, rfl, hn⟩ := h; exact ⟨a, n, c, 0, rfl, rfl, hn⟩
  | none => exact ⟨none, 0, 0, 3, h, rfl, rfl, rfl, rfl⟩
theorem NOut.res {w : World} {a : Option Addr} {n c : Nat} {k : Int} {o : Option Nat} (h : NOut w a n c k o) : NRes w (.tuple #[.slice a n c, .int .i64 k]) o := by
  cases o with
  | some m => obtain ⟨rfl, hn⟩ := h; exact ⟨a, n, c, rfl, hn⟩
  | none => obtain ⟨rfl, rfl, rfl, rfl⟩ := h; rfl
theorem NRes.ext {w w' : World} {v : Value} {o : Option Nat} (h : NRes w v o) (e : Ext w w') : NRes w' v o := by
  cases o with
  | some m => obtain ⟨a, n, c, rfl, hn⟩ := h; exact ⟨a, n, c, rfl, hn.ext e⟩
  | none => exact h
/-- What can be told of a number. -/
def fit (m : Nat) : Option Nat := if m < Top then some m else none

theorem told_any (a : Option Addr) (n c : Nat) (xs : List Nat) (w : World) (h : Nums w a n c xs) :
    Calls Try.prog 43 #[.slice a n c] w (Post w fun v w' => NRes w' v (fit (val xs))) := by
  unfold fit
  by_cases hf : val xs < Top
  · rw [if_pos hf]
    rw [← fits_iff] at hf
    go_enter Try.func43, Try.ntmps43
    go_wp2_with (go_at_call 41; refine (normal_any _ _ _ _ _ h).mono ?_; rintro e w1 ⟨v, rfl, hext1, a', n', c', rfl, hn⟩; obtain rfl := hn.len)
    · have h0 : (((limbs (val xs)).length : Int) == 0) = true := by assumption
      have h0 : limbs (val xs) = [] := by simpa using h0
      go_ret2
      refine Post.mk hext1 ⟨none, 0, 0, rfl, ?_⟩
      rw [h0]; exact Nums.nil _ _ _
    · go_ret2
      exact Post.mk hext1 ⟨_, _, _, rfl, hn⟩
  · rw [if_neg hf]
    rw [← fits_iff] at hf
    go_enter Try.func43, Try.ntmps43
    go_wp2_with (go_at_call 41; refine (normal_any _ _ _ _ _ h).mono ?_; rintro e w1 ⟨v, rfl, hext1, a', n', c', rfl, hn⟩; obtain rfl := hn.len)
    go_ret2
    exact Post.mk hext1 rfl

/-- A bit of a number. -/
theorem Calls.ret {P : Program} {f : FuncId} {args : Array Value} {w : World} {v v' : Value} (h : Calls P f args w fun e w' => e = .returned v ∧ w' = w) (e : v = v') :
    Calls P f args w fun e w' => e = .returned v' ∧ w' = w := e ▸ h

def digitF (xs : List Nat) (i : Nat) : Nat := if i % 2 = 0 then xs[i / 2]?.getD 0 % 4294967296 else xs[i / 2]?.getD 0 / 4294967296

set_option maxHeartbeats 400000 in
theorem digit_any (a : Option Addr) (n c : Nat) (xs : List Nat) (i : Nat) (w : World) (h : Nums w a n c xs) (hi : i ≤ 1000000) :
    Calls Try.prog 53 #[.slice a n c, .int .i64 i] w fun e w' => e = .returned (.int .u64 (digitF xs i)) ∧ w = w' := by
  obtain rfl := h.len
  have hfew := h.few
  unfold digitF
  have hbd := h.bd (i / 2)
  unfold B64 at hbd
  by_cases hn : xs.length ≤ i / 2
  · rw [List.getElem?_eq_none hn]
    go_enter Try.func53, Try.ntmps53
    go_wp2
    all_goals
      go_ret
      exact ⟨by simp, rfl⟩
  · rcases h.at_ with h0 | ⟨b, off, rfl, hc⟩
    · omega
    have hcell := hc (i / 2) (by omega)
    clear hc
    by_cases h2 : i % 2 = 0
    · rw [if_pos h2]
      go_enter Try.func53, Try.ntmps53
      go_wp2
      go_ret
      exact ⟨by simp, rfl⟩
    · rw [if_neg h2]
      go_enter Try.func53, Try.ntmps53
      go_wp2
      go_ret
      exact ⟨by simp, rfl⟩
end Go.Proofs.Ytnecpkoibknacaa
