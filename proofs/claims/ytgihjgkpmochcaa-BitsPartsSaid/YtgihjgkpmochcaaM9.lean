/- Parts of the proof: contracts of the functions that the law reaches, and the arithmetic that they rest on; no condition beyond those that each theorem states. -/
import Derived.WalkLawsBesides
import Derived.Defers
import Derived.Recover
import Derived.Deep.RegionWith
import Derived.Deep.RegionHeld3
import Derived.Test.YtgihjgkpmochcaaM4

namespace Go.Proofs.Ytgihjgkpmochcaa
open Go.RowKit

@[simp] theorem lt_two (n : Nat) : n < n + 1 + 1 := by omega
@[simp] theorem lt_three (n : Nat) : n < n + 1 + 1 + 1 := by omega
@[simp] theorem lt_four (n : Nat) : n < n + 1 + 1 + 1 + 1 := by omega
@[simp] theorem lt_five (n : Nat) : n < n + 1 + 1 + 1 + 1 + 1 := by omega
@[simp] theorem lt_six (n : Nat) : n < n + 1 + 1 + 1 + 1 + 1 + 1 := by omega
theorem IsN.sl {w : World} {v : Value} {m : Nat} (h : IsN w v m) : ∃ a n c, v = .slice a n c := by
  obtain ⟨a, n, c, xs, rfl, _⟩ := h
  exact ⟨a, n, c, rfl⟩
theorem Num.sl {w : World} {v : Value} {m : Nat} (h : Num w v m) : ∃ a n c, v = .slice a n c := h.is.sl
theorem blen_ne {m : Nat} (h : m ≠ 0) : blen m ≠ 0 := by
  unfold blen
  simp [h]
/-- What lay is read as it was. -/
theorem Ext.look {W w1 : World} (h : Ext W w1) : (∀ b o, b < W.heap.size → w1.cell? ⟨b, o, none⟩ = W.cell? ⟨b, o, none⟩) ∧ (∀ b o, b < W.heap.size → w1.frozen? ⟨b, o, none⟩ = W.frozen? ⟨b, o, none⟩) :=
  ⟨fun b o hb => Below.cell (p := ⟨b, o, none⟩) h hb, fun b o hb => Below.frozen (p := ⟨b, o, none⟩) h hb⟩

theorem Ext.looka {W w1 : World} (h : Ext W w1) : (∀ O b o, b < W.heap.size → (w1.alloc O).cell? ⟨b, o, none⟩ = W.cell? ⟨b, o, none⟩) ∧ (∀ O b o, b < W.heap.size → (w1.alloc O).frozen? ⟨b, o, none⟩ = W.frozen? ⟨b, o, none⟩) :=
  ⟨fun O => ((h.alloc O).look).1, fun O => ((h.alloc O).look).2⟩
/-- Is the cell a limb? -/
def isU : Value → Bool
  | .int .u64 _ => true
  | _ => false
/-- The second world has all the limbs that the first one had. -/
def Keeps (w w' : World) : Prop := ∀ p x, w.cell? p = some (.int .u64 x) → w'.cell? p = some (.int .u64 x)
theorem Keeps.refl (w : World) : Keeps w w := fun _ _ h => h
theorem Keeps.trans {a b c : World} (h : Keeps a b) (k : Keeps b c) : Keeps a c := fun p x hp => k p x (h p x hp)
theorem Ext.keeps {a b : World} (h : Ext a b) : Keeps a b := fun _ _ hp => h.cell hp
theorem Keeps.alloc {a b : World} (h : Keeps a b) (o : Obj) : Keeps a (b.alloc o) := h.trans (Ext.of_alloc b o).keeps
theorem Keeps.drew {a b : World} (h : Keeps a b) : Keeps a b.drew := h.trans ((Ext.refl b).drew).keeps
theorem Keeps.drewN {a b : World} (h : Keeps a b) (n : Nat) : Keeps a (b.drewN n) := h.trans ((Ext.refl b).drewN n).keeps
theorem Keeps.set {a b : World} (h : Keeps a b) {p : Addr} (hp : ∃ v, b.cell? p = some v ∧ isU v = false) (u : Value) : Keeps a (b.setCell p u) := by
  obtain ⟨v, hv, hu⟩ := hp
  intro q x hq
  have hb := h q x hq
  rw [World.cell?_setCell_other]
  · exact hb
  · intro e
    subst e
    rw [hv] at hb
    cases hb
    cases hu
theorem Nums.keep {w w' : World} {a : Option Addr} {n c : Nat} {xs : List Nat} (h : Nums w a n c xs) (e : Keeps w w') : Nums w' a n c xs :=
  ⟨h.len, h.few, h.cap, h.lt, h.at_.imp id fun ⟨b, off, ha, hc⟩ => ⟨b, off, ha, fun i hi => e _ _ (hc i hi)⟩⟩
theorem IsN.keep {w w' : World} {v : Value} {m : Nat} (h : IsN w v m) (e : Keeps w w') : IsN w' v m := by
  obtain ⟨a, n, c, xs, rfl, h, hn, hv⟩ := h
  exact ⟨a, n, c, xs, rfl, h.keep e, hn, hv⟩
theorem Num.keep {w w' : World} {v : Value} {m : Nat} (h : Num w v m) (e : Keeps w w') : Num w' v m := by
  obtain ⟨ht, a, n, c, rfl, h⟩ := h
  exact ⟨ht, a, n, c, rfl, h.keep e⟩

theorem zero_any (a : Option Addr) (n c : Nat) (m : Nat) (w : World) (h : IsN w (.slice a n c) m) :
    Calls Try.prog 87 #[.agg #[.slice a n c]] w (Post w fun v _ => v = .bool (decide (m = 0))) := by
  by_cases h0 : m = 0
  · subst h0
    go_enter Try.func87, Try.ntmps87
    go_wp2_with fail
    refine (bits_n (h.ext (by repeat (first | with_reducible exact Ext.refl _ | with_reducible assumption | (with_reducible refine Ext.alloc ?_ _) | (with_reducible refine Ext.drew ?_) | (with_reducible refine Ext.drewN ?_ _) | (with_reducible refine Ext.set ?_ (by first | (simp; done) | (simp; omega)) _) | (with_reducible refine Ext.trans ?_ (by with_reducible assumption)))))).mono ?_
    rintro e w' ⟨_, rfl, E1, rfl⟩
    go_wp2
    go_ret
    exact Post.mk (by repeat (first | with_reducible exact Ext.refl _ | with_reducible assumption | (with_reducible refine Ext.alloc ?_ _) | (with_reducible refine Ext.drew ?_) | (with_reducible refine Ext.drewN ?_ _) | (with_reducible refine Ext.set ?_ (by first | (simp; done) | (simp; omega)) _) | (with_reducible refine Ext.trans ?_ (by with_reducible assumption)))) (by simp [blen_zero])
  · have hb := blen_ne h0
    go_enter Try.func87, Try.ntmps87
    go_wp2_with fail
    refine (bits_n (h.ext (by repeat (first | with_reducible exact Ext.refl _ | with_reducible assumption | (with_reducible refine Ext.alloc ?_ _) | (with_reducible refine Ext.drew ?_) | (with_reducible refine Ext.drewN ?_ _) | (with_reducible refine Ext.set ?_ (by first | (simp; done) | (simp; omega)) _) | (with_reducible refine Ext.trans ?_ (by with_reducible assumption)))))).mono ?_
    rintro e w' ⟨_, rfl, E1, rfl⟩
    go_wp2
    go_ret
    exact Post.mk (by repeat (first | with_reducible exact Ext.refl _ | with_reducible assumption | (with_reducible refine Ext.alloc ?_ _) | (with_reducible refine Ext.drew ?_) | (with_reducible refine Ext.drewN ?_ _) | (with_reducible refine Ext.set ?_ (by first | (simp; done) | (simp; omega)) _) | (with_reducible refine Ext.trans ?_ (by with_reducible assumption)))) (by simp [h0, hb])

theorem of_z (g : Bool) (a : Option Addr) (n c : Nat) (m : Nat) (w : World) (h : IsN w (.slice a n c) m) :
    Calls Try.prog 85 #[.agg #[.bool g, .slice a n c]] w (Post w fun r _ => r = .agg #[.slice a n c, .bool (g && !decide (m = 0))]) := by
  cases g
  · go_enter Try.func85, Try.ntmps85
    go_wp2
    exact bodyPost_ret (v := .agg #[.slice a n c, .bool false]) (by simp [results, Try.results85, go_sem]) rfl (Post.mk (by repeat (first | with_reducible exact Ext.refl _ | with_reducible assumption | (with_reducible refine Ext.alloc ?_ _) | (with_reducible refine Ext.drew ?_) | (with_reducible refine Ext.drewN ?_ _) | (with_reducible refine Ext.set ?_ (by first | (simp; done) | (simp; omega)) _) | (with_reducible refine Ext.trans ?_ (by with_reducible assumption)))) (by simp))
  · go_enter Try.func85, Try.ntmps85
    go_wp2_with fail
    refine (zero_any a n c m _ (h.ext (by repeat (first | with_reducible exact Ext.refl _ | with_reducible assumption | (with_reducible refine Ext.alloc ?_ _) | (with_reducible refine Ext.drew ?_) | (with_reducible refine Ext.drewN ?_ _) | (with_reducible refine Ext.set ?_ (by first | (simp; done) | (simp; omega)) _) | (with_reducible refine Ext.trans ?_ (by with_reducible assumption)))))).mono ?_
    rintro e w' ⟨_, rfl, E1, rfl⟩
    obtain ⟨hc, hf⟩ := E1.look
    have hz := E1.size
    simp at hz
    go_wp2
    exact bodyPost_ret (v := .agg #[.slice a n c, .bool (!decide (m = 0))]) (by simp [results, Try.results85, go_sem, hc]) rfl (Post.mk (by repeat (first | with_reducible exact Ext.refl _ | with_reducible assumption | (with_reducible refine Ext.alloc ?_ _) | (with_reducible refine Ext.drew ?_) | (with_reducible refine Ext.drewN ?_ _) | (with_reducible refine Ext.set ?_ (by first | (simp; done) | (simp; omega)) _) | (with_reducible refine Ext.trans ?_ (by with_reducible assumption)))) (by simp))
end Go.Proofs.Ytgihjgkpmochcaa

namespace Go.Proofs.Ytgihjgkpmochcaa
open Go.RowKit

/-- The value is an integer: of this sign, of this size. -/
def IsZ (w : World) (v : Value) (g : Bool) (m : Nat) : Prop := ∃ a n c, v = .agg #[.bool g, .slice a n c] ∧ IsN w (.slice a n c) m
/-- The same, normal. -/
def ZNum (w : World) (v : Value) (g : Bool) (m : Nat) : Prop := ∃ a n c, v = .agg #[.bool g, .slice a n c] ∧ Num w (.slice a n c) m ∧ (g = true → m ≠ 0)
theorem IsZ.ext {w w' : World} {v : Value} {g : Bool} {m : Nat} (h : IsZ w v g m) (e : Ext w w') : IsZ w' v g m := by
  obtain ⟨a, n, c, rfl, h⟩ := h
  exact ⟨a, n, c, rfl, h.ext e⟩
theorem ZNum.ext {w w' : World} {v : Value} {g : Bool} {m : Nat} (h : ZNum w v g m) (e : Ext w w') : ZNum w' v g m := by
  obtain ⟨a, n, c, rfl, h, k⟩ := h
  exact ⟨a, n, c, rfl, h.ext e, k⟩
theorem IsZ.keep {w w' : World} {v : Value} {g : Bool} {m : Nat} (h : IsZ w v g m) (e : Keeps w w') : IsZ w' v g m := by
  obtain ⟨a, n, c, rfl, h⟩ := h
  exact ⟨a, n, c, rfl, h.keep e⟩
theorem ZNum.keep {w w' : World} {v : Value} {g : Bool} {m : Nat} (h : ZNum w v g m) (e : Keeps w w') : ZNum w' v g m := by
  obtain ⟨a, n, c, rfl, h, k⟩ := h
  exact ⟨a, n, c, rfl, h.keep e, k⟩
theorem ZNum.is {w : World} {v : Value} {g : Bool} {m : Nat} (h : ZNum w v g m) : IsZ w v g m := by
  obtain ⟨a, n, c, rfl, h, _⟩ := h
  exact ⟨a, n, c, rfl, h.is⟩
/-- The sign of a normal integer. -/
def sg (g : Bool) (m : Nat) : Bool := g && !decide (m = 0)
theorem sg_ne {g : Bool} {m : Nat} (h : sg g m = true) : m ≠ 0 := by simp [sg] at h; exact h.2
/-- An integer, and no error. -/
def ZOk (w : World) (v : Value) (g : Bool) (m : Nat) : Prop := ∃ x, v = .tuple #[x, .int .i64 0] ∧ ZNum w x g m

set_option maxHeartbeats 400000 in
theorem ztold_ok (g : Bool) (a : Option Addr) (n c m : Nat) (w : World) (h : IsN w (.slice a n c) m) (ht : m < Top) :
    Calls Try.prog 57 #[.bool g, .slice a n c, .int .i64 0] w (Post w fun v w' => ZOk w' v (sg g m) m) := by
  have fin : ∀ (x : Option Addr) (k d : Nat) (w' : World), Num w' (.slice x k d) m → (g && decide ((0 : Int) < k)) = sg g m := by
    intro x k d w' hx
    obtain ⟨_, x', k', d', he, hn⟩ := hx
    cases he
    have h1 := hn.len
    unfold sg
    by_cases h0 : m = 0
    · subst h0
      rw [limbs_zero] at h1
      simp at h1
      simp [← h1]
    · have : 0 < k := by
        cases k with
        | zero =>
          have e := List.eq_nil_of_length_eq_zero h1
          have := val_limbs m
          rw [e] at this
          exact absurd this.symm h0
        | succ k => omega
      simp [h0, this]
  cases g
  · go_enter Try.func57, Try.ntmps57
    go_wp2_with fail
    refine (norm_n (h.ext (by repeat (first | with_reducible exact Ext.refl _ | with_reducible assumption | (with_reducible refine Ext.alloc ?_ _) | (with_reducible refine Ext.drew ?_) | (with_reducible refine Ext.drewN ?_ _) | (with_reducible refine Ext.set ?_ (by first | (simp; done) | (simp; omega)) _) | (with_reducible refine Ext.trans ?_ (by with_reducible assumption))))) ht).mono ?_
    rintro e w' ⟨_, rfl, E1, x, rfl, hx⟩
    obtain ⟨a', n', c', rfl⟩ := hx.sl
    have hfin := Lib.hid (fin a' n' c' w' hx)
    clear fin
    obtain ⟨hc, hf⟩ := E1.look
    have hz := E1.size
    simp at hz
    go_wp2
    refine bodyPost_ret (v := .tuple #[.agg #[.bool false, .slice a' n' c'], .int .i64 0]) (by simp [results, Try.results57, go_sem, hc]) rfl (Post.mk (by repeat (first | with_reducible exact Ext.refl _ | with_reducible assumption | (with_reducible refine Ext.alloc ?_ _) | (with_reducible refine Ext.drew ?_) | (with_reducible refine Ext.drewN ?_ _) | (with_reducible refine Ext.set ?_ (by first | (simp; done) | (simp; omega)) _) | (with_reducible refine Ext.trans ?_ (by with_reducible assumption)))) ⟨_, rfl, a', n', c', by rw [← hfin.out]; simp, (hx.keep (by repeat (first | with_reducible exact Keeps.refl _ | with_reducible assumption | (with_reducible refine Keeps.alloc ?_ _) | (with_reducible refine Keeps.drew ?_) | (with_reducible refine Keeps.drewN ?_ _) | (with_reducible refine Keeps.set ?_ (by simp [go_sem, isU, *]) _) | (with_reducible refine Keeps.trans ?_ (Ext.keeps (by with_reducible assumption))) | (with_reducible refine Keeps.trans ?_ (by with_reducible assumption))))), fun h0 => sg_ne h0⟩)
  · by_cases h0 : m = 0
    · subst h0
      go_enter Try.func57, Try.ntmps57
      go_wp2_with fail
      refine (norm_n (h.ext (by repeat (first | with_reducible exact Ext.refl _ | with_reducible assumption | (with_reducible refine Ext.alloc ?_ _) | (with_reducible refine Ext.drew ?_) | (with_reducible refine Ext.drewN ?_ _) | (with_reducible refine Ext.set ?_ (by first | (simp; done) | (simp; omega)) _) | (with_reducible refine Ext.trans ?_ (by with_reducible assumption))))) ht).mono ?_
      rintro e w' ⟨_, rfl, E1, x, rfl, hx⟩
      obtain ⟨a', n', c', rfl⟩ := hx.sl
      have hn : n' = 0 := by
        have := fin a' n' c' w' hx
        simp [sg] at this
        omega
      subst hn
      clear fin
      obtain ⟨hc, hf⟩ := E1.look
      have hz := E1.size
      simp at hz
      go_wp2
      refine bodyPost_ret (v := .tuple #[.agg #[.bool false, .slice a' 0 c'], .int .i64 0]) (by simp [results, Try.results57, go_sem, hc]) rfl (Post.mk (by repeat (first | with_reducible exact Ext.refl _ | with_reducible assumption | (with_reducible refine Ext.alloc ?_ _) | (with_reducible refine Ext.drew ?_) | (with_reducible refine Ext.drewN ?_ _) | (with_reducible refine Ext.set ?_ (by first | (simp; done) | (simp; omega)) _) | (with_reducible refine Ext.trans ?_ (by with_reducible assumption)))) ⟨_, rfl, a', 0, c', by simp [sg], (hx.keep (by repeat (first | with_reducible exact Keeps.refl _ | with_reducible assumption | (with_reducible refine Keeps.alloc ?_ _) | (with_reducible refine Keeps.drew ?_) | (with_reducible refine Keeps.drewN ?_ _) | (with_reducible refine Keeps.set ?_ (by simp [go_sem, isU, *]) _) | (with_reducible refine Keeps.trans ?_ (Ext.keeps (by with_reducible assumption))) | (with_reducible refine Keeps.trans ?_ (by with_reducible assumption))))), fun h0 => sg_ne h0⟩)
    · go_enter Try.func57, Try.ntmps57
      go_wp2_with fail
      refine (norm_n (h.ext (by repeat (first | with_reducible exact Ext.refl _ | with_reducible assumption | (with_reducible refine Ext.alloc ?_ _) | (with_reducible refine Ext.drew ?_) | (with_reducible refine Ext.drewN ?_ _) | (with_reducible refine Ext.set ?_ (by first | (simp; done) | (simp; omega)) _) | (with_reducible refine Ext.trans ?_ (by with_reducible assumption))))) ht).mono ?_
      rintro e w' ⟨_, rfl, E1, x, rfl, hx⟩
      obtain ⟨a', n', c', rfl⟩ := hx.sl
      have hn : decide ((0 : Int) < n') = true := by
        have := fin a' n' c' w' hx
        simpa [sg, h0] using this
      have hg : sg true m = true := by simp [sg, h0]
      have H0 := Lib.hid h0
      have Hg := Lib.hid hg
      clear fin h0 hg
      obtain ⟨hc, hf⟩ := E1.look
      have hz := E1.size
      simp at hz
      go_wp2
      refine bodyPost_ret (v := .tuple #[.agg #[.bool true, .slice a' n' c'], .int .i64 0]) (by simpa [results, Try.results57, go_sem, hc] using hn) rfl (Post.mk (by repeat (first | with_reducible exact Ext.refl _ | with_reducible assumption | (with_reducible refine Ext.alloc ?_ _) | (with_reducible refine Ext.drew ?_) | (with_reducible refine Ext.drewN ?_ _) | (with_reducible refine Ext.set ?_ (by first | (simp; done) | (simp; omega)) _) | (with_reducible refine Ext.trans ?_ (by with_reducible assumption)))) ⟨_, rfl, a', n', c', by rw [Hg.out], (hx.keep (by repeat (first | with_reducible exact Keeps.refl _ | with_reducible assumption | (with_reducible refine Keeps.alloc ?_ _) | (with_reducible refine Keeps.drew ?_) | (with_reducible refine Keeps.drewN ?_ _) | (with_reducible refine Keeps.set ?_ (by simp [go_sem, isU, *]) _) | (with_reducible refine Keeps.trans ?_ (Ext.keeps (by with_reducible assumption))) | (with_reducible refine Keeps.trans ?_ (by with_reducible assumption))))), fun h0 => sg_ne h0⟩)

theorem znorm_ok (g : Bool) (a : Option Addr) (n c m : Nat) (w : World) (h : IsN w (.slice a n c) m) (ht : m < Top) :
    Calls Try.prog 55 #[.agg #[.bool g, .slice a n c]] w (Post w fun v w' => ZOk w' v (sg g m) m) := by
  go_enter Try.func55, Try.ntmps55
  go_wp2_with fail
  refine (ztold_ok g a n c m _ (h.ext (by repeat (first | with_reducible exact Ext.refl _ | with_reducible assumption | (with_reducible refine Ext.alloc ?_ _) | (with_reducible refine Ext.drew ?_) | (with_reducible refine Ext.drewN ?_ _) | (with_reducible refine Ext.set ?_ (by first | (simp; done) | (simp; omega)) _) | (with_reducible refine Ext.trans ?_ (by with_reducible assumption))))) ht).mono ?_
  rintro e w' ⟨_, rfl, E1, _, rfl, a', n', c', rfl, hx, hs⟩
  obtain ⟨hc, hf⟩ := E1.look
  have hz := E1.size
  simp at hz
  obtain ⟨b, hb⟩ : ∃ b, b = sg g m := ⟨_, rfl⟩
  rw [← hb] at hs ⊢
  have Hb := Lib.hid hb
  clear hb
  go_wp2
  refine bodyPost_ret (v := .tuple #[.agg #[.bool b, .slice a' n' c'], .int .i64 0]) (by simp [results, Try.results55, go_sem, hc]) rfl (Post.mk (by repeat (first | with_reducible exact Ext.refl _ | with_reducible assumption | (with_reducible refine Ext.alloc ?_ _) | (with_reducible refine Ext.drew ?_) | (with_reducible refine Ext.drewN ?_ _) | (with_reducible refine Ext.set ?_ (by first | (simp; done) | (simp; omega)) _) | (with_reducible refine Ext.trans ?_ (by with_reducible assumption)))) ⟨_, rfl, a', n', c', by rw [← Hb.out], (hx.keep (by repeat (first | with_reducible exact Keeps.refl _ | with_reducible assumption | (with_reducible refine Keeps.alloc ?_ _) | (with_reducible refine Keeps.drew ?_) | (with_reducible refine Keeps.drewN ?_ _) | (with_reducible refine Keeps.set ?_ (by simp [go_sem, isU, *]) _) | (with_reducible refine Keeps.trans ?_ (Ext.keeps (by with_reducible assumption))) | (with_reducible refine Keeps.trans ?_ (by with_reducible assumption))))), by rw [← Hb.out]; exact hs⟩)

/-- The sign of an integer. -/
def sign (g : Bool) (m : Nat) : Int := if m = 0 then 0 else if g then -1 else 1
theorem zsign_any (g : Bool) (a : Option Addr) (n c m : Nat) (w : World) (h : IsN w (.slice a n c) m) :
    Calls Try.prog 72 #[.agg #[.bool g, .slice a n c]] w (Post w fun v _ => v = .int .i64 (sign g m)) := by
  by_cases h0 : m = 0
  · subst h0
    cases g
    all_goals
      go_enter Try.func72, Try.ntmps72
      go_wp2_with fail
      refine (of_z _ a n c 0 _ (h.ext (by repeat (first | with_reducible exact Ext.refl _ | with_reducible assumption | (with_reducible refine Ext.alloc ?_ _) | (with_reducible refine Ext.drew ?_) | (with_reducible refine Ext.drewN ?_ _) | (with_reducible refine Ext.set ?_ (by first | (simp; done) | (simp; omega)) _) | (with_reducible refine Ext.trans ?_ (by with_reducible assumption)))))).mono ?_
      rintro e w' ⟨_, rfl, E1, rfl⟩
      obtain ⟨hc, hf⟩ := E1.look
      have hz := E1.size
      simp at hz
      go_wp2_with fail
      refine (zero_any a n c 0 _ (h.ext (by repeat (first | with_reducible exact Ext.refl _ | with_reducible assumption | (with_reducible refine Ext.alloc ?_ _) | (with_reducible refine Ext.drew ?_) | (with_reducible refine Ext.drewN ?_ _) | (with_reducible refine Ext.set ?_ (by first | (simp; done) | (simp; omega)) _) | (with_reducible refine Ext.trans ?_ (by with_reducible assumption)))))).mono ?_
      rintro e w2 ⟨_, rfl, E2, rfl⟩
      go_wp2
      go_ret
      exact Post.mk (by repeat (first | with_reducible exact Ext.refl _ | with_reducible assumption | (with_reducible refine Ext.alloc ?_ _) | (with_reducible refine Ext.drew ?_) | (with_reducible refine Ext.drewN ?_ _) | (with_reducible refine Ext.set ?_ (by first | (simp; done) | (simp; omega)) _) | (with_reducible refine Ext.trans ?_ (by with_reducible assumption)))) (by simp [sign])
  · have H0 := Lib.hid h0
    cases g
    · go_enter Try.func72, Try.ntmps72
      go_wp2_with fail
      refine (of_z _ a n c m _ (h.ext (by repeat (first | with_reducible exact Ext.refl _ | with_reducible assumption | (with_reducible refine Ext.alloc ?_ _) | (with_reducible refine Ext.drew ?_) | (with_reducible refine Ext.drewN ?_ _) | (with_reducible refine Ext.set ?_ (by first | (simp; done) | (simp; omega)) _) | (with_reducible refine Ext.trans ?_ (by with_reducible assumption)))))).mono ?_
      rintro e w' ⟨_, rfl, E1, rfl⟩
      go_wp2_with fail
      refine (zero_any a n c m _ (h.ext (by repeat (first | with_reducible exact Ext.refl _ | with_reducible assumption | (with_reducible refine Ext.alloc ?_ _) | (with_reducible refine Ext.drew ?_) | (with_reducible refine Ext.drewN ?_ _) | (with_reducible refine Ext.set ?_ (by first | (simp; done) | (simp; omega)) _) | (with_reducible refine Ext.trans ?_ (by with_reducible assumption)))))).mono ?_
      rintro e w2 ⟨_, rfl, E2, rfl⟩
      obtain ⟨hc, hf⟩ := E2.look
      go_wp2
      go_ret
      exact Post.mk (by repeat (first | with_reducible exact Ext.refl _ | with_reducible assumption | (with_reducible refine Ext.alloc ?_ _) | (with_reducible refine Ext.drew ?_) | (with_reducible refine Ext.drewN ?_ _) | (with_reducible refine Ext.set ?_ (by first | (simp; done) | (simp; omega)) _) | (with_reducible refine Ext.trans ?_ (by with_reducible assumption)))) (by simp [sign, h0])
    · go_enter Try.func72, Try.ntmps72
      go_wp2_with fail
      refine (of_z _ a n c m _ (h.ext (by repeat (first | with_reducible exact Ext.refl _ | with_reducible assumption | (with_reducible refine Ext.alloc ?_ _) | (with_reducible refine Ext.drew ?_) | (with_reducible refine Ext.drewN ?_ _) | (with_reducible refine Ext.set ?_ (by first | (simp; done) | (simp; omega)) _) | (with_reducible refine Ext.trans ?_ (by with_reducible assumption)))))).mono ?_
      rintro e w' ⟨_, rfl, E1, rfl⟩
      go_wp2_with fail
      refine (zero_any a n c m _ (h.ext (by repeat (first | with_reducible exact Ext.refl _ | with_reducible assumption | (with_reducible refine Ext.alloc ?_ _) | (with_reducible refine Ext.drew ?_) | (with_reducible refine Ext.drewN ?_ _) | (with_reducible refine Ext.set ?_ (by first | (simp; done) | (simp; omega)) _) | (with_reducible refine Ext.trans ?_ (by with_reducible assumption)))))).mono ?_
      rintro e w2 ⟨_, rfl, E2, rfl⟩
      obtain ⟨hc, hf⟩ := E2.look
      go_wp2
      go_ret
      exact Post.mk (by repeat (first | with_reducible exact Ext.refl _ | with_reducible assumption | (with_reducible refine Ext.alloc ?_ _) | (with_reducible refine Ext.drew ?_) | (with_reducible refine Ext.drewN ?_ _) | (with_reducible refine Ext.set ?_ (by first | (simp; done) | (simp; omega)) _) | (with_reducible refine Ext.trans ?_ (by with_reducible assumption)))) (by simp [sign, h0])
end Go.Proofs.Ytgihjgkpmochcaa

namespace Go.Proofs.Ytgihjgkpmochcaa
open Go.RowKit

theorem zof_any (x : Nat) (hx : x < 9223372036854775808) (w : World) : Calls Try.prog 33 #[.int .i64 x] w (Post w fun v w' => ZNum w' v false x) := by
  have hB : x < B64 := by unfold B64; omega
  go_enter Try.func33, Try.ntmps33
  go_wp2_with fail
  refine (of_n hB _).mono ?_
  rintro e w' ⟨_, rfl, E1, hx1⟩
  obtain ⟨a, n, c, rfl⟩ := hx1.sl
  go_wp2_with fail
  refine (ztold_ok false a n c x _ (hx1.is.ext (by repeat (first | with_reducible exact Ext.refl _ | with_reducible assumption | (with_reducible refine Ext.alloc ?_ _) | (with_reducible refine Ext.drew ?_) | (with_reducible refine Ext.drewN ?_ _) | (with_reducible refine Ext.set ?_ (by first | (simp; done) | (simp; omega)) _) | (with_reducible refine Ext.trans ?_ (by with_reducible assumption))))) hx1.lt).mono ?_
  rintro e w2 ⟨_, rfl, E2, _, rfl, a', n', c', rfl, hx2, hs⟩
  obtain ⟨hc, hf⟩ := (E1.trans E2).looka
  have hz := (E1.trans E2).size
  simp at hz
  have e1 : sg false x = false := rfl
  rw [e1]
  go_wp2
  refine bodyPost_ret (v := .agg #[.bool false, .slice a' n' c']) (by simp [results, Try.results33, go_sem, hc]) rfl (Post.mk (by repeat (first | with_reducible exact Ext.refl _ | with_reducible assumption | (with_reducible refine Ext.alloc ?_ _) | (with_reducible refine Ext.drew ?_) | (with_reducible refine Ext.drewN ?_ _) | (with_reducible refine Ext.set ?_ (by first | (simp; done) | (simp; omega)) _) | (with_reducible refine Ext.trans ?_ (by with_reducible assumption)))) ⟨a', n', c', rfl, (hx2.keep (by repeat (first | with_reducible exact Keeps.refl _ | with_reducible assumption | (with_reducible refine Keeps.alloc ?_ _) | (with_reducible refine Keeps.drew ?_) | (with_reducible refine Keeps.drewN ?_ _) | (with_reducible refine Keeps.set ?_ (by simp [go_sem, isU, *]) _) | (with_reducible refine Keeps.trans ?_ (Ext.keeps (by with_reducible assumption))) | (with_reducible refine Keeps.trans ?_ (by with_reducible assumption))))), fun h => by cases h⟩)

/-- The text of an integer. -/
def zT (g : Bool) (m : Nat) : List Nat := if sg g m then 45 :: decT m else decT m
theorem decT_ne (m : Nat) : decT m ≠ [] := by
  unfold decT
  split
  · simp
  · rename_i h
    intro e
    rw [rdig_pos h] at e
    simp at e
theorem txt_cons (c : Nat) (l : List Nat) : txt (c :: l) = ⟨(UInt8.ofNat c :: (l.map UInt8.ofNat)).toArray⟩ := rfl
theorem txt_bytes (l : List Nat) : (txt l).toList = l.map UInt8.ofNat := by
  unfold txt
  simp
theorem txt_append (l k : List Nat) : txt (l ++ k) = txt l ++ txt k := by
  unfold txt
  apply ByteArray.ext
  simp
theorem txt_size (l : List Nat) : (txt l).size = l.length := by
  unfold txt
  simp [ByteArray.size]
theorem pow64 (k : Nat) : B64 ^ k = 2 ^ (64 * k) := by
  unfold B64
  rw [show (18446744073709551616 : Nat) = 2 ^ 64 by decide, ← Nat.pow_mul]
theorem topOf_pow (k : Nat) : topOf k = 2 ^ (64 * k) := by
  unfold topOf
  exact pow64 k
theorem Top_topOf : Top = topOf 2048 := by unfold Top; rfl
theorem decT_few {m : Nat} (h : m < Top) : (decT m).length ≤ 131072 := by
  unfold decT
  split
  · simp
  · rw [List.length_reverse]
    have key : ∀ k, m < topOf k → (rdig m).length ≤ 64 * k := fun k h => rdig_len (by rwa [topOf_pow] at h)
    rw [Top_topOf] at h
    have := key 2048 h
    omega
theorem field_neg (a : Option Addr) (n c : Nat) (b : Bool) (w : World) : (Instr.field 112 (.agg #[.slice a n c, .bool b]) 1).run Try.prog w = .ok (.bool b) w := by kernel_rfl
end Go.Proofs.Ytgihjgkpmochcaa

namespace Go.Proofs.Ytgihjgkpmochcaa
open Go.RowKit

theorem mustN_ok (a : Option Addr) (n c : Nat) (w : World) :
    Calls Try.prog 75 #[.slice a n c, .int .i64 0] w fun e w' => e = .returned (.slice a n c) ∧ w = w' := by
  go_enter Try.func75, Try.ntmps75
  go_wp2
  go_ret
  exact ⟨rfl, rfl⟩
theorem mustZ_ok (g : Bool) (a : Option Addr) (n c : Nat) (w : World) :
    Calls Try.prog 78 #[.agg #[.bool g, .slice a n c], .int .i64 0] w (Post w fun v _ => v = .agg #[.bool g, .slice a n c]) := by
  go_enter Try.func78, Try.ntmps78
  go_wp2
  exact bodyPost_ret (v := .agg #[.bool g, .slice a n c]) (by simp [results, Try.results78, go_sem]) rfl (Post.mk (by repeat (first | with_reducible exact Ext.refl _ | with_reducible assumption | (with_reducible refine Ext.alloc ?_ _) | (with_reducible refine Ext.drew ?_) | (with_reducible refine Ext.drewN ?_ _) | (with_reducible refine Ext.set ?_ (by first | (simp; done) | (simp; omega)) _) | (with_reducible refine Ext.trans ?_ (by with_reducible assumption)))) rfl)
theorem whole_any (a : Option Addr) (n c : Nat) (w : World) :
    Calls Try.prog 66 #[.slice a n c] w (Post w fun v _ => v = .agg #[.bool false, .slice a n c]) := by
  go_enter Try.func66, Try.ntmps66
  go_wp2
  exact bodyPost_ret (v := .agg #[.bool false, .slice a n c]) (by simp [results, Try.results66, go_sem]) rfl (Post.mk (by repeat (first | with_reducible exact Ext.refl _ | with_reducible assumption | (with_reducible refine Ext.alloc ?_ _) | (with_reducible refine Ext.drew ?_) | (with_reducible refine Ext.drewN ?_ _) | (with_reducible refine Ext.set ?_ (by first | (simp; done) | (simp; omega)) _) | (with_reducible refine Ext.trans ?_ (by with_reducible assumption)))) rfl)

/-- The value is a rational number. -/
def IsF (w : World) (v : Value) (g : Bool) (n d : Nat) : Prop := ∃ a1 n1 c1 a2 n2 c2, v = .agg #[.bool g, .slice a1 n1 c1, .slice a2 n2 c2] ∧ IsN w (.slice a1 n1 c1) n ∧ IsN w (.slice a2 n2 c2) d
/-- The same; its numbers are normal. -/
def FNum (w : World) (v : Value) (g : Bool) (n d : Nat) : Prop := ∃ a1 n1 c1 a2 n2 c2, v = .agg #[.bool g, .slice a1 n1 c1, .slice a2 n2 c2] ∧ Num w (.slice a1 n1 c1) n ∧ Num w (.slice a2 n2 c2) d
theorem IsF.keep {w w' : World} {v : Value} {g : Bool} {n d : Nat} (h : IsF w v g n d) (e : Keeps w w') : IsF w' v g n d := by
  obtain ⟨a1, n1, c1, a2, n2, c2, rfl, h1, h2⟩ := h
  exact ⟨a1, n1, c1, a2, n2, c2, rfl, h1.keep e, h2.keep e⟩
theorem FNum.keep {w w' : World} {v : Value} {g : Bool} {n d : Nat} (h : FNum w v g n d) (e : Keeps w w') : FNum w' v g n d := by
  obtain ⟨a1, n1, c1, a2, n2, c2, rfl, h1, h2⟩ := h
  exact ⟨a1, n1, c1, a2, n2, c2, rfl, h1.keep e, h2.keep e⟩
theorem FNum.is {w : World} {v : Value} {g : Bool} {n d : Nat} (h : FNum w v g n d) : IsF w v g n d := by
  obtain ⟨a1, n1, c1, a2, n2, c2, rfl, h1, h2⟩ := h
  exact ⟨a1, n1, c1, a2, n2, c2, rfl, h1.is, h2.is⟩

/-- The call's end: it panics with this error. -/
def Dies (w : World) (x : Nat) (e : Ending) (w' : World) : Prop := e = .panicked [{ v := .iface 27 (.int .i64 x), recovered := false }] ∧ Ext w w'

theorem ftold_zero (g1 g2 : Bool) (a1 a2 : Option Addr) (n1 c1 n2 c2 : Nat) (w : World) (h2 : IsN w (.slice a2 n2 c2) 0) :
    Calls Try.prog 56 #[.agg #[.bool g1, .slice a1 n1 c1], .agg #[.bool g2, .slice a2 n2 c2]] w (Dies w 2) := by
  go_enter Try.func56, Try.ntmps56
  go_wp2_with fail
  refine (zsign_any g2 a2 n2 c2 0 _ (h2.ext (by repeat (first | with_reducible exact Ext.refl _ | with_reducible assumption | (with_reducible refine Ext.alloc ?_ _) | (with_reducible refine Ext.drew ?_) | (with_reducible refine Ext.drewN ?_ _) | (with_reducible refine Ext.set ?_ (by first | (simp; done) | (simp; omega)) _) | (with_reducible refine Ext.trans ?_ (by with_reducible assumption)))))).mono ?_
  rintro e w' ⟨_, rfl, E1, rfl⟩
  have e1 : sign g2 0 = 0 := rfl
  rw [e1]
  clear e1
  go_wp2
  exact ⟨rfl, rfl, (by repeat (first | with_reducible exact Ext.refl _ | with_reducible assumption | (with_reducible refine Ext.alloc ?_ _) | (with_reducible refine Ext.drew ?_) | (with_reducible refine Ext.drewN ?_ _) | (with_reducible refine Ext.set ?_ (by first | (simp; done) | (simp; omega)) _) | (with_reducible refine Ext.trans ?_ (by with_reducible assumption))))⟩

set_option maxHeartbeats 1000000 in
theorem ftold_ok (g1 g2 : Bool) (a1 a2 : Option Addr) (n1 c1 n2 c2 n d : Nat) (w : World) (h1 : IsN w (.slice a1 n1 c1) n) (h2 : IsN w (.slice a2 n2 c2) d) (ht1 : n < Top) (ht2 : d < Top) (hd : d ≠ 0) :
    Calls Try.prog 56 #[.agg #[.bool g1, .slice a1 n1 c1], .agg #[.bool g2, .slice a2 n2 c2]] w (Post w fun v w' => FNum w' v (sg (g1 != g2) (n / Nat.gcd n d)) (n / Nat.gcd n d) (d / Nat.gcd n d)) := by
  have hs : (sign g2 d == 0) = false := by
    unfold sign
    rw [if_neg hd]
    cases g2 <;> rfl
  have hg : Nat.gcd n d ≠ 0 := by
    intro e
    exact hd (Nat.eq_zero_of_gcd_eq_zero_right e)
  obtain ⟨s, es⟩ : ∃ s, s = sign g2 d := ⟨_, rfl⟩
  rw [← es] at hs
  have Es := Lib.hid es
  have Hd := Lib.hid hd
  have Hg := Lib.hid hg
  clear es hd hg
  go_enter Try.func56, Try.ntmps56
  go_wp2_with fail
  refine (zsign_any g2 a2 n2 c2 d _ (h2.ext (by repeat (first | with_reducible exact Ext.refl _ | with_reducible assumption | (with_reducible refine Ext.alloc ?_ _) | (with_reducible refine Ext.drew ?_) | (with_reducible refine Ext.drewN ?_ _) | (with_reducible refine Ext.set ?_ (by first | (simp; done) | (simp; omega)) _) | (with_reducible refine Ext.trans ?_ (by with_reducible assumption)))))).mono ?_
  rintro e w1 ⟨_, rfl, E1, rfl⟩
  rw [← Es.out]
  obtain ⟨hc, hf⟩ := E1.look
  have hz := E1.size
  simp at hz
  go_wp2_with fail
  refine (gcd_ok (h1.ext (by repeat (first | with_reducible exact Ext.refl _ | with_reducible assumption | (with_reducible refine Ext.alloc ?_ _) | (with_reducible refine Ext.drew ?_) | (with_reducible refine Ext.drewN ?_ _) | (with_reducible refine Ext.set ?_ (by first | (simp; done) | (simp; omega)) _) | (with_reducible refine Ext.trans ?_ (by with_reducible assumption))))) (h2.ext (by repeat (first | with_reducible exact Ext.refl _ | with_reducible assumption | (with_reducible refine Ext.alloc ?_ _) | (with_reducible refine Ext.drew ?_) | (with_reducible refine Ext.drewN ?_ _) | (with_reducible refine Ext.set ?_ (by first | (simp; done) | (simp; omega)) _) | (with_reducible refine Ext.trans ?_ (by with_reducible assumption))))) ht1 ht2).mono ?_
  rintro e w2 ⟨_, rfl, E2, x, rfl, hx⟩
  obtain ⟨a3, n3, c3, rfl⟩ := hx.sl
  have F2 := E1.trans E2
  clear hc hf hz
  obtain ⟨hc, hf⟩ := F2.look
  have hz := F2.size
  simp at hz
  go_wp2_with fail
  refine (mustN_ok a3 n3 c3 _).mono ?_
  rintro e w' ⟨rfl, rfl⟩
  go_wp2_with fail
  refine (div_ok (h1.ext (by repeat (first | with_reducible exact Ext.refl _ | with_reducible assumption | (with_reducible refine Ext.alloc ?_ _) | (with_reducible refine Ext.drew ?_) | (with_reducible refine Ext.drewN ?_ _) | (with_reducible refine Ext.set ?_ (by first | (simp; done) | (simp; omega)) _) | (with_reducible refine Ext.trans ?_ (by with_reducible assumption))))) hx.is ht1 hx.lt Hg.out).mono ?_
  rintro e w3 ⟨_, rfl, E3, y, y', rfl, hy, hy'⟩
  obtain ⟨a4, n4, c4, rfl⟩ := hy.sl
  have F3 := F2.trans E3
  clear hc hf hz
  obtain ⟨hc, hf⟩ := F3.look
  have hz := F3.size
  simp at hz
  go_wp2_with fail
  refine (mustN_ok a4 n4 c4 _).mono ?_
  rintro e w' ⟨rfl, rfl⟩
  go_wp2_with fail
  refine (div_ok (h2.ext (by repeat (first | with_reducible exact Ext.refl _ | with_reducible assumption | (with_reducible refine Ext.alloc ?_ _) | (with_reducible refine Ext.drew ?_) | (with_reducible refine Ext.drewN ?_ _) | (with_reducible refine Ext.set ?_ (by first | (simp; done) | (simp; omega)) _) | (with_reducible refine Ext.trans ?_ (by with_reducible assumption))))) (hx.is.ext (by repeat (first | with_reducible exact Ext.refl _ | with_reducible assumption | (with_reducible refine Ext.alloc ?_ _) | (with_reducible refine Ext.drew ?_) | (with_reducible refine Ext.drewN ?_ _) | (with_reducible refine Ext.set ?_ (by first | (simp; done) | (simp; omega)) _) | (with_reducible refine Ext.trans ?_ (by with_reducible assumption))))) ht2 hx.lt Hg.out).mono ?_
  rintro e w4 ⟨_, rfl, E4, u, u', rfl, hu, hu'⟩
  obtain ⟨a5, n5, c5, rfl⟩ := hu.sl
  have F4 := F3.trans E4
  clear hc hf hz
  obtain ⟨hc, hf⟩ := F4.look
  have hz := F4.size
  simp at hz
  go_wp2_with fail
  refine (mustN_ok a5 n5 c5 _).mono ?_
  rintro e w' ⟨rfl, rfl⟩
  have en : (decide ¬g1 = g2) = (g1 != g2) := by cases g1 <;> cases g2 <;> rfl
  go_wp2_with fail
  refine (znorm_ok (g1 != g2) a4 n4 c4 (n / Nat.gcd n d) _ (hy.is.ext (by repeat (first | with_reducible exact Ext.refl _ | with_reducible assumption | (with_reducible refine Ext.alloc ?_ _) | (with_reducible refine Ext.drew ?_) | (with_reducible refine Ext.drewN ?_ _) | (with_reducible refine Ext.set ?_ (by first | (simp; done) | (simp; omega)) _) | (with_reducible refine Ext.trans ?_ (by with_reducible assumption))))) hy.lt).mono ?_
  rintro e w5 ⟨_, rfl, E5, _, rfl, a6, n6, c6, rfl, hv, hsn⟩
  go_wp2_with fail
  refine (mustZ_ok _ a6 n6 c6 _).mono ?_
  rintro e w6 ⟨_, rfl, E6, rfl⟩
  have F6 := F4.trans (E5.trans E6)
  clear hc hf hz
  obtain ⟨hc, hf⟩ := F6.look
  have hz := F6.size
  simp at hz
  obtain ⟨b, hb⟩ : ∃ b, b = sg (g1 != g2) (n / Nat.gcd n d) := ⟨_, rfl⟩
  rw [← hb]
  have Hb := Lib.hid hb
  clear hb F2 F3 F4 F6
  go_wp2
  exact bodyPost_ret (v := .agg #[.bool b, .slice a6 n6 c6, .slice a5 n5 c5]) (by simp [results, Try.results56, go_sem, hc]) rfl (Post.mk (by repeat (first | with_reducible exact Ext.refl _ | with_reducible assumption | (with_reducible refine Ext.alloc ?_ _) | (with_reducible refine Ext.drew ?_) | (with_reducible refine Ext.drewN ?_ _) | (with_reducible refine Ext.set ?_ (by first | (simp; done) | (simp; omega)) _) | (with_reducible refine Ext.trans ?_ (by with_reducible assumption)))) ⟨a6, n6, c6, a5, n5, c5, by rw [← Hb.out], hv.keep (by repeat (first | with_reducible exact Keeps.refl _ | with_reducible assumption | (with_reducible refine Keeps.alloc ?_ _) | (with_reducible refine Keeps.drew ?_) | (with_reducible refine Keeps.drewN ?_ _) | (with_reducible refine Keeps.set ?_ (by simp [go_sem, isU, *]) _) | (with_reducible refine Keeps.trans ?_ (Ext.keeps (by with_reducible assumption))) | (with_reducible refine Keeps.trans ?_ (by with_reducible assumption)))), hu.keep (by repeat (first | with_reducible exact Keeps.refl _ | with_reducible assumption | (with_reducible refine Keeps.alloc ?_ _) | (with_reducible refine Keeps.drew ?_) | (with_reducible refine Keeps.drewN ?_ _) | (with_reducible refine Keeps.set ?_ (by simp [go_sem, isU, *]) _) | (with_reducible refine Keeps.trans ?_ (Ext.keeps (by with_reducible assumption))) | (with_reducible refine Keeps.trans ?_ (by with_reducible assumption))))⟩)
end Go.Proofs.Ytgihjgkpmochcaa

namespace Go.Proofs.Ytgihjgkpmochcaa
open Go.RowKit

set_option maxHeartbeats 1000000 in
theorem make1_ok (b1 b2 : Nat) (g1 g2 : Bool) (a1 a2 : Option Addr) (n1 c1 n2 c2 n d : Nat) (w : World)
    (k1 : w.cell? ⟨b1, 0, none⟩ = some (.bool g1)) (k2 : w.cell? ⟨b1, 1, none⟩ = some (.slice a1 n1 c1)) (k3 : w.cell? ⟨b2, 0, none⟩ = some (.bool g2)) (k4 : w.cell? ⟨b2, 1, none⟩ = some (.slice a2 n2 c2))
    (h1 : IsN w (.slice a1 n1 c1) n) (h2 : IsN w (.slice a2 n2 c2) d) (ht1 : n < Top) (ht2 : d < Top) (hd : d ≠ 0) :
    Calls Try.prog 54 #[.pointer (some ⟨b1, 0, none⟩), .pointer (some ⟨b2, 0, none⟩)] w (Post w fun v w' => FNum w' v (sg (g1 != g2) (n / Nat.gcd n d)) (n / Nat.gcd n d) (d / Nat.gcd n d)) := by
  have hb1 := World.block_lt_of_cell? w _ k1
  have hb2 := World.block_lt_of_cell? w _ k3
  simp at hb1 hb2
  have Hd := Lib.hid hd
  clear hd
  go_enter Try.func54, Try.ntmps54
  go_wp2_with fail
  refine (znorm_ok g1 a1 n1 c1 n _ (h1.ext (by repeat (first | with_reducible exact Ext.refl _ | with_reducible assumption | (with_reducible refine Ext.alloc ?_ _) | (with_reducible refine Ext.drew ?_) | (with_reducible refine Ext.drewN ?_ _) | (with_reducible refine Ext.set ?_ (by first | (simp; done) | (simp; omega)) _) | (with_reducible refine Ext.trans ?_ (by with_reducible assumption))))) ht1).mono ?_
  rintro e w1 ⟨_, rfl, E1, _, rfl, a3, n3, c3, rfl, hx, hs⟩
  have F1 := (Ext.of_alloc w _).trans E1
  obtain ⟨hc, hf⟩ := F1.looka
  go_wp2_with fail
  refine (znorm_ok g2 a2 n2 c2 d _ (h2.ext (by repeat (first | with_reducible exact Ext.refl _ | with_reducible assumption | (with_reducible refine Ext.alloc ?_ _) | (with_reducible refine Ext.drew ?_) | (with_reducible refine Ext.drewN ?_ _) | (with_reducible refine Ext.set ?_ (by first | (simp; done) | (simp; omega)) _) | (with_reducible refine Ext.trans ?_ (by with_reducible assumption))))) ht2).mono ?_
  rintro e w2 ⟨_, rfl, E2, _, rfl, a4, n4, c4, rfl, hy, hs'⟩
  have F2 := (F1.alloc _).trans E2
  clear hc hf
  obtain ⟨hc, hf⟩ := F2.looka
  go_wp2_with fail
  refine (ftold_ok g1 g2 a1 a2 n1 c1 n2 c2 n d _ (h1.ext (by repeat (first | with_reducible exact Ext.refl _ | with_reducible assumption | (with_reducible refine Ext.alloc ?_ _) | (with_reducible refine Ext.drew ?_) | (with_reducible refine Ext.drewN ?_ _) | (with_reducible refine Ext.set ?_ (by first | (simp; done) | (simp; omega)) _) | (with_reducible refine Ext.trans ?_ (by with_reducible assumption))))) (h2.ext (by repeat (first | with_reducible exact Ext.refl _ | with_reducible assumption | (with_reducible refine Ext.alloc ?_ _) | (with_reducible refine Ext.drew ?_) | (with_reducible refine Ext.drewN ?_ _) | (with_reducible refine Ext.set ?_ (by first | (simp; done) | (simp; omega)) _) | (with_reducible refine Ext.trans ?_ (by with_reducible assumption))))) ht1 ht2 Hd.out).mono ?_
  rintro e w3 ⟨_, rfl, E3, a5, n5, c5, a6, n6, c6, rfl, hu, hv⟩
  have F3 := (((E1.alloc _).trans E2).alloc _).trans E3
  clear hc hf F1 F2
  obtain ⟨hc, hf⟩ := F3.look
  have hz := F3.size
  simp at hz
  clear F3
  obtain ⟨b, hb⟩ : ∃ b, b = sg (g1 != g2) (n / Nat.gcd n d) := ⟨_, rfl⟩
  rw [← hb]
  have Hb := Lib.hid hb
  clear hb
  go_wp2
  exact bodyPost_ret (v := .agg #[.bool b, .slice a5 n5 c5, .slice a6 n6 c6]) (by simp [results, Try.results54, go_sem, hc]) rfl (Post.mk (by repeat (first | with_reducible exact Ext.refl _ | with_reducible assumption | (with_reducible refine Ext.alloc ?_ _) | (with_reducible refine Ext.drew ?_) | (with_reducible refine Ext.drewN ?_ _) | (with_reducible refine Ext.set ?_ (by first | (simp; done) | (simp; omega)) _) | (with_reducible refine Ext.trans ?_ (by with_reducible assumption)))) ⟨a5, n5, c5, a6, n6, c6, by rw [← Hb.out], hu.keep (by repeat (first | with_reducible exact Keeps.refl _ | with_reducible assumption | (with_reducible refine Keeps.alloc ?_ _) | (with_reducible refine Keeps.drew ?_) | (with_reducible refine Keeps.drewN ?_ _) | (with_reducible refine Keeps.set ?_ (by simp [go_sem, isU, *]) _) | (with_reducible refine Keeps.trans ?_ (Ext.keeps (by with_reducible assumption))) | (with_reducible refine Keeps.trans ?_ (by with_reducible assumption)))), hv.keep (by repeat (first | with_reducible exact Keeps.refl _ | with_reducible assumption | (with_reducible refine Keeps.alloc ?_ _) | (with_reducible refine Keeps.drew ?_) | (with_reducible refine Keeps.drewN ?_ _) | (with_reducible refine Keeps.set ?_ (by simp [go_sem, isU, *]) _) | (with_reducible refine Keeps.trans ?_ (Ext.keeps (by with_reducible assumption))) | (with_reducible refine Keeps.trans ?_ (by with_reducible assumption))))⟩)

set_option maxHeartbeats 1000000 in
theorem make1_zero (b1 b2 : Nat) (g1 g2 : Bool) (a1 a2 : Option Addr) (n1 c1 n2 c2 n : Nat) (w : World)
    (k1 : w.cell? ⟨b1, 0, none⟩ = some (.bool g1)) (k2 : w.cell? ⟨b1, 1, none⟩ = some (.slice a1 n1 c1)) (k3 : w.cell? ⟨b2, 0, none⟩ = some (.bool g2)) (k4 : w.cell? ⟨b2, 1, none⟩ = some (.slice a2 n2 c2))
    (h1 : IsN w (.slice a1 n1 c1) n) (h2 : IsN w (.slice a2 n2 c2) 0) (ht1 : n < Top) :
    Calls Try.prog 54 #[.pointer (some ⟨b1, 0, none⟩), .pointer (some ⟨b2, 0, none⟩)] w (Dies w 2) := by
  have hb1 := World.block_lt_of_cell? w _ k1
  have hb2 := World.block_lt_of_cell? w _ k3
  simp at hb1 hb2
  go_enter Try.func54, Try.ntmps54
  go_wp2_with fail
  refine (znorm_ok g1 a1 n1 c1 n _ (h1.ext (by repeat (first | with_reducible exact Ext.refl _ | with_reducible assumption | (with_reducible refine Ext.alloc ?_ _) | (with_reducible refine Ext.drew ?_) | (with_reducible refine Ext.drewN ?_ _) | (with_reducible refine Ext.set ?_ (by first | (simp; done) | (simp; omega)) _) | (with_reducible refine Ext.trans ?_ (by with_reducible assumption))))) ht1).mono ?_
  rintro e w1 ⟨_, rfl, E1, _, rfl, a3, n3, c3, rfl, hx, hs⟩
  have F1 := (Ext.of_alloc w _).trans E1
  obtain ⟨hc, hf⟩ := F1.looka
  go_wp2_with fail
  refine (znorm_ok g2 a2 n2 c2 0 _ (h2.ext (by repeat (first | with_reducible exact Ext.refl _ | with_reducible assumption | (with_reducible refine Ext.alloc ?_ _) | (with_reducible refine Ext.drew ?_) | (with_reducible refine Ext.drewN ?_ _) | (with_reducible refine Ext.set ?_ (by first | (simp; done) | (simp; omega)) _) | (with_reducible refine Ext.trans ?_ (by with_reducible assumption))))) Top_pos).mono ?_
  rintro e w2 ⟨_, rfl, E2, _, rfl, a4, n4, c4, rfl, hy, hs'⟩
  have F2 := (F1.alloc _).trans E2
  clear hc hf
  obtain ⟨hc, hf⟩ := F2.looka
  go_wp2_with fail
  refine (ftold_zero g1 g2 a1 a2 n1 c1 n2 c2 _ (h2.ext (by repeat (first | with_reducible exact Ext.refl _ | with_reducible assumption | (with_reducible refine Ext.alloc ?_ _) | (with_reducible refine Ext.drew ?_) | (with_reducible refine Ext.drewN ?_ _) | (with_reducible refine Ext.set ?_ (by first | (simp; done) | (simp; omega)) _) | (with_reducible refine Ext.trans ?_ (by with_reducible assumption)))))).mono ?_
  rintro e w3 ⟨rfl, E3⟩
  clear F1 F2 hc hf
  go_wp2
  exact ⟨rfl, rfl, (by repeat (first | with_reducible exact Ext.refl _ | with_reducible assumption | (with_reducible refine Ext.alloc ?_ _) | (with_reducible refine Ext.drew ?_) | (with_reducible refine Ext.drewN ?_ _) | (with_reducible refine Ext.set ?_ (by first | (simp; done) | (simp; omega)) _) | (with_reducible refine Ext.trans ?_ (by with_reducible assumption))))⟩

theorem tmps_two (p q x : Value) : #[p, q] ++ ((Array.replicate 8 undef).setIfInBounds 2 x).setIfInBounds 0 x = #[p, q, x, undef, x, undef, undef, undef, undef, undef] := by
  apply Array.ext'
  simp [Array.replicate, List.replicate]

/-- The deferred closure, of a frame that returns: it does nothing. -/
theorem face1_idle (p q : Addr) (w : World) :
    CallsD Try.prog 74 #[.pointer (some p), .pointer (some q)] .returning w fun e u' w' => e = .returned (.tuple #[]) ∧ u' = .returning ∧ w' = w := by
  refine callsD_of_wpS Try.func74 rfl fun c₀ cs hu => ?_
  apply wpS_seq
  apply wpS_region
  simp [wpOpsS, go_sem, recoverD, hu, Try.ntmps74, Exit.thenS]
  rw [tmps_two]
  refine wpS_of_wp ?_
  go_wp2
  cases c₀
  simp_all [bodyPostS, results, Try.results74]
theorem assert_errno (x : Nat) (w : World) : (Instr.typeAssert (.iface 27 (.int .i64 x)) 20 27 false).run Try.prog w = .ok (.int .i64 x) w := by kernel_rfl
theorem face1_catch (bp bq : Nat) (x : Nat) (g : Bool) (a1 a2 : Option Addr) (n1 c1 n2 c2 : Nat) (y : Int) (older : List PanicEntry) (w : World)
    (k1 : w.cell? ⟨bp, 0, none⟩ = some (.bool g)) (k2 : w.cell? ⟨bp, 1, none⟩ = some (.slice a1 n1 c1)) (k3 : w.cell? ⟨bp, 2, none⟩ = some (.slice a2 n2 c2)) (k4 : w.cell? ⟨bq, 0, none⟩ = some (.int .i64 y))
    (z1 : w.frozen? ⟨bp, 0, none⟩ = false) (z2 : w.frozen? ⟨bp, 1, none⟩ = false) (z3 : w.frozen? ⟨bp, 2, none⟩ = false) (z4 : w.frozen? ⟨bq, 0, none⟩ = false) :
    CallsD Try.prog 74 #[.pointer (some ⟨bp, 0, none⟩), .pointer (some ⟨bq, 0, none⟩)] (.panicking ({ v := .iface 27 (.int .i64 x), recovered := false } :: older)) w fun e u' w' =>
      e = .returned (.tuple #[]) ∧ u' = .panicking ({ v := .iface 27 (.int .i64 x), recovered := true } :: older) ∧ (∀ w0, Ext w0 w → w0.heap.size ≤ bp → w0.heap.size ≤ bq → Ext w0 w') ∧
      w'.cell? ⟨bp, 0, none⟩ = some (.bool false) ∧ w'.cell? ⟨bp, 1, none⟩ = some (.slice none 0 0) ∧ w'.cell? ⟨bp, 2, none⟩ = some (.slice none 0 0) ∧ w'.cell? ⟨bq, 0, none⟩ = some (.int .i64 x) := by
  have hb1 := World.block_lt_of_cell? w _ k1
  have hb2 := World.block_lt_of_cell? w _ k4
  simp at hb1 hb2
  have hne : ¬ bp = bq := by
    intro e
    subst e
    rw [k1] at k4
    cases k4
  have hta := assert_errno x
  refine callsD_of_wpS Try.func74 rfl fun c₀ cs hu => ?_
  apply wpS_seq
  apply wpS_region
  simp [wpOpsS, go_sem, recoverD, hu, Try.ntmps74, Exit.thenS]
  rw [tmps_two]
  refine wpS_of_wp ?_
  go_wp2
  go_region
  go_wp2
  cases c₀
  simp only at hu
  subst hu
  refine ⟨rfl, _, rfl, .tuple #[], by simp [results, Try.results74, go_sem], rfl, rfl, fun w0 e1 e2 e3 => ?_, ?_, ?_, ?_, ?_⟩
  · exact ((((((e1.set (p := ⟨bp, 0, none⟩) e2 _).set (p := ⟨bp, 1, none⟩) e2 _).set (p := ⟨bp, 2, none⟩) e2 _).set (p := ⟨bq, 0, none⟩) e3 _).alloc _).drew)
  all_goals simp [go_sem, k1, k2, k3, k4, hb1, hb2]
end Go.Proofs.Ytgihjgkpmochcaa

namespace Go.Proofs.Ytgihjgkpmochcaa
open Go.RowKit

/-- A rational number, and no error. -/
def FOk (w : World) (v : Value) (g : Bool) (n d : Nat) : Prop := ∃ x, v = .tuple #[x, .int .i64 0] ∧ FNum w x g n d

set_option maxHeartbeats 1000000 in
theorem face_ok (b1 b2 : Nat) (g : Bool) (n d : Nat) (w : World)
    (hdo : ∀ W, Ext w W → Calls Try.prog 54 #[.pointer (some ⟨b1, 0, none⟩), .pointer (some ⟨b2, 0, none⟩)] W (Post W fun v w' => FNum w' v g n d)) :
    Calls Try.prog 53 #[.func (.func 54) #[] #[.pointer (some ⟨b1, 0, none⟩), .pointer (some ⟨b2, 0, none⟩)]] w (Post w fun v w' => FOk w' v g n d) := by
  have hdo' := Lib.hid hdo
  clear hdo
  have hmf : ∀ (fn : Fn) (first cap : Array Value) (w : World), (Instr.makeFunc fn first cap).run Try.prog w = .ok (.func fn first cap) w := fun _ _ _ _ => rfl
  go_enter_defers Try.func53, Try.ntmps53
  go_wp2_with fail
  refine (hdo'.out _ (by repeat (first | with_reducible exact Ext.refl _ | with_reducible assumption | (with_reducible refine Ext.alloc ?_ _) | (with_reducible refine Ext.drew ?_) | (with_reducible refine Ext.drewN ?_ _) | (with_reducible refine Ext.set ?_ (by first | (simp; done) | (simp; omega)) _) | (with_reducible refine Ext.trans ?_ (by with_reducible assumption))))).mono ?_
  rintro e w1 ⟨_, rfl, E1, a5, n5, c5, a6, n6, c6, rfl, hu, hv⟩
  clear hdo'
  obtain ⟨hc, hf⟩ := E1.look
  have hz := E1.size
  simp at hz
  go_wp2
  refine leaves_cons (f := 74) (args := #[.pointer (some ⟨w.heap.size, 0, none⟩), .pointer (some ⟨w.heap.size + 1, 0, none⟩)]) (by simp) (by simp [go_sem]) ?_
  refine (face1_idle _ _ _).mono ?_
  rintro e u' w'' ⟨rfl, rfl, rfl⟩
  simp only [Leaves, settle]
  exact ⟨_, by simp [results, Try.results53, go_sem, hc], Post.mk (by repeat (first | with_reducible exact Ext.refl _ | with_reducible assumption | (with_reducible refine Ext.alloc ?_ _) | (with_reducible refine Ext.drew ?_) | (with_reducible refine Ext.drewN ?_ _) | (with_reducible refine Ext.set ?_ (by first | (simp; done) | (simp; omega)) _) | (with_reducible refine Ext.trans ?_ (by with_reducible assumption)))) ⟨_, rfl, a5, n5, c5, a6, n6, c6, rfl, hu.keep (by repeat (first | with_reducible exact Keeps.refl _ | with_reducible assumption | (with_reducible refine Keeps.alloc ?_ _) | (with_reducible refine Keeps.drew ?_) | (with_reducible refine Keeps.drewN ?_ _) | (with_reducible refine Keeps.set ?_ (by simp [go_sem, isU, *]) _) | (with_reducible refine Keeps.trans ?_ (Ext.keeps (by with_reducible assumption))) | (with_reducible refine Keeps.trans ?_ (by with_reducible assumption)))), hv.keep (by repeat (first | with_reducible exact Keeps.refl _ | with_reducible assumption | (with_reducible refine Keeps.alloc ?_ _) | (with_reducible refine Keeps.drew ?_) | (with_reducible refine Keeps.drewN ?_ _) | (with_reducible refine Keeps.set ?_ (by simp [go_sem, isU, *]) _) | (with_reducible refine Keeps.trans ?_ (Ext.keeps (by with_reducible assumption))) | (with_reducible refine Keeps.trans ?_ (by with_reducible assumption))))⟩⟩

set_option maxHeartbeats 1000000 in
theorem face_dies (b1 b2 : Nat) (x : Nat) (w : World)
    (hdo : ∀ W, Ext w W → Calls Try.prog 54 #[.pointer (some ⟨b1, 0, none⟩), .pointer (some ⟨b2, 0, none⟩)] W (Dies W x)) :
    Calls Try.prog 53 #[.func (.func 54) #[] #[.pointer (some ⟨b1, 0, none⟩), .pointer (some ⟨b2, 0, none⟩)]] w (Post w fun v _ => v = .tuple #[.agg #[.bool false, .slice none 0 0, .slice none 0 0], .int .i64 x]) := by
  have hdo' := Lib.hid hdo
  clear hdo
  have hmf : ∀ (fn : Fn) (first cap : Array Value) (w : World), (Instr.makeFunc fn first cap).run Try.prog w = .ok (.func fn first cap) w := fun _ _ _ _ => rfl
  go_enter_defers Try.func53, Try.ntmps53
  go_wp2_with fail
  refine (hdo'.out _ (by repeat (first | with_reducible exact Ext.refl _ | with_reducible assumption | (with_reducible refine Ext.alloc ?_ _) | (with_reducible refine Ext.drew ?_) | (with_reducible refine Ext.drewN ?_ _) | (with_reducible refine Ext.set ?_ (by first | (simp; done) | (simp; omega)) _) | (with_reducible refine Ext.trans ?_ (by with_reducible assumption))))).mono ?_
  rintro e w1 ⟨rfl, E1⟩
  clear hdo'
  obtain ⟨hc, hf⟩ := E1.look
  have hz := E1.size
  simp at hz
  go_wp2
  refine leaves_cons (f := 74) (args := #[.pointer (some ⟨w.heap.size, 0, none⟩), .pointer (some ⟨w.heap.size + 1, 0, none⟩)]) (by simp) (by simp [go_sem]) ?_
  refine (face1_catch w.heap.size (w.heap.size + 1) x false none none 0 0 0 0 0 [] _ ?_ ?_ ?_ ?_ ?_ ?_ ?_ ?_).mono ?_
  any_goals simp [go_sem, hc, hf]
  rintro e u' w2 rfl rfl hE k1 k2 k3 k4
  have hr : (results Try.f53 #[.func (.func 54) #[] #[.pointer (some ⟨b1, 0, none⟩), .pointer (some ⟨b2, 0, none⟩)], undef, .pointer (some ⟨w.heap.size, 0, none⟩), .pointer (some ⟨w.heap.size + 1, 0, none⟩), .func (.func 74) #[] #[.pointer (some ⟨w.heap.size, 0, none⟩), .pointer (some ⟨w.heap.size + 1, 0, none⟩)], .func (.func 54) #[] #[.pointer (some ⟨b1, 0, none⟩), .pointer (some ⟨b2, 0, none⟩)], undef]).run Try.prog w2 = .ok (.tuple #[.agg #[.bool false, .slice none 0 0, .slice none 0 0], .int .i64 x]) w2 := by
    simp [results, Try.results53, go_sem, k1, k2, k3, k4]
  show ∃ v, _ ∧ _
  exact ⟨_, hr, Post.mk (hE w ((Ext.of_alloc w _).trans ((Ext.of_alloc _ _).trans E1)) (by omega) (by omega)) rfl⟩
end Go.Proofs.Ytgihjgkpmochcaa

namespace Go.Proofs.Ytgihjgkpmochcaa
open Go.RowKit

theorem make_ok (g1 g2 : Bool) (a1 a2 : Option Addr) (n1 c1 n2 c2 n d : Nat) (w : World) (h1 : IsN w (.slice a1 n1 c1) n) (h2 : IsN w (.slice a2 n2 c2) d) (ht1 : n < Top) (ht2 : d < Top) (hd : d ≠ 0) :
    Calls Try.prog 32 #[.agg #[.bool g1, .slice a1 n1 c1], .agg #[.bool g2, .slice a2 n2 c2]] w (Post w fun v w' => FOk w' v (sg (g1 != g2) (n / Nat.gcd n d)) (n / Nat.gcd n d) (d / Nat.gcd n d)) := by
  have hmf : ∀ (fn : Fn) (first cap : Array Value) (w : World), (Instr.makeFunc fn first cap).run Try.prog w = .ok (.func fn first cap) w := fun _ _ _ _ => rfl
  have Hd := Lib.hid hd
  clear hd
  go_enter Try.func32, Try.ntmps32
  go_wp2_with fail
  refine (face_ok w.heap.size (w.heap.size + 1) (sg (g1 != g2) (n / Nat.gcd n d)) (n / Nat.gcd n d) (d / Nat.gcd n d) _ fun W hW => ?_).mono ?_
  · refine make1_ok _ _ g1 g2 a1 a2 n1 c1 n2 c2 n d W (hW.cell (by simp [go_sem])) (hW.cell (by simp [go_sem])) (hW.cell (by simp [go_sem])) (hW.cell (by simp [go_sem])) (h1.ext (by repeat (first | with_reducible exact Ext.refl _ | with_reducible assumption | (with_reducible refine Ext.alloc ?_ _) | (with_reducible refine Ext.drew ?_) | (with_reducible refine Ext.drewN ?_ _) | (with_reducible refine Ext.set ?_ (by first | (simp; done) | (simp; omega)) _) | (with_reducible refine Ext.trans ?_ (by with_reducible assumption))))) (h2.ext (by repeat (first | with_reducible exact Ext.refl _ | with_reducible assumption | (with_reducible refine Ext.alloc ?_ _) | (with_reducible refine Ext.drew ?_) | (with_reducible refine Ext.drewN ?_ _) | (with_reducible refine Ext.set ?_ (by first | (simp; done) | (simp; omega)) _) | (with_reducible refine Ext.trans ?_ (by with_reducible assumption))))) ht1 ht2 Hd.out
  rintro e w1 ⟨_, rfl, E1, _, rfl, a5, n5, c5, a6, n6, c6, rfl, hu, hv⟩
  obtain ⟨hc, hf⟩ := E1.look
  have hz := E1.size
  simp at hz
  obtain ⟨b, hb⟩ : ∃ b, b = sg (g1 != g2) (n / Nat.gcd n d) := ⟨_, rfl⟩
  rw [← hb]
  have Hb := Lib.hid hb
  clear hb
  go_wp2
  exact bodyPost_ret (v := .tuple #[.agg #[.bool b, .slice a5 n5 c5, .slice a6 n6 c6], .int .i64 0]) (by simp [results, Try.results32, go_sem, hc]) rfl (Post.mk (by repeat (first | with_reducible exact Ext.refl _ | with_reducible assumption | (with_reducible refine Ext.alloc ?_ _) | (with_reducible refine Ext.drew ?_) | (with_reducible refine Ext.drewN ?_ _) | (with_reducible refine Ext.set ?_ (by first | (simp; done) | (simp; omega)) _) | (with_reducible refine Ext.trans ?_ (by with_reducible assumption)))) ⟨_, rfl, a5, n5, c5, a6, n6, c6, by rw [← Hb.out], hu.keep (by repeat (first | with_reducible exact Keeps.refl _ | with_reducible assumption | (with_reducible refine Keeps.alloc ?_ _) | (with_reducible refine Keeps.drew ?_) | (with_reducible refine Keeps.drewN ?_ _) | (with_reducible refine Keeps.set ?_ (by simp [go_sem, isU, *]) _) | (with_reducible refine Keeps.trans ?_ (Ext.keeps (by with_reducible assumption))) | (with_reducible refine Keeps.trans ?_ (by with_reducible assumption)))), hv.keep (by repeat (first | with_reducible exact Keeps.refl _ | with_reducible assumption | (with_reducible refine Keeps.alloc ?_ _) | (with_reducible refine Keeps.drew ?_) | (with_reducible refine Keeps.drewN ?_ _) | (with_reducible refine Keeps.set ?_ (by simp [go_sem, isU, *]) _) | (with_reducible refine Keeps.trans ?_ (Ext.keeps (by with_reducible assumption))) | (with_reducible refine Keeps.trans ?_ (by with_reducible assumption))))⟩)
theorem make_zero (g1 g2 : Bool) (a1 a2 : Option Addr) (n1 c1 n2 c2 n : Nat) (w : World) (h1 : IsN w (.slice a1 n1 c1) n) (h2 : IsN w (.slice a2 n2 c2) 0) (ht1 : n < Top) :
    Calls Try.prog 32 #[.agg #[.bool g1, .slice a1 n1 c1], .agg #[.bool g2, .slice a2 n2 c2]] w (Post w fun v _ => v = .tuple #[.agg #[.bool false, .slice none 0 0, .slice none 0 0], .int .i64 2]) := by
  have hmf : ∀ (fn : Fn) (first cap : Array Value) (w : World), (Instr.makeFunc fn first cap).run Try.prog w = .ok (.func fn first cap) w := fun _ _ _ _ => rfl
  go_enter Try.func32, Try.ntmps32
  go_wp2_with fail
  refine (face_dies w.heap.size (w.heap.size + 1) 2 _ fun W hW => ?_).mono ?_
  · refine make1_zero _ _ g1 g2 a1 a2 n1 c1 n2 c2 n W (hW.cell (by simp [go_sem])) (hW.cell (by simp [go_sem])) (hW.cell (by simp [go_sem])) (hW.cell (by simp [go_sem])) (h1.ext (by repeat (first | with_reducible exact Ext.refl _ | with_reducible assumption | (with_reducible refine Ext.alloc ?_ _) | (with_reducible refine Ext.drew ?_) | (with_reducible refine Ext.drewN ?_ _) | (with_reducible refine Ext.set ?_ (by first | (simp; done) | (simp; omega)) _) | (with_reducible refine Ext.trans ?_ (by with_reducible assumption))))) (h2.ext (by repeat (first | with_reducible exact Ext.refl _ | with_reducible assumption | (with_reducible refine Ext.alloc ?_ _) | (with_reducible refine Ext.drew ?_) | (with_reducible refine Ext.drewN ?_ _) | (with_reducible refine Ext.set ?_ (by first | (simp; done) | (simp; omega)) _) | (with_reducible refine Ext.trans ?_ (by with_reducible assumption))))) ht1
  rintro e w1 ⟨_, rfl, E1, rfl⟩
  obtain ⟨hc, hf⟩ := E1.look
  have hz := E1.size
  simp at hz
  go_wp2
  exact bodyPost_ret (v := .tuple #[.agg #[.bool false, .slice none 0 0, .slice none 0 0], .int .i64 2]) (by simp [results, Try.results32, go_sem, hc]) rfl (Post.mk (by repeat (first | with_reducible exact Ext.refl _ | with_reducible assumption | (with_reducible refine Ext.alloc ?_ _) | (with_reducible refine Ext.drew ?_) | (with_reducible refine Ext.drewN ?_ _) | (with_reducible refine Ext.set ?_ (by first | (simp; done) | (simp; omega)) _) | (with_reducible refine Ext.trans ?_ (by with_reducible assumption)))) rfl)

set_option maxHeartbeats 1000000 in
theorem fnorm_ok (g : Bool) (a1 a2 : Option Addr) (n1 c1 n2 c2 n d : Nat) (w : World) (h1 : IsN w (.slice a1 n1 c1) n) (h2 : IsN w (.slice a2 n2 c2) d) (ht1 : n < Top) (ht2 : d < Top) (hd : d ≠ 0) :
    Calls Try.prog 45 #[.agg #[.bool g, .slice a1 n1 c1, .slice a2 n2 c2]] w (Post w fun v w' => FOk w' v (sg g (n / Nat.gcd n d)) (n / Nat.gcd n d) (d / Nat.gcd n d)) := by
  have eb : sg (g != false) (n / Nat.gcd n d) = sg g (n / Nat.gcd n d) := by cases g <;> rfl
  rw [← eb]
  have Hd := Lib.hid hd
  clear hd eb
  go_enter Try.func45, Try.ntmps45
  go_wp2
  go_region_with (first | (go_at_call 66; refine (whole_any _ _ _ _).mono ?_; rintro e w1 ⟨_, rfl, E1, rfl⟩; obtain ⟨hc, hf⟩ := E1.look) | (go_at_call 32; refine (make_ok g false a1 a2 n1 c1 n2 c2 n d _ (h1.ext (by repeat (first | with_reducible exact Ext.refl _ | with_reducible assumption | (with_reducible refine Ext.alloc ?_ _) | (with_reducible refine Ext.drew ?_) | (with_reducible refine Ext.drewN ?_ _) | (with_reducible refine Ext.set ?_ (by first | (simp; done) | (simp; omega)) _) | (with_reducible refine Ext.trans ?_ (by with_reducible assumption))))) (h2.ext (by repeat (first | with_reducible exact Ext.refl _ | with_reducible assumption | (with_reducible refine Ext.alloc ?_ _) | (with_reducible refine Ext.drew ?_) | (with_reducible refine Ext.drewN ?_ _) | (with_reducible refine Ext.set ?_ (by first | (simp; done) | (simp; omega)) _) | (with_reducible refine Ext.trans ?_ (by with_reducible assumption))))) ht1 ht2 Hd.out).mono ?_; rintro e w2 ⟨_, rfl, E2, _, rfl, a5, n5, c5, a6, n6, c6, rfl, hu, hv⟩; have F := E1.trans E2; clear hc hf; obtain ⟨hc, hf⟩ := F.look; have hz := F.size; simp at hz; obtain ⟨b, hb⟩ : ∃ b, b = sg (g != false) (n / Nat.gcd n d) := ⟨_, rfl⟩; rw [← hb]; have Hb := Lib.hid hb; clear hb))
  all_goals
    clear F
    go_wp2
    exact bodyPost_ret (v := .tuple #[.agg #[.bool b, .slice a5 n5 c5, .slice a6 n6 c6], .int .i64 0]) (by simp [results, Try.results45, go_sem, hc]) rfl (Post.mk (by repeat (first | with_reducible exact Ext.refl _ | with_reducible assumption | (with_reducible refine Ext.alloc ?_ _) | (with_reducible refine Ext.drew ?_) | (with_reducible refine Ext.drewN ?_ _) | (with_reducible refine Ext.set ?_ (by first | (simp; done) | (simp; omega)) _) | (with_reducible refine Ext.trans ?_ (by with_reducible assumption)))) ⟨_, rfl, a5, n5, c5, a6, n6, c6, by rw [← Hb.out], hu.keep (by repeat (first | with_reducible exact Keeps.refl _ | with_reducible assumption | (with_reducible refine Keeps.alloc ?_ _) | (with_reducible refine Keeps.drew ?_) | (with_reducible refine Keeps.drewN ?_ _) | (with_reducible refine Keeps.set ?_ (by simp [go_sem, isU, *]) _) | (with_reducible refine Keeps.trans ?_ (Ext.keeps (by with_reducible assumption))) | (with_reducible refine Keeps.trans ?_ (by with_reducible assumption)))), hv.keep (by repeat (first | with_reducible exact Keeps.refl _ | with_reducible assumption | (with_reducible refine Keeps.alloc ?_ _) | (with_reducible refine Keeps.drew ?_) | (with_reducible refine Keeps.drewN ?_ _) | (with_reducible refine Keeps.set ?_ (by simp [go_sem, isU, *]) _) | (with_reducible refine Keeps.trans ?_ (Ext.keeps (by with_reducible assumption))) | (with_reducible refine Keeps.trans ?_ (by with_reducible assumption))))⟩)

set_option maxHeartbeats 1000000 in
theorem fnorm_zero (g : Bool) (a1 a2 : Option Addr) (n1 c1 n2 c2 n : Nat) (w : World) (h1 : IsN w (.slice a1 n1 c1) n) (h2 : IsN w (.slice a2 n2 c2) 0) (ht1 : n < Top) :
    Calls Try.prog 45 #[.agg #[.bool g, .slice a1 n1 c1, .slice a2 n2 c2]] w (Post w fun v _ => v = .tuple #[.agg #[.bool false, .slice none 0 0, .slice none 0 0], .int .i64 2]) := by
  go_enter Try.func45, Try.ntmps45
  go_wp2
  go_region_with (first | (go_at_call 66; refine (whole_any _ _ _ _).mono ?_; rintro e w1 ⟨_, rfl, E1, rfl⟩; obtain ⟨hc, hf⟩ := E1.look) | (go_at_call 32; refine (make_zero g false a1 a2 n1 c1 n2 c2 n _ (h1.ext (by repeat (first | with_reducible exact Ext.refl _ | with_reducible assumption | (with_reducible refine Ext.alloc ?_ _) | (with_reducible refine Ext.drew ?_) | (with_reducible refine Ext.drewN ?_ _) | (with_reducible refine Ext.set ?_ (by first | (simp; done) | (simp; omega)) _) | (with_reducible refine Ext.trans ?_ (by with_reducible assumption))))) (h2.ext (by repeat (first | with_reducible exact Ext.refl _ | with_reducible assumption | (with_reducible refine Ext.alloc ?_ _) | (with_reducible refine Ext.drew ?_) | (with_reducible refine Ext.drewN ?_ _) | (with_reducible refine Ext.set ?_ (by first | (simp; done) | (simp; omega)) _) | (with_reducible refine Ext.trans ?_ (by with_reducible assumption))))) ht1).mono ?_; rintro e w2 ⟨_, rfl, E2, rfl⟩; have F := E1.trans E2; clear hc hf; obtain ⟨hc, hf⟩ := F.look; have hz := F.size; simp at hz))
  all_goals
    clear F
    go_wp2
    exact bodyPost_ret (v := .tuple #[.agg #[.bool false, .slice none 0 0, .slice none 0 0], .int .i64 2]) (by simp [results, Try.results45, go_sem, hc]) rfl (Post.mk (by repeat (first | with_reducible exact Ext.refl _ | with_reducible assumption | (with_reducible refine Ext.alloc ?_ _) | (with_reducible refine Ext.drew ?_) | (with_reducible refine Ext.drewN ?_ _) | (with_reducible refine Ext.set ?_ (by first | (simp; done) | (simp; omega)) _) | (with_reducible refine Ext.trans ?_ (by with_reducible assumption)))) rfl)

theorem fof_any (x : Nat) (hx : x < 9223372036854775808) (w : World) : Calls Try.prog 46 #[.int .i64 x] w (Post w fun v w' => FNum w' v false x 1) := by
  go_enter Try.func46, Try.ntmps46
  go_wp2_with fail
  refine (zof_any x hx _).mono ?_
  rintro e w1 ⟨_, rfl, E1, a5, n5, c5, rfl, hu, _⟩
  go_wp2_with fail
  refine (of_n (x := 1) (by unfold B64; omega) _).mono ?_
  rintro e w2 ⟨_, rfl, E2, hv⟩
  obtain ⟨a6, n6, c6, rfl⟩ := hv.sl
  have F := E1.trans E2
  obtain ⟨hc, hf⟩ := F.look
  have hz := F.size
  simp at hz
  clear F
  go_wp2
  exact bodyPost_ret (v := .agg #[.bool false, .slice a5 n5 c5, .slice a6 n6 c6]) (by simp [results, Try.results46, go_sem, hc]) rfl (Post.mk (by repeat (first | with_reducible exact Ext.refl _ | with_reducible assumption | (with_reducible refine Ext.alloc ?_ _) | (with_reducible refine Ext.drew ?_) | (with_reducible refine Ext.drewN ?_ _) | (with_reducible refine Ext.set ?_ (by first | (simp; done) | (simp; omega)) _) | (with_reducible refine Ext.trans ?_ (by with_reducible assumption)))) ⟨a5, n5, c5, a6, n6, c6, rfl, hu.keep (by repeat (first | with_reducible exact Keeps.refl _ | with_reducible assumption | (with_reducible refine Keeps.alloc ?_ _) | (with_reducible refine Keeps.drew ?_) | (with_reducible refine Keeps.drewN ?_ _) | (with_reducible refine Keeps.set ?_ (by simp [go_sem, isU, *]) _) | (with_reducible refine Keeps.trans ?_ (Ext.keeps (by with_reducible assumption))) | (with_reducible refine Keeps.trans ?_ (by with_reducible assumption)))), hv.keep (by repeat (first | with_reducible exact Keeps.refl _ | with_reducible assumption | (with_reducible refine Keeps.alloc ?_ _) | (with_reducible refine Keeps.drew ?_) | (with_reducible refine Keeps.drewN ?_ _) | (with_reducible refine Keeps.set ?_ (by simp [go_sem, isU, *]) _) | (with_reducible refine Keeps.trans ?_ (Ext.keeps (by with_reducible assumption))) | (with_reducible refine Keeps.trans ?_ (by with_reducible assumption))))⟩)
end Go.Proofs.Ytgihjgkpmochcaa
