/- Whether one of some numbers is too long. -/
import Derived.Test.YtnecpkoibknacaaW1
namespace Go.Proofs.Ytnecpkoibknacaa
open Go.RowKit

/-- Is a number too long? -/
def isLong (xs : List Nat) : Bool := decide (Top ≤ val xs)
theorem isLong_iff (xs : List Nat) : isLong xs = decide (2048 < (limbs (val xs)).length) := by
  unfold isLong
  have := fits_iff (val xs)
  by_cases h : Top ≤ val xs <;> simp [h] <;> omega

/-- The slice reads as a row of numbers. -/
def NumsL (w : World) (a : Option Addr) (n : Nat) (xss : List (List Nat)) : Prop :=
  xss.length = n ∧ n ≤ 65536 ∧ (n = 0 ∨ ∃ b off, a = some ⟨b, off, none⟩ ∧ ∀ i xs, xss[i]? = some xs → ∃ ai ni ci, w.cell? ⟨b, off + i, none⟩ = some (.slice ai ni ci) ∧ Nums w ai ni ci xs)

theorem long1_any (a : Option Addr) (n c : Nat) (xs : List Nat) (w : World) (h : Nums w a n c xs) :
    Calls Try.prog 65 #[.slice a n c] w (Post w fun v _ => v = .bool (isLong xs)) := by
  rw [isLong_iff]
  go_enter Try.func65, Try.ntmps65
  go_wp2_with (go_at_call 41; refine (normal_any _ _ _ _ _ h).mono ?_; rintro e w1 ⟨v, rfl, hext1, a', n', c', rfl, hn⟩; obtain rfl := hn.len)
  go_ret
  exact Post.mk hext1 (by simp; omega)

set_option maxHeartbeats 400000 in
theorem index_long_no (a : Option Addr) (n c : Nat) (xss : List (List Nat)) (w : World) (h : NumsL w a n xss) (hno : xss.any isLong = false) :
    Calls Try.prog 72 #[.slice a n c, .func (.func 65) #[] #[]] w (Post w fun v _ => v = .int .i64 (-1)) := by
  obtain ⟨rfl, hfew, hat⟩ := h
  have HNO := Lib.hid hno
  clear hno
  go_enter Try.func72, Try.ntmps72
  go_wp2
  go_loopw [8] (fun k wr => ∃ j : Nat, j ≤ xss.length ∧ k = .int .i64 j ∧ Ext w wr) (fun k _ => xss.length - (intOf k).toNat)
  case atStart => exact ⟨0, Nat.zero_le _, rfl, Ext.refl _⟩
  case round =>
    obtain ⟨j, hj, rfl, hext⟩ := hrel
    by_cases hlt : j < xss.length
    · rcases hat with h0 | ⟨b, off, rfl, hc⟩
      · omega
      obtain ⟨ai, ni, ci, hcell, hn⟩ := hc j xss[j] (List.getElem?_eq_getElem hlt)
      have hcell' := hext.cell hcell
      have hl : isLong xss[j] = false := by
        have := HNO.out
        rw [List.any_eq_false] at this
        simpa using this xss[j] (List.getElem_mem hlt)
      have HL := Lib.hid hl
      clear hl hc hcell
      go_wp2_with (go_at_call 65; refine (long1_any _ _ _ _ _ (hn.ext hext)).mono ?_; rintro e w1 ⟨v, rfl, hext1, rfl⟩; rw [HL.out])
      go_roundw
      case rel => exact ⟨j + 1, by omega, by go_num, hext.trans hext1⟩
      case measure => simp [intOf]; omega
    · go_wp2
      go_ret
      exact Post.mk hext rfl

set_option maxHeartbeats 400000 in
theorem index_long_yes (a : Option Addr) (n c : Nat) (xss : List (List Nat)) (w : World) (h : NumsL w a n xss) (hyes : xss.any isLong = true) :
    Calls Try.prog 72 #[.slice a n c, .func (.func 65) #[] #[]] w (Post w fun v _ => ∃ k : Nat, v = .int .i64 k) := by
  obtain ⟨rfl, hfew, hat⟩ := h
  have HNO := Lib.hid hyes
  clear hyes
  go_enter Try.func72, Try.ntmps72
  go_wp2
  go_loopw [8] (fun k wr => ∃ j : Nat, j ≤ xss.length ∧ k = .int .i64 j ∧ Ext w wr ∧ ∀ i, i < j → (xss[i]?.map isLong) ≠ some true) (fun k _ => xss.length - (intOf k).toNat)
  case atStart => exact ⟨0, Nat.zero_le _, rfl, Ext.refl _, fun i hi => by omega⟩
  case round =>
    obtain ⟨j, hj, rfl, hext, hbef⟩ := hrel
    have HB := Lib.hid hbef
    clear hbef
    by_cases hlt : j < xss.length
    · rcases hat with h0 | ⟨b, off, rfl, hc⟩
      · omega
      obtain ⟨ai, ni, ci, hcell, hn⟩ := hc j xss[j] (List.getElem?_eq_getElem hlt)
      have hcell' := hext.cell hcell
      clear hc hcell
      cases hl : isLong xss[j] with
      | false =>
        have HL := Lib.hid hl
        clear hl
        go_wp2_with (go_at_call 65; refine (long1_any _ _ _ _ _ (hn.ext hext)).mono ?_; rintro e w1 ⟨v, rfl, hext1, rfl⟩; rw [HL.out])
        go_roundw
        case rel =>
          refine ⟨j + 1, by omega, by go_num, hext.trans hext1, fun i hi => ?_⟩
          by_cases hij : i = j
          · subst hij; rw [List.getElem?_eq_getElem hlt]; simp [HL.out]
          · exact HB.out i (by omega)
        case measure => simp [intOf]; omega
      | true =>
        have HL := Lib.hid hl
        clear hl
        go_wp2_with (go_at_call 65; refine (long1_any _ _ _ _ _ (hn.ext hext)).mono ?_; rintro e w1 ⟨v, rfl, hext1, rfl⟩; rw [HL.out])
        go_ret
        exact Post.mk (hext.trans hext1) ⟨j, rfl⟩
    · exfalso
      have hy := HNO.out
      rw [List.any_eq_true] at hy
      obtain ⟨x, hx, hx'⟩ := hy
      obtain ⟨i, hi, rfl⟩ := List.getElem_of_mem hx
      exact HB.out i (by omega) (by rw [List.getElem?_eq_getElem hi]; simp [hx'])

theorem contains_long (a : Option Addr) (n c : Nat) (xss : List (List Nat)) (w : World) (h : NumsL w a n xss) :
    Calls Try.prog 64 #[.slice a n c, .func (.func 65) #[] #[]] w (Post w fun v _ => v = .bool (xss.any isLong)) := by
  cases hl : xss.any isLong with
  | false =>
    go_enter Try.func64, Try.ntmps64
    go_wp2_with (go_at_call 72; refine (index_long_no _ _ _ _ _ h hl).mono ?_; rintro e w1 ⟨v, rfl, hext1, rfl⟩)
    go_ret
    exact Post.mk hext1 rfl
  | true =>
    go_enter Try.func64, Try.ntmps64
    go_wp2_with (go_at_call 72; refine (index_long_yes _ _ _ _ _ h hl).mono ?_; rintro e w1 ⟨v, rfl, hext1, k, rfl⟩)
    go_ret
    exact Post.mk hext1 (by simp)

theorem long_any (a : Option Addr) (n c : Nat) (xss : List (List Nat)) (w : World) (h : NumsL w a n xss) :
    Calls Try.prog 42 #[.slice a n c] w (Post w fun v _ => v = .bool (xss.any isLong)) := by
  go_enter Try.func42, Try.ntmps42
  go_wp2_with (go_at_call 64; refine (contains_long _ _ _ _ _ h).mono ?_; rintro e w1 ⟨v, rfl, hext1, rfl⟩)
  go_ret
  exact Post.mk hext1 rfl

/-- A row of two numbers that the call itself has laid. -/
theorem NumsL.two {w : World} {b : Nat} {a1 a2 : Option Addr} {n1 c1 n2 c2 : Nat} {xs ys : List Nat} (h1 : w.cell? ⟨b, 0, none⟩ = some (.slice a1 n1 c1)) (h2 : w.cell? ⟨b, 1, none⟩ = some (.slice a2 n2 c2))
    (hx : Nums w a1 n1 c1 xs) (hy : Nums w a2 n2 c2 ys) : NumsL w (some ⟨b, 0, none⟩) 2 [xs, ys] :=
  ⟨rfl, by omega, .inr ⟨b, 0, rfl, fun i zs hi => by
    match i, hi with
    | 0, hi => simp at hi; subst hi; exact ⟨_, _, _, h1, hx⟩
    | 1, hi => simp at hi; subst hi; exact ⟨_, _, _, h2, hy⟩
    | i + 2, hi => simp at hi⟩⟩
theorem NumsL.one {w : World} {b : Nat} {a1 : Option Addr} {n1 c1 : Nat} {xs : List Nat} (h1 : w.cell? ⟨b, 0, none⟩ = some (.slice a1 n1 c1)) (hx : Nums w a1 n1 c1 xs) : NumsL w (some ⟨b, 0, none⟩) 1 [xs] :=
  ⟨rfl, by omega, .inr ⟨b, 0, rfl, fun i zs hi => by
    match i, hi with
    | 0, hi => simp at hi; subst hi; exact ⟨_, _, _, h1, hx⟩
    | i + 1, hi => simp at hi⟩⟩
end Go.Proofs.Ytnecpkoibknacaa
