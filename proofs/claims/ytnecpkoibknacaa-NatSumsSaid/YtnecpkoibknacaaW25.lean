/- Text, whatever the number; the bytes of a text that is no number. -/
import Derived.Test.YtnecpkoibknacaaW24
namespace Go.Proofs.Ytnecpkoibknacaa
open Go.RowKit

theorem text_zero (a : Option Addr) (n c : Nat) (xs : List Nat) (w : World) (h : Nums w a n c xs) (h0 : val xs = 0) :
    Calls Try.prog 23 #[.slice a n c] w (Post w fun v _ => v = .string (txt [48])) := by
  have hno : [xs].any isLong = false := by rw [any_one]; exact isLong_false (by rw [h0]; exact Top_pos)
  have HNO := Lib.hid hno
  have H0 := Lib.hid h0
  clear hno h0
  go_enter Try.func23, Try.ntmps23
  go_wp2_with (first
    | (go_at_call 42; refine (long_any _ _ _ [xs] _ (NumsL.one (by simp) (h.ext (Ext.of_alloc _ _)))).mono ?_; rintro e w2 ⟨v, rfl, hext2, rfl⟩; rw [HNO.out]; have hn2 := h.ext ((Ext.of_alloc _ _).trans hext2); have hE2 := (Ext.of_alloc w _).trans hext2; clear h hext2)
    | (go_at_call 41; refine (normal_any _ _ _ _ _ hn2).mono ?_; rintro e w3 ⟨v, rfl, hext3, a', n', c', rfl, hn⟩; rw [H0.out, limbs_zero] at hn; obtain rfl : n' = 0 := hn.len.symm))
  go_ret
  exact Post.mk (hE2.trans hext3) rfl
theorem text_any (a : Option Addr) (n c : Nat) (xs : List Nat) (w : World) (h : Nums w a n c xs) (hf : val xs < Top) :
    Calls Try.prog 23 #[.slice a n c] w (Post w fun v _ => v = .string (txt (decT (val xs)))) := by
  unfold decT
  by_cases h0 : val xs = 0
  · rw [if_pos h0]; exact text_zero a n c xs w h h0
  · rw [if_neg h0]; exact text_main a n c xs w h hf h0

/-- The closure that Parse hands out: is this byte no digit? -/
theorem notDigit_any (x : Nat) (hx : x < 256) (w : World) :
    Calls Try.prog 58 #[.int .u8 x] w fun e w' => e = .returned (.bool (decide (x < 48 ∨ 57 < x))) ∧ w' = w := by
  by_cases h1 : x < 48
  · have e : decide (x < 48 ∨ 57 < x) = true := by simp [h1]
    rw [e]
    go_enter Try.func58, Try.ntmps58
    go_wp2
    go_ret
    exact ⟨rfl, rfl⟩
  · have e : (decide ((x : Int) < 48) || decide ((57 : Int) < x)) = decide (x < 48 ∨ 57 < x) := by
      rw [Bool.eq_iff_iff]; simp; omega
    have H1 := Lib.hid h1
    rw [← e]
    clear e h1
    by_cases h2 : 57 < x
    · have h1 := H1.out
      go_enter Try.func58, Try.ntmps58
      go_wp2
      go_ret
      exact ⟨rfl, rfl⟩
    · have h1 := H1.out
      go_enter Try.func58, Try.ntmps58
      go_wp2
      go_ret
      exact ⟨rfl, rfl⟩

/-- Where the first byte stands that is no digit. -/
def firstBad : List Nat → Nat → Int
  | [], _ => -1
  | x :: l, k => if x < 48 ∨ 57 < x then (k : Int) else firstBad l (k + 1)
theorem firstBad_drop (L : List Nat) (k : Nat) (hk : k < L.length) : firstBad (L.drop k) k = if L[k]?.getD 0 < 48 ∨ 57 < L[k]?.getD 0 then (k : Int) else firstBad (L.drop (k + 1)) (k + 1) := by
  rw [List.drop_eq_getElem_cons hk, firstBad, List.getElem?_eq_getElem hk]
  rfl
theorem firstBad_iff (L : List Nat) (k : Nat) : 0 ≤ firstBad L k ↔ L.any (fun x => decide (x < 48 ∨ 57 < x)) = true := by
  induction L generalizing k with
  | nil => simp [firstBad]
  | cons x L ih =>
    rw [firstBad, List.any_cons]
    by_cases h : x < 48 ∨ 57 < x
    · rw [if_pos h]; simp [h]
    · rw [if_neg h, ih]; simp [h]
end Go.Proofs.Ytnecpkoibknacaa
