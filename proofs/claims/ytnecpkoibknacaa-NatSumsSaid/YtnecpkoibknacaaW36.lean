/- The reference's leaves: Norm, Same, bit, Bits, digit, Cmp. -/
import Derived.Test.YtnecpkoibknacaaPlainL
import Derived.Test.YtnecpkoibknacaaW31
namespace Go.Proofs.Ytnecpkoibknacaa
open Go.RowKit

/-- Two slices that read as the same limbs, the last one not 0. -/
theorem same_any (a1 a2 : Option Addr) (n c1 c2 : Nat) (xs : List Nat) (w : World) (h1 : Nums w a1 n c1 xs) (h2 : Nums w a2 n c2 xs) (hl : n = 0 ∨ xs[n - 1]?.getD 0 ≠ 0) :
    Calls Try.prog 14 #[.slice a1 n c1, .slice a2 n c2] w (Post w fun v _ => v = .bool true) := by
  have hfew := h1.few
  have hcap := h1.cap
  go_enter Try.func14, Try.ntmps14
  go_wp2
  go_loopw [5] (fun i wr => ∃ j : Nat, j ≤ n ∧ i = .int .i64 j ∧ Ext w wr) (fun i _ => n - (intOf i).toNat)
  case atStart => exact ⟨0, Nat.zero_le _, rfl, Ext.refl _⟩
  case round =>
    obtain ⟨j, hj, rfl, hE⟩ := hrel
    by_cases hlt : j < n
    · obtain ⟨b1, o1, rfl, k1⟩ := (h1.ext hE).at hlt
      obtain ⟨b2, o2, rfl, k2⟩ := (h2.ext hE).at hlt
      have hbd := h1.bd j
      generalize xs[j]?.getD 0 = x at *
      have hj0 : (0 : Int) ≤ j := by omega
      have hj1 : (j : Int) < n := by omega
      clear h1 h2 hl
      go_wp2
      go_quiet (fail)
      go_wp2
      go_roundw
      case rel => exact ⟨j + 1, by omega, by go_num, hE.drewN _⟩
      case measure => simp [intOf]; omega
    · obtain rfl : j = n := by omega
      by_cases h0 : j = 0
      · subst h0
        go_wp2
        go_ret
        exact Post.mk hE rfl
      · obtain ⟨j, rfl⟩ : ∃ i, j = i + 1 := ⟨j - 1, by omega⟩
        obtain ⟨b1, o1, rfl, k1⟩ := (h1.ext hE).at (i := j) (by omega)
        have hx : xs[j]?.getD 0 ≠ 0 := by rcases hl with h | h; exact absurd h h0; simpa using h
        have hbd := h1.bd j
        generalize xs[j]?.getD 0 = x at *
        have hx' : ((x : Int) != 0) = true := by simp [hx]
        have HX := Lib.hid hx
        clear hx hl h1 h2
        go_wp2
        go_ret
        exact Post.mk hE rfl
end Go.Proofs.Ytnecpkoibknacaa
