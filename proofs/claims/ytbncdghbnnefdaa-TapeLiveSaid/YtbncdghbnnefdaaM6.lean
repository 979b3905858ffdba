/- Parts of the proof: contracts of the functions that the law reaches, and the arithmetic that they rest on; no condition beyond those that each theorem states. -/
import Derived.WalkSmall
import Derived.Test.YtbncdghbnnefdaaM1
import Derived.Test.YtbncdghbnnefdaaM5

namespace Go.Proofs.Ytbncdghbnnefdaa
open Go.RowKit

end Go.Proofs.Ytbncdghbnnefdaa

namespace Go.Proofs.Ytbncdghbnnefdaa
open Go.RowKit

/-- A bit of a number. -/
def bitN (m i : Nat) : Nat := m / 2 ^ i % 2
theorem bitN_lt (m i : Nat) : bitN m i < 2 := Nat.mod_lt _ (by omega)
theorem bit_limb {xs : List Nat} (h : ∀ x ∈ xs, x < B64) (i : Nat) : xs[i / 64]?.getD 0 / 2 ^ (i % 64) % 2 = bitN (val xs) i := by
  rw [limb_at h]
  have e : B64 = 2 ^ (i % 64) * (2 * 2 ^ (63 - i % 64)) := by
    rw [Nat.mul_comm 2, ← Nat.pow_succ, ← Nat.pow_add, B64_two]; congr 1; omega
  rw [show val xs / B64 ^ (i / 64) % B64 = val xs / B64 ^ (i / 64) % (2 ^ (i % 64) * (2 * 2 ^ (63 - i % 64))) by rw [← e], Nat.mod_mul_right_div_self, Nat.mod_mul_right_mod, Nat.div_div_eq_div_mul, B64_pow, ← Nat.pow_add]
  unfold bitN
  congr 3
  omega
theorem bit_far {xs : List Nat} {i : Nat} (h : xs.length ≤ i / 64) (hx : ∀ x ∈ xs, x < B64) : bitN (val xs) i = 0 := by
  rw [← bit_limb hx, List.getElem?_eq_none h]; simp

/-- Bit's answer, at whatever place. -/
def bitB (m : Nat) (i : Int) : Bool := decide (0 ≤ i) && bitN m i.toNat == 1
theorem blen_down {m k : Nat} (h : blen m ≤ k + 1) (hb : bitN m k = 0) : blen m ≤ k := by
  rw [← blen_iff] at h ⊢
  unfold bitN at hb
  rw [Nat.pow_succ] at h
  have h2 : m / 2 ^ k < 2 := Nat.div_lt_of_lt_mul h
  have h0 : m / 2 ^ k = 0 := by generalize m / 2 ^ k = t at *; omega
  rcases Nat.div_eq_zero_iff.1 h0 with h1 | h1
  · have := Nat.two_pow_pos k; omega
  · exact h1
theorem blen_here {m k : Nat} (h : blen m ≤ k + 1) (hb : bitN m k ≠ 0) : blen m = k + 1 := by
  have : k < blen m := by
    apply blen_le_of
    have hn : ¬ m < 2 ^ k := fun hlt => hb (by unfold bitN; rw [Nat.div_eq_of_lt hlt])
    omega
  omega
end Go.Proofs.Ytbncdghbnnefdaa

namespace Go.Proofs.Ytbncdghbnnefdaa
open Go.RowKit

/-- Limbs in a row of the call's own. -/
def Own (w : World) (B : Nat) (v : Value) (L : List Nat) : Prop := w.ownsRow B 61 1 v L.length (lims L)
theorem Own.nil (w : World) (B : Nat) : Own w B (.slice none 0 0) [] := World.ownsRow_nil _ _ _ _
theorem Own.ext {w w' : World} {B : Nat} {v : Value} {L : List Nat} (h : Own w B v L) (e : Ext w w') : Own w' B v L := by
  refine ⟨h.1, ?_⟩
  rcases h.2 with h | ⟨g, cap, cur, h, h1, h2, h3⟩
  · exact .inl h
  · exact .inr ⟨g, cap, cur, h, h1, e.block h2, h3⟩
theorem Own.of {w : World} {B x : Nat} {v : Value} {L : List Nat} (h : w.ownsRow B 61 1 v (L.length + 1) (lims L ++ [.int .u64 (x : Int)])) : Own w B v (L ++ [x]) := by
  unfold Own; rw [List.length_append, List.length_singleton, lims_snoc]; exact h
theorem Own.nums {w : World} {B : Nat} {v : Value} {L : List Nat} (h : Own w B v L) (hf : L.length ≤ 65536) (hx : ∀ x ∈ L, x < B64) : ∃ a c, v = .slice a L.length c ∧ Nums w a L.length c L ∧ Fresh B a := Nums.of_own' h hf hx
theorem lt_64 {L : List Nat} (h : ∀ x ∈ L, x < B32) : ∀ x ∈ L, x < B64 := fun x hx => Nat.lt_trans (h x hx) (by unfold B32 B64; omega)

/-- A value whose cells, if it has any, came after the first B blocks. -/
def FreshV (B : Nat) (v : Value) : Prop := ∀ a n c, v = .slice a n c → Fresh B a
theorem FreshV.of {B : Nat} {a : Option Addr} {n c : Nat} (h : Fresh B a) : FreshV B (.slice a n c) := fun a' n' c' e => by cases e; exact h
theorem Fresh.mono {B B' : Nat} {a : Option Addr} (h : Fresh B a) (hb : B' ≤ B) : Fresh B' a := fun p hp => Nat.le_trans hb (h p hp)

theorem IsN.len {w : World} {v : Value} {m : Nat} (h : IsN w v m) : ∃ a n c, v = .slice a n c ∧ n ≤ 4096 ∧ m < B32 ^ (2 * n) := by
  obtain ⟨a, n, c, xs, rfl, h, hn, rfl⟩ := h
  refine ⟨a, n, c, rfl, hn, ?_⟩
  rw [← B64_pow2, ← h.len]
  exact val_lt h.lt

end Go.Proofs.Ytbncdghbnnefdaa

namespace Go.Proofs.Ytbncdghbnnefdaa
open Go.RowKit

theorem Own.of_row {w : World} {b B n : Nat} {L : List Nat} (h : Row w b 61 L) (hB : B ≤ b) (hn : n = L.length) (hm : n ≤ 1000000) : Own w B (.slice (some ⟨b, 0, none⟩) n n) L := by
  subst hn
  refine ⟨by simp [lims], .inr ⟨b, L.length, _, rfl, hB, h, Nat.le_refl _, by unfold maxLen; omega, by simp [lims], by rw [Nat.mul_one]; exact List.take_of_length_le (by simp [lims])⟩⟩
theorem shl_bd {x r : Nat} (hx : x < B32) (hr : r < 32) : x * 2 ^ r + B32 ≤ B64 := by
  have h1 : (2 : Nat) ^ r ≤ 2 ^ 31 := Nat.pow_le_pow_right (by omega) (by omega)
  have h2 : x * 2 ^ r ≤ x * 2 ^ 31 := Nat.mul_le_mul_left _ h1
  unfold B32 B64 at *
  omega

end Go.Proofs.Ytbncdghbnnefdaa

namespace Go.Proofs.Ytbncdghbnnefdaa
open Go.RowKit

end Go.Proofs.Ytbncdghbnnefdaa

namespace Go.Proofs.Ytbncdghbnnefdaa
open Go.RowKit

theorem div_digit (m t : Nat) : m / B32 ^ t = B32 * (m / B32 ^ (t + 1)) + dg m t := by
  unfold dg
  rw [Nat.pow_succ, ← Nat.div_div_eq_div_mul, Nat.div_add_mod]
theorem cmp_digit {m1 m2 t : Nat} (h : m1 / B32 ^ (t + 1) = m2 / B32 ^ (t + 1)) (hd : dg m1 t < dg m2 t) : m1 < m2 := by
  have h1 := div_digit m1 t
  have h2 := div_digit m2 t
  rw [h] at h1
  have : m1 / B32 ^ t < m2 / B32 ^ t := by omega
  exact Nat.lt_of_div_lt_div this
theorem cmpN_lt {m1 m2 : Nat} (h : m1 < m2) : cmpN m1 m2 = -1 := by unfold cmpN; rw [if_pos h]
theorem cmpN_gt {m1 m2 : Nat} (h : m2 < m1) : cmpN m1 m2 = 1 := by unfold cmpN; rw [if_neg (by omega), if_pos h]

end Go.Proofs.Ytbncdghbnnefdaa
