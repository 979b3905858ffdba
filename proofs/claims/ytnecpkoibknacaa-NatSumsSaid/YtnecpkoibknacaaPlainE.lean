/- Division of two limbs by one: the arithmetic. -/
import Derived.Laws.Bits64b
import Derived.Test.YtnecpkoibknacaaPlainD
namespace Go.Proofs.Ytnecpkoibknacaa
set_option linter.unusedVariables false
open Go.RowKit

theorem dv_iff {b y1 y0 q r d : Nat} (h0 : 0 < y1 * b + y0) : b * r + d < q * y0 ↔ ((q * y1 + r) * b + d) / (y1 * b + y0) < q := by
  rw [Nat.div_lt_iff_lt_mul h0, Nat.mul_add, Nat.add_mul, ← Nat.mul_assoc, Nat.mul_comm b r]; omega
theorem dv_lt {b u d y : Nat} (hu : u < y) (hd : d < b) : (u * b + d) / y < b := by
  rw [Nat.div_lt_iff_lt_mul (by omega)]
  have : (u + 1) * b ≤ y * b := Nat.mul_le_mul_right _ hu
  rw [Nat.add_mul] at this
  rw [Nat.mul_comm b y]; omega
theorem dv_start {b u d y1 y0 : Nat} (hd : d < b) (hy0 : y0 < b) (hu : u < y1 * b + y0) (hb : b ≤ 2 * y1) :
    (u * b + d) / (y1 * b + y0) ≤ u / y1 ∧ u / y1 ≤ b + 1 := by
  have hb0 : 0 < b := by omega
  have hy1 : 0 < y1 := by omega
  constructor
  · rw [Nat.le_div_iff_mul_le hy1]
    have h1 : (u * b + d) / (y1 * b + y0) * (y1 * b + y0) ≤ u * b + d := Nat.div_mul_le_self _ _
    generalize (u * b + d) / (y1 * b + y0) = Q at *
    have h2 : Q * y1 * b < (u + 1) * b := by
      rw [Nat.mul_add, ← Nat.mul_assoc] at h1
      rw [Nat.add_mul]; omega
    have := Nat.lt_of_mul_lt_mul_right h2
    omega
  · have h1 : u < (b + 2) * y1 := by rw [Nat.add_mul, Nat.mul_comm b y1]; omega
    have := (Nat.div_lt_iff_lt_mul hy1).2 h1
    omega
theorem dv_break {b q r y0 : Nat} (hq : q ≤ b + 1) (hr : b ≤ r) (hy0 : y0 < b) : q * y0 ≤ b * r := by
  have h1 : q * y0 ≤ (b + 1) * (b - 1) := Nat.mul_le_mul hq (by omega)
  have h2 : (b + 1) * (b - 1) ≤ b * b := by
    obtain ⟨c, rfl⟩ : ∃ c, b = c + 1 := ⟨b - 1, by omega⟩
    rw [Nat.add_sub_cancel, Nat.add_mul (c + 1) 1 c, Nat.mul_add]; omega
  exact Nat.le_trans h1 (Nat.le_trans h2 (Nat.mul_le_mul_left _ hr))
theorem dv_mul_lt {b q y0 : Nat} (hq : q ≤ b + 1) (hy0 : y0 < b) : q * y0 < b * b := by
  have h1 : q * y0 ≤ (b + 1) * (b - 1) := Nat.mul_le_mul hq (by omega)
  have h2 : (b + 1) * (b - 1) < b * b := by
    obtain ⟨c, rfl⟩ : ∃ c, b = c + 1 := ⟨b - 1, by omega⟩
    rw [Nat.add_sub_cancel, Nat.add_mul (c + 1) 1 c, Nat.mul_add]; omega
  omega

theorem wrap_nat (n : Nat) (h : n < 18446744073709551616) : IntKind.u64.wrap (n : Int) = n := by
  rw [IntKind.wrap_u64]; omega
theorem and_low (n : Nat) (h : n < 18446744073709551616) : bits .and .u64 (n : Int) 4294967295 = ((n % 4294967296 : Nat) : Int) := by
  have := bits_and_u64_nat n 4294967295 h (by omega)
  rw [show (4294967295 : Int) = ((4294967295 : Nat) : Int) from rfl, this]
  congr 1
  exact Nat.and_two_pow_sub_one_eq_mod n 32

theorem left_aux {U d Q Y R : Nat} (hR : R < 18446744073709551616) (h : U * 4294967296 + d = Q * Y + R) :
    IntKind.u64.wrap (IntKind.u64.wrap (IntKind.u64.wrap ((U : Int) * 4294967296) + d) - IntKind.u64.wrap ((Q : Int) * (Y : Int))) = R := by
  rw [← Int.natCast_mul]
  generalize Q * Y = P at *
  rw [IntKind.wrap_u64, IntKind.wrap_u64, IntKind.wrap_u64, IntKind.wrap_u64]
  omega
/-- One of the two quotients' digits that Div64 guesses and mends. -/
structure Dig (Y Y1 Y0 U d Q R q r : Nat) : Prop where
  quo : IntKind.u64.wrap ((U : Int) / (Y1 : Int)) = q
  rem : IntKind.u64.wrap ((U : Int) - IntKind.u64.wrap ((q : Int) * (Y1 : Int))) = r
  ge : Q ≤ q
  le : q ≤ 4294967297
  lt : r < 4294967296
  sum : q * Y1 + r = U
  top : Q < 4294967296
  left : IntKind.u64.wrap (IntKind.u64.wrap (IntKind.u64.wrap ((U : Int) * 4294967296) + d) - IntKind.u64.wrap ((Q : Int) * (Y : Int))) = R
  small : R < Y
  all : U * 4294967296 + d = Q * Y + R
theorem dig_of (Y Y1 Y0 U d : Nat) (hY : Y1 * 4294967296 + Y0 = Y) (hY1 : 2147483648 ≤ Y1) (hy1 : Y1 < 4294967296) (hY0 : Y0 < 4294967296) (hU : U < Y) (hd : d < 4294967296) :
    ∃ Q R q r, Dig Y Y1 Y0 U d Q R q r := by
  subst hY
  obtain ⟨h1, h2⟩ := dv_start (b := 4294967296) hd hY0 hU (by omega)
  have hlt := dv_lt (b := 4294967296) hU hd
  have hdm := Nat.div_add_mod (U * 4294967296 + d) (Y1 * 4294967296 + Y0)
  have hmod := Nat.mod_lt (U * 4294967296 + d) (y := Y1 * 4294967296 + Y0) (by omega)
  have hs := Nat.div_add_mod U Y1
  have hr := Nat.mod_lt U (y := Y1) (by omega)
  refine ⟨_, (U * 4294967296 + d) % (Y1 * 4294967296 + Y0), U / Y1, U % Y1, ?_, ?_, h1, h2, by omega, by rw [Nat.mul_comm]; exact hs, hlt, ?_, hmod, by rw [Nat.mul_comm _ (Y1 * _ + _)]; exact hdm.symm⟩
  · rw [← Int.natCast_ediv]
    exact wrap_nat _ (by omega)
  · rw [← Int.natCast_mul, wrap_nat _ (by rw [Nat.mul_comm]; omega), Nat.mul_comm]
    have : (U : Int) - (Y1 * (U / Y1) : Nat) = (U % Y1 : Nat) := by omega
    rw [this]; exact wrap_nat _ (by omega)
  · exact left_aux (by omega) (by rw [Nat.mul_comm _ (Y1 * _ + _)]; exact hdm.symm)
theorem Dig.iff {Y Y1 Y0 U d Q R q r : Nat} (h : Dig Y Y1 Y0 U d Q R q r) (hY : Y1 * 4294967296 + Y0 = Y) {q' r' : Nat} (hs : q' * Y1 + r' = U) : 4294967296 * r' + d < q' * Y0 ↔ Q < q' := by
  have hsm := h.small
  have := dv_iff (b := 4294967296) (y1 := Y1) (y0 := Y0) (q := q') (r := r') (d := d) (by omega)
  rw [hs, hY, h.all, Nat.mul_comm Q Y, Nat.mul_add_div (by omega), Nat.div_eq_of_lt hsm, Nat.add_zero] at this
  exact this

structure D64 (hi lo y s Y Y1 Y0 H T U L L1 L0 : Nat) : Prop where
  eY : IntKind.u64.wrap ((y : Int) * 2 ^ s) = Y
  eY1 : (Y : Int) / 4294967296 = Y1
  eY0 : bits .and .u64 (Y : Int) 4294967295 = Y0
  eH : IntKind.u64.wrap ((hi : Int) * 2 ^ s) = H
  eT : (lo : Int) / 2 ^ (64 - s) = T
  eU : bits .or .u64 (H : Int) (T : Int) = U
  eL : IntKind.u64.wrap ((lo : Int) * 2 ^ s) = L
  eL1 : (L : Int) / 4294967296 = L1
  eL0 : bits .and .u64 (L : Int) 4294967295 = L0
  hY : Y1 * 4294967296 + Y0 = Y
  hY1 : 2147483648 ≤ Y1
  hy1 : Y1 < 4294967296
  hY0 : Y0 < 4294967296
  hU : U < Y
  hL1 : L1 < 4294967296
  hL0 : L0 < 4294967296
  hN : (U * 4294967296 + L1) * 4294967296 + L0 = (hi * B64 + lo) * 2 ^ s
  hD : Y = y * 2 ^ s
theorem d64_of (hi lo y s : Nat) (hy : hi < y) (hl : lo < B64) (hyb : y < B64) (hs : s + blen y = 64) : ∃ Y Y1 Y0 H T U L L1 L0, D64 hi lo y s Y Y1 Y0 H T U L L1 L0 := by
  have hy0 : y ≠ 0 := by omega
  have hb1 := pow_blen hy0
  have hb2 := lt_blen y
  have hblen : 0 < blen y := by
    by_cases h0 : blen y = 0
    · rw [h0] at hb2; simp at hb2; omega
    · omega
  have hs64 : s < 64 := by omega
  have hY63 : 2 ^ 63 ≤ y * 2 ^ s := by
    have : 2 ^ (blen y - 1) * 2 ^ s ≤ y * 2 ^ s := Nat.mul_le_mul_right _ hb1
    rw [← Nat.pow_add, show blen y - 1 + s = 63 by omega] at this
    exact this
  have hY64 : y * 2 ^ s < 2 ^ 64 := by
    have : y * 2 ^ s < 2 ^ blen y * 2 ^ s := Nat.mul_lt_mul_of_pos_right hb2 (Nat.two_pow_pos s)
    rw [← Nat.pow_add, show blen y + s = 64 by omega] at this
    exact this
  have hH : hi * 2 ^ s + 2 ^ s ≤ y * 2 ^ s := by
    have : (hi + 1) * 2 ^ s ≤ y * 2 ^ s := Nat.mul_le_mul_right _ hy
    rw [Nat.add_mul] at this; omega
  have hlo : lo / 2 ^ (64 - s) < 2 ^ s := by
    apply Nat.div_lt_of_lt_mul
    rw [← Nat.pow_add, show 64 - s + s = 64 by omega]; exact hl
  have hsplit : lo * 2 ^ s = B64 * (lo / 2 ^ (64 - s)) + lo * 2 ^ s % 2 ^ 64 := by
    have := Nat.div_add_mod (lo * 2 ^ s) (2 ^ 64)
    rw [div_shift _ _ (by omega)] at this
    exact this.symm
  have hor := or_low (lo / 2 ^ (64 - s)) hi s hlo
  have hLm : lo * 2 ^ s % 2 ^ 64 < 2 ^ 64 := Nat.mod_lt _ (by omega)
  have c1 : ((y * 2 ^ s : Nat) : Int) = (y : Int) * 2 ^ s := by simp [Int.natCast_mul, Int.natCast_pow]
  have c2 : ((hi * 2 ^ s : Nat) : Int) = (hi : Int) * 2 ^ s := by simp [Int.natCast_mul, Int.natCast_pow]
  have c3 : ((lo * 2 ^ s : Nat) : Int) = (lo : Int) * 2 ^ s := by simp [Int.natCast_mul, Int.natCast_pow]
  have c4 : ((lo / 2 ^ (64 - s) : Nat) : Int) = (lo : Int) / 2 ^ (64 - s) := by simp [Int.natCast_ediv, Int.natCast_pow]
  have hN : (hi * 2 ^ s + lo / 2 ^ (64 - s)) * B64 + lo * 2 ^ s % 2 ^ 64 = (hi * B64 + lo) * 2 ^ s := by
    rw [Nat.add_mul (hi * B64), hsplit, Nat.add_mul, Nat.mul_right_comm hi B64, Nat.mul_comm _ B64, Nat.mul_comm (lo / _) B64, Nat.mul_comm B64 (hi * _)]; omega
  rw [Nat.mul_comm (2 ^ s) hi, Nat.or_comm, Nat.add_comm] at hor
  generalize hi * 2 ^ s = H at *
  generalize hT : lo / 2 ^ (64 - s) = T at *
  generalize hX : lo * 2 ^ s = X at *
  generalize hp : 2 ^ s = p at *
  refine ⟨y * p, y * p / 4294967296, y * p % 4294967296, H, T, H + T, X % 2 ^ 64, X % 2 ^ 64 / 4294967296, X % 2 ^ 64 % 4294967296, ?_, ?_, ?_, ?_, ?_, ?_, ?_, ?_, ?_, ?_, ?_, ?_, ?_, ?_, ?_, ?_, ?_, ?_⟩
  · rw [← c1]; exact wrap_nat _ (by omega)
  · exact (Int.natCast_ediv _ _).symm
  · exact and_low _ (by omega)
  · rw [← c2]; exact wrap_nat _ (by omega)
  · exact c4.symm
  · rw [bits_or_u64_nat _ _ (by omega) (by omega), hor]
  · rw [← c3, IntKind.wrap_u64]; omega
  · exact (Int.natCast_ediv _ _).symm
  · exact and_low _ (by omega)
  · omega
  · omega
  · omega
  · omega
  · omega
  · omega
  · omega
  · rw [hp, ← hN, show B64 = 4294967296 * 4294967296 from rfl]
    generalize H + T = U
    omega
  · rw [hp]
theorem d64_end {hi lo y s Y U L1 L0 Q R Q0 R0 : Nat} (hD : Y = y * 2 ^ s) (hN : (U * 4294967296 + L1) * 4294967296 + L0 = (hi * B64 + lo) * 2 ^ s) (hy : 0 < y) (hQ : Q < 4294967296) (hQ0 : Q0 < 4294967296) (h1 : U * 4294967296 + L1 = Q * Y + R) (h2 : R * 4294967296 + L0 = Q0 * Y + R0) (hR0 : R0 < Y) :
    (Q : Int) * 4294967296 + Q0 = ((hi * B64 + lo) / y : Nat) ∧ (R0 : Int) / 2 ^ s = ((hi * B64 + lo) % y : Nat) := by
  have hp := Nat.two_pow_pos s
  have e : (hi * B64 + lo) * 2 ^ s = Y * (Q * 4294967296 + Q0) + R0 := by
    rw [← hN, h1, Nat.add_mul, Nat.mul_add, Nat.add_assoc, h2, Nat.mul_comm Q Y, Nat.mul_comm Q0 Y, Nat.mul_assoc]; omega
  have hq : (hi * B64 + lo) / y = Q * 4294967296 + Q0 := by
    have : (hi * B64 + lo) * 2 ^ s / (y * 2 ^ s) = Q * 4294967296 + Q0 := by
      rw [e, ← hD, Nat.mul_add_div (by omega), Nat.div_eq_of_lt hR0, Nat.add_zero]
    rwa [Nat.mul_div_mul_right _ _ hp] at this
  have hr : (hi * B64 + lo) % y = R0 / 2 ^ s := by
    have : (hi * B64 + lo) * 2 ^ s % (y * 2 ^ s) = R0 := by
      rw [e, ← hD, Nat.mul_add_mod, Nat.mod_eq_of_lt hR0]
    rw [Nat.mul_mod_mul_right] at this
    rw [← this, Nat.mul_div_cancel _ hp]
  constructor
  · rw [hq]; omega
  · rw [hr]; simp [Int.natCast_ediv, Int.natCast_pow]
end Go.Proofs.Ytnecpkoibknacaa
