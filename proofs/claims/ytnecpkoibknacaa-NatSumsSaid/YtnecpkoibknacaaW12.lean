/- Div64. -/
import Derived.Test.YtnecpkoibknacaaPlainE
import Derived.Test.YtnecpkoibknacaaW11
namespace Go.Proofs.Ytnecpkoibknacaa
open Go.RowKit

theorem dv_round {q r y u : Nat} (h : q * y + r = u) (hq : 0 < q) : (q - 1) * y + (r + y) = u := by
  obtain ⟨c, rfl⟩ : ∃ c, q = c + 1 := ⟨q - 1, by omega⟩
  rw [Nat.add_mul] at h
  rw [Nat.add_sub_cancel]; omega

set_option maxRecDepth 100000 in
set_option maxHeartbeats 2000000 in
theorem div64_main (hi lo y s : Nat) (w : World) (h0 : 0 < hi) (hy : hi < y) (hl : lo < 18446744073709551616) (hyb : y < 18446744073709551616) (hs : (64 : Int) - (Lib.bitLen y : Nat) = s) (hs64 : s < 64) (hsb : s + blen y = 64) :
    Calls Try.prog 66 #[.int .u64 hi, .int .u64 lo, .int .u64 y] w fun e w' => e = .returned (.tuple #[.int .u64 (((hi * B64 + lo) / y : Nat) : Int), .int .u64 (((hi * B64 + lo) % y : Nat) : Int)]) ∧ w = w' := by
  obtain ⟨Y, Y1, Y0, H, T, U, L, L1, L0, D⟩ := d64_of hi lo y s hy hl hyb hsb
  obtain ⟨Q, R, q1, r1, G1⟩ := dig_of Y Y1 Y0 U L1 D.hY D.hY1 D.hy1 D.hY0 D.hU D.hL1
  obtain ⟨Q', R', q2, r2, G2⟩ := dig_of Y Y1 Y0 R L0 D.hY D.hY1 D.hy1 D.hY0 G1.small D.hL0
  obtain ⟨e1, e2⟩ := d64_end D.hD D.hN (by omega) G1.top G2.top G1.all G2.all G2.small
  generalize (hi * B64 + lo) / y = A at *
  generalize (hi * B64 + lo) % y = B at *
  have HS := Lib.hid hs
  clear hs
  have HN := Lib.hid D.hN
  have eY := D.eY
  have eY1 := D.eY1
  have eY0 := D.eY0
  have eH := D.eH
  have eT := D.eT
  have eU := D.eU
  have eL := D.eL
  have eL1 := D.eL1
  have eL0 := D.eL0
  have hY1 := D.hY1
  have g1 := G1.quo
  have g2 := G1.rem
  have g3 := G1.left
  have g4 := G2.quo
  have g5 := G2.rem
  have g6 := G2.left
  have hQ := G1.top
  have hy1 := D.hy1
  have hL1 := D.hL1
  have hL0 := D.hL0
  have hQ' := G2.top
  go_enter Try.func66, Try.ntmps66
  go_wp2_with (go_at_call 45; refine (Try.bits_LeadingZeros64 _ _ (by omega) (by omega)).mono ?_; rintro e w' ⟨rfl, rfl⟩; rw [Int.toNat_natCast, HS.out])
  go_loop [15, 16] (fun q r => ∃ q' r' : Nat, q = .int .u64 q' ∧ r = .int .u64 r' ∧ Hid (q' * Y1 + r' = U) ∧ Hid (Q ≤ q' ∧ q' ≤ 4294967297 ∧ r' < 4294967296)) (fun q _ => (intOf q).toNat)
  case atStart => exact ⟨q1, r1, rfl, rfl, Lib.hid G1.sum, Lib.hid ⟨G1.ge, G1.le, G1.lt⟩⟩
  case round =>
    obtain ⟨q', r', rfl, rfl, hsum, hb⟩ := hrel
    have hiff := G1.iff D.hY hsum.out
    have hP : q' * Y0 < 18446744073709551616 := dv_mul_lt (b := 4294967296) hb.out.2.1 D.hY0
    have eP : (q' : Int) * Y0 = (q' * Y0 : Nat) := (Int.natCast_mul _ _).symm
    generalize q' * Y0 = P at *
    have HI := Lib.hid hiff
    have hP2 : (P : Int) < 18446744073709551616 := by omega
    have hq2 : (q' : Int) ≤ 4294967297 := by have := hb.out; omega
    have hr2 : (r' : Int) < 4294967296 := by have := hb.out; omega
    clear hiff hP
    by_cases hlt : Q < q'
    · have hlt2 : (4294967296 : Int) * r' + L1 < P := by have := HI.out.2 hlt; omega
      by_cases hbr : (4294967296 : Int) ≤ r' + Y1
      · have hqq : q' = Q + 1 := by
          have h1 := dv_break (b := 4294967296) (q := q' - 1) (r := r' + Y1) (y0 := Y0) (by have := hb.out; omega) (by omega) D.hY0
          have h2 := mt (G1.iff D.hY (q' := q' - 1) (r' := r' + Y1) (dv_round hsum.out (by omega))).2 (by omega)
          omega
        have hqi : (q' : Int) - 1 = Q := by omega
        clear hsum HI hb hqq
        by_cases hbig : (4294967296 : Int) ≤ q'
        · go_wp2
          go_loop [18, 16] (fun q r => ∃ q' r' : Nat, q = .int .u64 q' ∧ r = .int .u64 r' ∧ Hid (q' * Y1 + r' = R) ∧ Hid (Q' ≤ q' ∧ q' ≤ 4294967297 ∧ r' < 4294967296)) (fun q _ => (intOf q).toNat)
          case atStart => exact ⟨q2, r2, rfl, rfl, Lib.hid G2.sum, Lib.hid ⟨G2.ge, G2.le, G2.lt⟩⟩
          case round =>
            clear hlt hlt2 hP2 hq2 hr2 hbig eP
            obtain ⟨q', r', rfl, rfl, hsum, hb⟩ := hrel
            have hiff := G2.iff D.hY hsum.out
            have hP : q' * Y0 < 18446744073709551616 := dv_mul_lt (b := 4294967296) hb.out.2.1 D.hY0
            have eP : (q' : Int) * Y0 = (q' * Y0 : Nat) := (Int.natCast_mul _ _).symm
            generalize q' * Y0 = P at *
            have HI := Lib.hid hiff
            have hP2 : (P : Int) < 18446744073709551616 := by omega
            have hq2 : (q' : Int) ≤ 4294967297 := by have := hb.out; omega
            have hr2 : (r' : Int) < 4294967296 := by have := hb.out; omega
            clear hiff hP
            by_cases hlt : Q' < q'
            · have hlt2 : (4294967296 : Int) * r' + L0 < P := by have := HI.out.2 hlt; omega
              by_cases hbr : (4294967296 : Int) ≤ r' + Y1
              · have hqq : q' = Q' + 1 := by
                  have h1 := dv_break (b := 4294967296) (q := q' - 1) (r := r' + Y1) (y0 := Y0) (by have := hb.out; omega) (by omega) D.hY0
                  have h2 := mt (G2.iff D.hY (q' := q' - 1) (r' := r' + Y1) (dv_round hsum.out (by omega))).2 (by omega)
                  omega
                have hqi : (q' : Int) - 1 = Q' := by omega
                clear hsum HI hb hqq
                by_cases hbig : (4294967296 : Int) ≤ q'
                · go_wp2
                  go_ret2
                  exact ⟨rfl, rfl⟩
                · go_wp2
                  go_ret2
                  exact ⟨rfl, rfl⟩
              · by_cases hbig : (4294967296 : Int) ≤ q'
                · go_wp2
                  go_round
                  case rel => exact ⟨q' - 1, r' + Y1, by congr 1; omega, by congr 1, Lib.hid (dv_round hsum.out (by omega)), Lib.hid (by have := hb.out; omega)⟩
                  case measure => simp only [intOf]; omega
                · go_wp2
                  go_round
                  case rel => exact ⟨q' - 1, r' + Y1, by congr 1; omega, by congr 1, Lib.hid (dv_round hsum.out (by omega)), Lib.hid (by have := hb.out; omega)⟩
                  case measure => simp only [intOf]; omega
            · have hlt2 : ¬ (4294967296 : Int) * r' + L0 < P := by have := mt HI.out.1 hlt; omega
              obtain rfl : q' = Q' := by have := hb.out; omega
              have hbig : ¬ (4294967296 : Int) ≤ q' := by omega
              clear hsum HI hb
              go_wp2
              go_ret2
              exact ⟨rfl, rfl⟩
        · go_wp2
          go_loop [18, 16] (fun q r => ∃ q' r' : Nat, q = .int .u64 q' ∧ r = .int .u64 r' ∧ Hid (q' * Y1 + r' = R) ∧ Hid (Q' ≤ q' ∧ q' ≤ 4294967297 ∧ r' < 4294967296)) (fun q _ => (intOf q).toNat)
          case atStart => exact ⟨q2, r2, rfl, rfl, Lib.hid G2.sum, Lib.hid ⟨G2.ge, G2.le, G2.lt⟩⟩
          case round =>
            clear hlt hlt2 hP2 hq2 hr2 hbig eP
            obtain ⟨q', r', rfl, rfl, hsum, hb⟩ := hrel
            have hiff := G2.iff D.hY hsum.out
            have hP : q' * Y0 < 18446744073709551616 := dv_mul_lt (b := 4294967296) hb.out.2.1 D.hY0
            have eP : (q' : Int) * Y0 = (q' * Y0 : Nat) := (Int.natCast_mul _ _).symm
            generalize q' * Y0 = P at *
            have HI := Lib.hid hiff
            have hP2 : (P : Int) < 18446744073709551616 := by omega
            have hq2 : (q' : Int) ≤ 4294967297 := by have := hb.out; omega
            have hr2 : (r' : Int) < 4294967296 := by have := hb.out; omega
            clear hiff hP
            by_cases hlt : Q' < q'
            · have hlt2 : (4294967296 : Int) * r' + L0 < P := by have := HI.out.2 hlt; omega
              by_cases hbr : (4294967296 : Int) ≤ r' + Y1
              · have hqq : q' = Q' + 1 := by
                  have h1 := dv_break (b := 4294967296) (q := q' - 1) (r := r' + Y1) (y0 := Y0) (by have := hb.out; omega) (by omega) D.hY0
                  have h2 := mt (G2.iff D.hY (q' := q' - 1) (r' := r' + Y1) (dv_round hsum.out (by omega))).2 (by omega)
                  omega
                have hqi : (q' : Int) - 1 = Q' := by omega
                clear hsum HI hb hqq
                by_cases hbig : (4294967296 : Int) ≤ q'
                · go_wp2
                  go_ret2
                  exact ⟨rfl, rfl⟩
                · go_wp2
                  go_ret2
                  exact ⟨rfl, rfl⟩
              · by_cases hbig : (4294967296 : Int) ≤ q'
                · go_wp2
                  go_round
                  case rel => exact ⟨q' - 1, r' + Y1, by congr 1; omega, by congr 1, Lib.hid (dv_round hsum.out (by omega)), Lib.hid (by have := hb.out; omega)⟩
                  case measure => simp only [intOf]; omega
                · go_wp2
                  go_round
                  case rel => exact ⟨q' - 1, r' + Y1, by congr 1; omega, by congr 1, Lib.hid (dv_round hsum.out (by omega)), Lib.hid (by have := hb.out; omega)⟩
                  case measure => simp only [intOf]; omega
            · have hlt2 : ¬ (4294967296 : Int) * r' + L0 < P := by have := mt HI.out.1 hlt; omega
              obtain rfl : q' = Q' := by have := hb.out; omega
              have hbig : ¬ (4294967296 : Int) ≤ q' := by omega
              clear hsum HI hb
              go_wp2
              go_ret2
              exact ⟨rfl, rfl⟩
      · by_cases hbig : (4294967296 : Int) ≤ q'
        · go_wp2
          go_round
          case rel => exact ⟨q' - 1, r' + Y1, by congr 1; omega, by congr 1, Lib.hid (dv_round hsum.out (by omega)), Lib.hid (by have := hb.out; omega)⟩
          case measure => simp only [intOf]; omega
        · go_wp2
          go_round
          case rel => exact ⟨q' - 1, r' + Y1, by congr 1; omega, by congr 1, Lib.hid (dv_round hsum.out (by omega)), Lib.hid (by have := hb.out; omega)⟩
          case measure => simp only [intOf]; omega
    · have hlt2 : ¬ (4294967296 : Int) * r' + L1 < P := by have := mt HI.out.1 hlt; omega
      obtain rfl : q' = Q := by have := hb.out; omega
      have hbig : ¬ (4294967296 : Int) ≤ q' := by omega
      clear hsum HI hb
      go_wp2
      go_loop [18, 16] (fun q r => ∃ q' r' : Nat, q = .int .u64 q' ∧ r = .int .u64 r' ∧ Hid (q' * Y1 + r' = R) ∧ Hid (Q' ≤ q' ∧ q' ≤ 4294967297 ∧ r' < 4294967296)) (fun q _ => (intOf q).toNat)
      case atStart => exact ⟨q2, r2, rfl, rfl, Lib.hid G2.sum, Lib.hid ⟨G2.ge, G2.le, G2.lt⟩⟩
      case round =>
        clear hlt hlt2 hP2 hq2 hr2 hbig eP
        obtain ⟨q', r', rfl, rfl, hsum, hb⟩ := hrel
        have hiff := G2.iff D.hY hsum.out
        have hP : q' * Y0 < 18446744073709551616 := dv_mul_lt (b := 4294967296) hb.out.2.1 D.hY0
        have eP : (q' : Int) * Y0 = (q' * Y0 : Nat) := (Int.natCast_mul _ _).symm
        generalize q' * Y0 = P at *
        have HI := Lib.hid hiff
        have hP2 : (P : Int) < 18446744073709551616 := by omega
        have hq2 : (q' : Int) ≤ 4294967297 := by have := hb.out; omega
        have hr2 : (r' : Int) < 4294967296 := by have := hb.out; omega
        clear hiff hP
        by_cases hlt : Q' < q'
        · have hlt2 : (4294967296 : Int) * r' + L0 < P := by have := HI.out.2 hlt; omega
          by_cases hbr : (4294967296 : Int) ≤ r' + Y1
          · have hqq : q' = Q' + 1 := by
              have h1 := dv_break (b := 4294967296) (q := q' - 1) (r := r' + Y1) (y0 := Y0) (by have := hb.out; omega) (by omega) D.hY0
              have h2 := mt (G2.iff D.hY (q' := q' - 1) (r' := r' + Y1) (dv_round hsum.out (by omega))).2 (by omega)
              omega
            have hqi : (q' : Int) - 1 = Q' := by omega
            clear hsum HI hb hqq
            by_cases hbig : (4294967296 : Int) ≤ q'
            · go_wp2
              go_ret2
              exact ⟨rfl, rfl⟩
            · go_wp2
              go_ret2
              exact ⟨rfl, rfl⟩
          · by_cases hbig : (4294967296 : Int) ≤ q'
            · go_wp2
              go_round
              case rel => exact ⟨q' - 1, r' + Y1, by congr 1; omega, by congr 1, Lib.hid (dv_round hsum.out (by omega)), Lib.hid (by have := hb.out; omega)⟩
              case measure => simp only [intOf]; omega
            · go_wp2
              go_round
              case rel => exact ⟨q' - 1, r' + Y1, by congr 1; omega, by congr 1, Lib.hid (dv_round hsum.out (by omega)), Lib.hid (by have := hb.out; omega)⟩
              case measure => simp only [intOf]; omega
        · have hlt2 : ¬ (4294967296 : Int) * r' + L0 < P := by have := mt HI.out.1 hlt; omega
          obtain rfl : q' = Q' := by have := hb.out; omega
          have hbig : ¬ (4294967296 : Int) ≤ q' := by omega
          clear hsum HI hb
          go_wp2
          go_ret2
          exact ⟨rfl, rfl⟩
end Go.Proofs.Ytnecpkoibknacaa
