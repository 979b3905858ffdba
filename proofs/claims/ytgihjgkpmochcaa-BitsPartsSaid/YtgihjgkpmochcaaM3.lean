/- Parts of the proof: contracts of the functions that the law reaches, and the arithmetic that they rest on; no condition beyond those that each theorem states. -/
import Derived.Laws.CopyOwn
import Derived.Lib.SliceRun
import Derived.WalkMore
import Derived.OwnWalk
import Derived.Deep.LoopGhost
import Derived.Test.YtgihjgkpmochcaaM1
import Derived.Test.YtgihjgkpmochcaaM2

namespace Go.Proofs.Ytgihjgkpmochcaa
open Go.RowKit

theorem dv_round {q r y u : Nat} (h : q * y + r = u) (hq : 0 < q) : (q - 1) * y + (r + y) = u := by
  obtain ⟨c, rfl⟩ : ∃ c, q = c + 1 := ⟨q - 1, by omega⟩
  rw [Nat.add_mul] at h
  rw [Nat.add_sub_cancel]; omega

set_option maxRecDepth 100000 in
set_option maxHeartbeats 2000000 in
theorem div64_main (hi lo y s : Nat) (w : World) (h0 : 0 < hi) (hy : hi < y) (hl : lo < 18446744073709551616) (hyb : y < 18446744073709551616) (hs : (64 : Int) - (Lib.bitLen y : Nat) = s) (hs64 : s < 64) (hsb : s + blen y = 64) :
    Calls Try.prog 61 #[.int .u64 hi, .int .u64 lo, .int .u64 y] w fun e w' => e = .returned (.tuple #[.int .u64 (((hi * B64 + lo) / y : Nat) : Int), .int .u64 (((hi * B64 + lo) % y : Nat) : Int)]) ∧ w = w' := by
  obtain ⟨Y, Y1, Y0, H, T, U, L, L1, L0, D⟩ := d64_of hi lo y s hy hl hyb hsb
  obtain ⟨Q, R, q1, r1, G1⟩ := dig_of Y Y1 Y0 U L1 D.hY D.hY1 D.hy1 D.hY0 D.hU D.hL1
  obtain ⟨Q', R', q2, r2, G2⟩ := dig_of Y Y1 Y0 R L0 D.hY D.hY1 D.hy1 D.hY0 G1.small D.hL0
  obtain ⟨e1, e2⟩ := d64_end D.hD D.hN (by omega) G1.top G2.top G1.all G2.all G2.small
  generalize (hi * B64 + lo) / y = A at *
  generalize (hi * B64 + lo) % y = B at *
  have HS := Lib.hid hs
  clear hs
  have HN := Lib.hid D.hN
  have eY := D.eY
  have eY1 := D.eY1
  have eY0 := D.eY0
  have eH := D.eH
  have eT := D.eT
  have eU := D.eU
  have eL := D.eL
  have eL1 := D.eL1
  have eL0 := D.eL0
  have hY1 := D.hY1
  have g1 := G1.quo
  have g2 := G1.rem
  have g3 := G1.left
  have g4 := G2.quo
  have g5 := G2.rem
  have g6 := G2.left
  have hQ := G1.top
  have hy1 := D.hy1
  have hL1 := D.hL1
  have hL0 := D.hL0
  have hQ' := G2.top
  go_enter Try.func61, Try.ntmps61
  go_wp2_with (go_at_call 80; refine (Try.bits_LeadingZeros64 _ _ (by omega) (by omega)).mono ?_; rintro e w' ⟨rfl, rfl⟩; rw [Int.toNat_natCast, HS.out])
  go_loop [15, 16] (fun q r => ∃ q' r' : Nat, q = .int .u64 q' ∧ r = .int .u64 r' ∧ Hid (q' * Y1 + r' = U) ∧ Hid (Q ≤ q' ∧ q' ≤ 4294967297 ∧ r' < 4294967296)) (fun q _ => (intOf q).toNat)
  case atStart => exact ⟨q1, r1, rfl, rfl, Lib.hid G1.sum, Lib.hid ⟨G1.ge, G1.le, G1.lt⟩⟩
  case round =>
    obtain ⟨q', r', rfl, rfl, hsum, hb⟩ := hrel
    have hiff := G1.iff D.hY hsum.out
    have hP : q' * Y0 < 18446744073709551616 := dv_mul_lt (b := 4294967296) hb.out.2.1 D.hY0
    have eP : (q' : Int) * Y0 = (q' * Y0 : Nat) := (Int.natCast_mul _ _).symm
    generalize q' * Y0 = P at *
    have HI := Lib.hid hiff
    have hP2 : (P : Int) < 18446744073709551616 := by omega
    have hq2 : (q' : Int) ≤ 4294967297 := by have := hb.out; omega
    have hr2 : (r' : Int) < 4294967296 := by have := hb.out; omega
    clear hiff hP
    by_cases hlt : Q < q'
    · have hlt2 : (4294967296 : Int) * r' + L1 < P := by have := HI.out.2 hlt; omega
      by_cases hbr : (4294967296 : Int) ≤ r' + Y1
      · have hqq : q' = Q + 1 := by
          have h1 := dv_break (b := 4294967296) (q := q' - 1) (r := r' + Y1) (y0 := Y0) (by have := hb.out; omega) (by omega) D.hY0
          have h2 := mt (G1.iff D.hY (q' := q' - 1) (r' := r' + Y1) (dv_round hsum.out (by omega))).2 (by omega)
          omega
        have hqi : (q' : Int) - 1 = Q := by omega
        clear hsum HI hb hqq
        by_cases hbig : (4294967296 : Int) ≤ q'
        · go_wp2
          go_loop [18, 16] (fun q r => ∃ q' r' : Nat, q = .int .u64 q' ∧ r = .int .u64 r' ∧ Hid (q' * Y1 + r' = R) ∧ Hid (Q' ≤ q' ∧ q' ≤ 4294967297 ∧ r' < 4294967296)) (fun q _ => (intOf q).toNat)
          case atStart => exact ⟨q2, r2, rfl, rfl, Lib.hid G2.sum, Lib.hid ⟨G2.ge, G2.le, G2.lt⟩⟩
          case round =>
            clear hlt hlt2 hP2 hq2 hr2 hbig eP
            obtain ⟨q', r', rfl, rfl, hsum, hb⟩ := hrel
            have hiff := G2.iff D.hY hsum.out
            have hP : q' * Y0 < 18446744073709551616 := dv_mul_lt (b := 4294967296) hb.out.2.1 D.hY0
            have eP : (q' : Int) * Y0 = (q' * Y0 : Nat) := (Int.natCast_mul _ _).symm
            generalize q' * Y0 = P at *
            have HI := Lib.hid hiff
            have hP2 : (P : Int) < 18446744073709551616 := by omega
            have hq2 : (q' : Int) ≤ 4294967297 := by have := hb.out; omega
            have hr2 : (r' : Int) < 4294967296 := by have := hb.out; omega
            clear hiff hP
            by_cases hlt : Q' < q'
            · have hlt2 : (4294967296 : Int) * r' + L0 < P := by have := HI.out.2 hlt; omega
              by_cases hbr : (4294967296 : Int) ≤ r' + Y1
              · have hqq : q' = Q' + 1 := by
                  have h1 := dv_break (b := 4294967296) (q := q' - 1) (r := r' + Y1) (y0 := Y0) (by have := hb.out; omega) (by omega) D.hY0
                  have h2 := mt (G2.iff D.hY (q' := q' - 1) (r' := r' + Y1) (dv_round hsum.out (by omega))).2 (by omega)
                  omega
                have hqi : (q' : Int) - 1 = Q' := by omega
                clear hsum HI hb hqq
                by_cases hbig : (4294967296 : Int) ≤ q'
                · go_wp2
                  go_ret2
                  exact ⟨rfl, rfl⟩
                · go_wp2
                  go_ret2
                  exact ⟨rfl, rfl⟩
              · by_cases hbig : (4294967296 : Int) ≤ q'
                · go_wp2
                  go_round
                  case rel => exact ⟨q' - 1, r' + Y1, by congr 1; omega, by congr 1, Lib.hid (dv_round hsum.out (by omega)), Lib.hid (by have := hb.out; omega)⟩
                  case measure => simp only [intOf]; omega
                · go_wp2
                  go_round
                  case rel => exact ⟨q' - 1, r' + Y1, by congr 1; omega, by congr 1, Lib.hid (dv_round hsum.out (by omega)), Lib.hid (by have := hb.out; omega)⟩
                  case measure => simp only [intOf]; omega
            · have hlt2 : ¬ (4294967296 : Int) * r' + L0 < P := by have := mt HI.out.1 hlt; omega
              obtain rfl : q' = Q' := by have := hb.out; omega
              have hbig : ¬ (4294967296 : Int) ≤ q' := by omega
              clear hsum HI hb
              go_wp2
              go_ret2
              exact ⟨rfl, rfl⟩
        · go_wp2
          go_loop [18, 16] (fun q r => ∃ q' r' : Nat, q = .int .u64 q' ∧ r = .int .u64 r' ∧ Hid (q' * Y1 + r' = R) ∧ Hid (Q' ≤ q' ∧ q' ≤ 4294967297 ∧ r' < 4294967296)) (fun q _ => (intOf q).toNat)
          case atStart => exact ⟨q2, r2, rfl, rfl, Lib.hid G2.sum, Lib.hid ⟨G2.ge, G2.le, G2.lt⟩⟩
          case round =>
            clear hlt hlt2 hP2 hq2 hr2 hbig eP
            obtain ⟨q', r', rfl, rfl, hsum, hb⟩ := hrel
            have hiff := G2.iff D.hY hsum.out
            have hP : q' * Y0 < 18446744073709551616 := dv_mul_lt (b := 4294967296) hb.out.2.1 D.hY0
            have eP : (q' : Int) * Y0 = (q' * Y0 : Nat) := (Int.natCast_mul _ _).symm
            generalize q' * Y0 = P at *
            have HI := Lib.hid hiff
            have hP2 : (P : Int) < 18446744073709551616 := by omega
            have hq2 : (q' : Int) ≤ 4294967297 := by have := hb.out; omega
            have hr2 : (r' : Int) < 4294967296 := by have := hb.out; omega
            clear hiff hP
            by_cases hlt : Q' < q'
            · have hlt2 : (4294967296 : Int) * r' + L0 < P := by have := HI.out.2 hlt; omega
              by_cases hbr : (4294967296 : Int) ≤ r' + Y1
              · have hqq : q' = Q' + 1 := by
                  have h1 := dv_break (b := 4294967296) (q := q' - 1) (r := r' + Y1) (y0 := Y0) (by have := hb.out; omega) (by omega) D.hY0
                  have h2 := mt (G2.iff D.hY (q' := q' - 1) (r' := r' + Y1) (dv_round hsum.out (by omega))).2 (by omega)
                  omega
                have hqi : (q' : Int) - 1 = Q' := by omega
                clear hsum HI hb hqq
                by_cases hbig : (4294967296 : Int) ≤ q'
                · go_wp2
                  go_ret2
                  exact ⟨rfl, rfl⟩
                · go_wp2
                  go_ret2
                  exact ⟨rfl, rfl⟩
              · by_cases hbig : (4294967296 : Int) ≤ q'
                · go_wp2
                  go_round
                  case rel => exact ⟨q' - 1, r' + Y1, by congr 1; omega, by congr 1, Lib.hid (dv_round hsum.out (by omega)), Lib.hid (by have := hb.out; omega)⟩
                  case measure => simp only [intOf]; omega
                · go_wp2
                  go_round
                  case rel => exact ⟨q' - 1, r' + Y1, by congr 1; omega, by congr 1, Lib.hid (dv_round hsum.out (by omega)), Lib.hid (by have := hb.out; omega)⟩
                  case measure => simp only [intOf]; omega
            · have hlt2 : ¬ (4294967296 : Int) * r' + L0 < P := by have := mt HI.out.1 hlt; omega
              obtain rfl : q' = Q' := by have := hb.out; omega
              have hbig : ¬ (4294967296 : Int) ≤ q' := by omega
              clear hsum HI hb
              go_wp2
              go_ret2
              exact ⟨rfl, rfl⟩
      · by_cases hbig : (4294967296 : Int) ≤ q'
        · go_wp2
          go_round
          case rel => exact ⟨q' - 1, r' + Y1, by congr 1; omega, by congr 1, Lib.hid (dv_round hsum.out (by omega)), Lib.hid (by have := hb.out; omega)⟩
          case measure => simp only [intOf]; omega
        · go_wp2
          go_round
          case rel => exact ⟨q' - 1, r' + Y1, by congr 1; omega, by congr 1, Lib.hid (dv_round hsum.out (by omega)), Lib.hid (by have := hb.out; omega)⟩
          case measure => simp only [intOf]; omega
    · have hlt2 : ¬ (4294967296 : Int) * r' + L1 < P := by have := mt HI.out.1 hlt; omega
      obtain rfl : q' = Q := by have := hb.out; omega
      have hbig : ¬ (4294967296 : Int) ≤ q' := by omega
      clear hsum HI hb
      go_wp2
      go_loop [18, 16] (fun q r => ∃ q' r' : Nat, q = .int .u64 q' ∧ r = .int .u64 r' ∧ Hid (q' * Y1 + r' = R) ∧ Hid (Q' ≤ q' ∧ q' ≤ 4294967297 ∧ r' < 4294967296)) (fun q _ => (intOf q).toNat)
      case atStart => exact ⟨q2, r2, rfl, rfl, Lib.hid G2.sum, Lib.hid ⟨G2.ge, G2.le, G2.lt⟩⟩
      case round =>
        clear hlt hlt2 hP2 hq2 hr2 hbig eP
        obtain ⟨q', r', rfl, rfl, hsum, hb⟩ := hrel
        have hiff := G2.iff D.hY hsum.out
        have hP : q' * Y0 < 18446744073709551616 := dv_mul_lt (b := 4294967296) hb.out.2.1 D.hY0
        have eP : (q' : Int) * Y0 = (q' * Y0 : Nat) := (Int.natCast_mul _ _).symm
        generalize q' * Y0 = P at *
        have HI := Lib.hid hiff
        have hP2 : (P : Int) < 18446744073709551616 := by omega
        have hq2 : (q' : Int) ≤ 4294967297 := by have := hb.out; omega
        have hr2 : (r' : Int) < 4294967296 := by have := hb.out; omega
        clear hiff hP
        by_cases hlt : Q' < q'
        · have hlt2 : (4294967296 : Int) * r' + L0 < P := by have := HI.out.2 hlt; omega
          by_cases hbr : (4294967296 : Int) ≤ r' + Y1
          · have hqq : q' = Q' + 1 := by
              have h1 := dv_break (b := 4294967296) (q := q' - 1) (r := r' + Y1) (y0 := Y0) (by have := hb.out; omega) (by omega) D.hY0
              have h2 := mt (G2.iff D.hY (q' := q' - 1) (r' := r' + Y1) (dv_round hsum.out (by omega))).2 (by omega)
              omega
            have hqi : (q' : Int) - 1 = Q' := by omega
            clear hsum HI hb hqq
            by_cases hbig : (4294967296 : Int) ≤ q'
            · go_wp2
              go_ret2
              exact ⟨rfl, rfl⟩
            · go_wp2
              go_ret2
              exact ⟨rfl, rfl⟩
          · by_cases hbig : (4294967296 : Int) ≤ q'
            · go_wp2
              go_round
              case rel => exact ⟨q' - 1, r' + Y1, by congr 1; omega, by congr 1, Lib.hid (dv_round hsum.out (by omega)), Lib.hid (by have := hb.out; omega)⟩
              case measure => simp only [intOf]; omega
            · go_wp2
              go_round
              case rel => exact ⟨q' - 1, r' + Y1, by congr 1; omega, by congr 1, Lib.hid (dv_round hsum.out (by omega)), Lib.hid (by have := hb.out; omega)⟩
              case measure => simp only [intOf]; omega
        · have hlt2 : ¬ (4294967296 : Int) * r' + L0 < P := by have := mt HI.out.1 hlt; omega
          obtain rfl : q' = Q' := by have := hb.out; omega
          have hbig : ¬ (4294967296 : Int) ≤ q' := by omega
          clear hsum HI hb
          go_wp2
          go_ret2
          exact ⟨rfl, rfl⟩
end Go.Proofs.Ytgihjgkpmochcaa

namespace Go.Proofs.Ytgihjgkpmochcaa
open Go.RowKit

set_option maxHeartbeats 2000000 in
theorem div64_quiet (hi lo y : Nat) (w : World) (hy : hi < y) (hl : lo < B64) (hyb : y < B64) :
    Calls Try.prog 61 #[.int .u64 hi, .int .u64 lo, .int .u64 y] w fun e w' => e = .returned (.tuple #[.int .u64 (((hi * B64 + lo) / y : Nat) : Int), .int .u64 (((hi * B64 + lo) % y : Nat) : Int)]) ∧ ∃ q, w' = w.drewN q := by
  by_cases h0 : hi = 0
  · subst h0
    rw [Nat.zero_mul, Nat.zero_add]
    have hl' : lo < 18446744073709551616 := hl
    have hyb' : y < 18446744073709551616 := hyb
    clear hl hyb
    have e1 : IntKind.u64.wrap ((lo : Int) / y) = (lo / y : Nat) := by
      rw [← Int.natCast_ediv]
      exact wrap_nat _ (Nat.lt_of_le_of_lt (Nat.div_le_self _ _) hl')
    have e2 : (lo : Int) % y = (lo % y : Nat) := (Int.natCast_emod _ _).symm
    generalize lo / y = A at *
    generalize lo % y = B at *
    go_enter Try.func61, Try.ntmps61
    go_wp2
    go_quiet (fail)
    go_wp2
    go_ret2
    refine ⟨?_, nq, rfl⟩
    rw [← e2]; rfl
  · have hb : blen y ≤ 64 := (blen_iff y 64).1 (by rw [← B64_two]; exact hyb)
    have hb0 : 0 < blen y := by
      by_cases h : blen y = 0
      · have := lt_blen y; rw [h] at this; simp at this; omega
      · omega
    refine (div64_main hi lo y (64 - blen y) w (by omega) hy hl hyb (by rw [bitLen_blen y hyb]; omega) (by omega) (by omega)).mono ?_
    rintro e w' ⟨rfl, rfl⟩
    exact ⟨rfl, 0, rfl⟩
theorem div64_any (hi lo y : Nat) (w : World) (hy : hi < y) (hl : lo < B64) (hyb : y < B64) :
    Calls Try.prog 61 #[.int .u64 hi, .int .u64 lo, .int .u64 y] w (Post w fun v _ => v = .tuple #[.int .u64 (((hi * B64 + lo) / y : Nat) : Int), .int .u64 (((hi * B64 + lo) % y : Nat) : Int)]) := by
  refine (div64_quiet hi lo y w hy hl hyb).mono ?_
  rintro e w' ⟨rfl, q, rfl⟩
  exact Post.mk ((Ext.refl _).drewN _) rfl
end Go.Proofs.Ytgihjgkpmochcaa

namespace Go.Proofs.Ytgihjgkpmochcaa
open Go.RowKit

/-- What is kept, from the top limb down, while a number is divided by one limb. -/
def SmallOk (xs : List Nat) (d j r : Nat) (L : List Nat) : Prop :=
  L.length = xs.length ∧ (∀ x ∈ L, x < B64) ∧ val (L.drop j) = val (xs.drop j) / d ∧ r = val (xs.drop j) % d
theorem SmallOk.start (xs : List Nat) (d : Nat) : SmallOk xs d xs.length 0 (List.replicate xs.length 0) := by
  refine ⟨by simp, fun x hx => ?_, by simp [val], by simp [val]⟩
  rw [(List.mem_replicate.1 hx).2]; exact B64_pos
theorem SmallOk.step {xs : List Nat} {d j r x : Nat} {L : List Nat} (h : SmallOk xs d (j + 1) r L) (hd : 0 < d) (hj : j < xs.length) (hx : xs[j]?.getD 0 = x) (hxb : x < B64) :
    SmallOk xs d j ((r * B64 + x) % d) (L.set j ((r * B64 + x) / d)) := by
  obtain ⟨hl, hlt, hv, hr⟩ := h
  have hrd : r < d := by rw [hr]; exact Nat.mod_lt _ hd
  have hq : (r * B64 + x) / d < B64 := dv_lt hrd hxb
  have e1 : xs.drop j = x :: xs.drop (j + 1) := by
    rw [List.drop_eq_getElem_cons hj]
    rw [List.getElem?_eq_getElem hj] at hx
    exact congrArg (· :: _) hx
  have e2 : (L.set j ((r * B64 + x) / d)).drop j = (r * B64 + x) / d :: L.drop (j + 1) := by
    rw [List.drop_set, if_neg (Nat.lt_irrefl j), Nat.sub_self, List.drop_eq_getElem_cons (by omega)]; rfl
  have e3 := Nat.div_add_mod (val (xs.drop (j + 1))) d
  rw [← hr] at e3
  have e4 : val (xs.drop j) = d * (B64 * (val (xs.drop (j + 1)) / d)) + (r * B64 + x) := by
    rw [e1, val]
    conv => lhs; rw [← e3]
    rw [Nat.mul_add, Nat.mul_left_comm, Nat.mul_comm B64 r]; omega
  refine ⟨by simp [hl], lt_set hlt hq _, ?_, ?_⟩
  · rw [e2, val, hv, e4, Nat.mul_add_div hd]; omega
  · rw [e4, Nat.mul_add_mod]

set_option maxRecDepth 100000 in
set_option maxHeartbeats 1000000 in
theorem small_any (a : Option Addr) (n c : Nat) (xs : List Nat) (d : Nat) (hd : 0 < d) (hdb : d < B64) (w : World) (h : Nums w a n c xs) :
    Calls Try.prog 36 #[.slice a n c, .int .u64 d] w (Post w fun v w' => ∃ a' n' c', v = .tuple #[.slice a' n' c', .int .u64 ((val xs % d : Nat) : Int)] ∧ Nums w' a' n' c' (limbs (val xs / d))) := by
  obtain ⟨i0, hi, hz0, hz1, hz2⟩ := info_parts info_u64
  obtain rfl := h.len
  have hfew := h.few
  go_enter Try.func36, Try.ntmps36
  go_wp2_with (at_make; refine wpList_make_row _ rfl _ _ 26 rfl 34 i0 Try.underlying26 hi hz0 hz1 hz2 _ _ _ _ xs.length rfl rfl (by omega) (by omega) (by omega) ?_; intro w1 hrow hext hsz)
  go_loopw [7, 8] (fun r i wr => ∃ (j r' : Nat) (L : List Nat), j ≤ xs.length ∧ i = .int .i64 ((j : Int) - 1) ∧ r = .int .u64 r' ∧ Ext w wr ∧ Row wr w.heap.size 34 L ∧ Hid (SmallOk xs d j r' L))
    (fun _ i _ => (intOf i + 1).toNat)
  case atStart => exact ⟨xs.length, 0, _, Nat.le_refl _, by go_num, rfl, hext, hrow, Lib.hid (SmallOk.start xs d)⟩
  case round =>
    obtain ⟨j, r, L, hj, rfl, rfl, hext1, hrow1, HL⟩ := hrel
    by_cases hlt : 0 < j
    · obtain ⟨j, rfl⟩ : ∃ k, j = k + 1 := ⟨j - 1, by omega⟩
      obtain ⟨b, off, rfl, hcell⟩ := (h.ext hext1).at (show j < xs.length by omega)
      have hrd : r < d := by rw [HL.out.2.2.2]; exact Nat.mod_lt _ hd
      have hL := HL.out.1
      have hbd := h.bd j
      have hst := fun x hx hxb => HL.out.step (x := x) hd (by omega) hx hxb
      generalize hx : xs[j]?.getD 0 = x at *
      have HS := Lib.hid (hst x rfl hbd)
      have hjj : ((j + 1 : Nat) : Int) - 1 = j := by omega
      clear hst hx hrow hext hsz
      have hbd' := hbd
      unfold B64 at hbd
      have hdv := fun w => div64_any r x d w hrd hbd' hdb
      generalize (r * B64 + x) / d = q at *
      generalize (r * B64 + x) % d = r' at *
      go_wp2_with (go_at_call 61; refine (hdv _).mono ?_; rintro e w2 ⟨v, rfl, hext2, rfl⟩; have cj := (hrow1.ext hext2).cell (i := j) (by omega); have fj := (hrow1.ext hext2).frozen j)
      go_roundw
      case rel => exact ⟨j, r', L.set j q, by omega, rfl, rfl, (hext1.trans hext2).set (p := ⟨w.heap.size, j, none⟩) (Nat.le_refl _) _, (hrow1.ext hext2).set j q, HS⟩
      case measure => simp [intOf]
    · have : j = 0 := by omega
      subst this
      have hL := HL.out
      have hLf : L.length ≤ 65536 := by rw [hL.1]; exact hfew
      have hnum := hrow1.nums hLf (Nat.le_refl _) hL.2.1
      rw [hL.1] at hnum
      have hmod := hL.2.2.2
      have hdiv := hL.2.2.1
      rw [List.drop_zero, List.drop_zero] at hdiv
      rw [List.drop_zero] at hmod
      have HD := Lib.hid hdiv
      have HM := Lib.hid hmod
      clear hdiv hmod hL hLf hrow hext hsz
      go_wp2_with (go_at_call 35; refine (normal_any _ _ _ _ _ hnum).mono ?_; rintro e w2 ⟨v, rfl, hext2, a', n', c', rfl, hn⟩)
      go_ret2
      rw [HD.out] at hn
      refine Post.mk (hext1.trans hext2) ⟨a', n', c', ?_, hn⟩
      rw [HM.out]; rfl
end Go.Proofs.Ytgihjgkpmochcaa

namespace Go.Proofs.Ytgihjgkpmochcaa
open Go.RowKit

theorem run_Add64z (x y c s : Nat) (hc : (x + y) / B64 = c) (hs : (x + y) % B64 = s) (w : World) :
    (callFunc 73 #[.int .u64 x, .int .u64 y, .int .u64 0]).run Try.prog w = .ok (.value (.tuple #[.int .u64 s, .int .u64 c])) w := by
  have := run_Add64 x y 0 (by omega) w
  rw [Nat.add_zero, hc, hs] at this
  exact this

set_option maxRecDepth 100000 in
set_option maxHeartbeats 1000000 in
theorem times_any (a : Option Addr) (n c : Nat) (xs : List Nat) (g : Nat) (hg : g < B64) (w : World) (h : Nums w a n c xs) (hn : n ≤ 65535) :
    Calls Try.prog 90 #[.slice a n c, .int .u64 g] w (Post w fun v w' => ∃ a' n' c', v = .slice a' n' c' ∧ Nums w' a' n' c' (limbs (val xs * g))) := by
  obtain ⟨i0, hi, hz0, hz1, hz2⟩ := info_parts info_u64
  obtain rfl := h.len
  go_enter Try.func90, Try.ntmps90
  go_wp2_with (at_make; refine wpList_make_row _ rfl _ _ 26 rfl 34 i0 Try.underlying26 hi hz0 hz1 hz2 _ _ _ _ (xs.length + 1) rfl rfl (by omega) (by omega) (by omega) ?_; intro w1 hrow hext hsz)
  go_loopw [6, 18] (fun r i wr => ∃ (j r' : Nat) (L : List Nat), j ≤ xs.length ∧ i = .int .i64 j ∧ r = .int .u64 r' ∧ Ext w wr ∧ Row wr w.heap.size 34 L ∧ Hid (TimesOk xs g j r' L))
    (fun _ i _ => xs.length - (intOf i).toNat)
  case atStart => exact ⟨0, 0, _, Nat.zero_le _, rfl, rfl, hext, hrow, Lib.hid (TimesOk.start xs g)⟩
  case round =>
    obtain ⟨j, r, L, hj, rfl, rfl, hext1, hrow1, HL⟩ := hrel
    have hL := HL.out.1
    by_cases hlt : j < xs.length
    · obtain ⟨b, off, rfl, hcell⟩ := (h.ext hext1).at hlt
      have hbd := h.bd j
      obtain ⟨hi', lo, c2, l2, m⟩ := tstep_of hbd hg HL.out.2.2.1
      have HS := Lib.hid (HL.out.step hlt rfl m)
      generalize hx : xs[j]?.getD 0 = x at *
      have hmul := Try.bits_Mul64 x g hbd hg
      rw [m.ehi, m.elo] at hmul
      have hadd := run_Add64z lo r c2 l2 m.ec2 m.el2
      have b1 : hi' + c2 < 18446744073709551616 := m.bhi
      have b2 : lo < 18446744073709551616 := m.blo
      have b3 : l2 < 18446744073709551616 := m.bl2
      have cj := hrow1.cell (i := j) (by omega)
      have fj := hrow1.frozen j
      clear hx hrow hext hsz m
      unfold B64 at hbd
      go_wp2_with (go_at_call 93; refine (hmul _).mono ?_; rintro e w2 ⟨rfl, rfl⟩)
      go_roundw
      case rel => exact ⟨j + 1, hi' + c2, L.set j l2, by omega, by go_num, by go_num, hext1.set (p := ⟨w.heap.size, j, none⟩) (Nat.le_refl _) _, hrow1.set j l2, HS⟩
      case measure => simp [intOf]; omega
    · have : j = xs.length := by omega
      subst this
      have cj := hrow1.cell (i := xs.length) (by omega)
      have fj := hrow1.frozen xs.length
      obtain ⟨z1, z2, z3⟩ := HL.out.last
      have hnum := (hrow1.set xs.length r).nums (by omega) (Nat.le_refl _) z2
      rw [z1] at hnum
      have hE := hext1.set (p := ⟨w.heap.size, xs.length, none⟩) (Nat.le_refl _) (.int .u64 (r : Int))
      have HZ := Lib.hid z3
      clear z1 z2 z3 hrow hext hsz
      go_wp2_with (go_at_call 35; refine (normal_any _ _ _ _ _ hnum).mono ?_; rintro e w2 ⟨v, rfl, hext2, a', n', c', rfl, hn⟩)
      go_ret
      rw [HZ.out] at hn
      exact Post.mk (hE.trans hext2) ⟨a', n', c', rfl, hn⟩
end Go.Proofs.Ytgihjgkpmochcaa

namespace Go.Proofs.Ytgihjgkpmochcaa
open Go.RowKit

set_option maxRecDepth 100000 in
set_option maxHeartbeats 2000000 in
theorem mul_any (a1 a2 : Option Addr) (n1 c1 n2 c2 : Nat) (xs ys : List Nat) (w : World) (h1 : Nums w a1 n1 c1 xs) (h2 : Nums w a2 n2 c2 ys) (hf1 : val xs < Top) (hf2 : val ys < Top) :
    Calls Try.prog 92 #[.slice a1 n1 c1, .slice a2 n2 c2] w (Post w fun v w' => NRes w' v (fit (val xs * val ys))) := by
  obtain ⟨i0, hi, hz0, hz1, hz2⟩ := info_parts info_u64
  have hno : [limbs (val xs), limbs (val ys)].any isLong = false := by
    rw [any_two, isLong_false (by rw [val_limbs]; exact hf1), isLong_false (by rw [val_limbs]; exact hf2)]; rfl
  have hl1 := (fits_iff _).2 hf1
  have hl2 := (fits_iff _).2 hf2
  have hv1 := val_limbs (val xs)
  have hv2 := val_limbs (val ys)
  generalize hA : limbs (val xs) = A at *
  generalize hB : limbs (val ys) = B at *
  rw [← hv1, ← hv2]
  have HA := Lib.hid hA
  have HB := Lib.hid hB
  clear hA hB hv1 hv2 hf1 hf2
  have HNO := Lib.hid hno
  clear hno
  go_enter Try.func92, Try.ntmps92
  go_wp2_with (first
    | (at_make; refine wpList_make_row _ rfl _ _ 26 rfl 34 i0 Try.underlying26 hi hz0 hz1 hz2 _ _ _ _ (A.length + B.length) rfl rfl (by omega) (by omega) (by omega) ?_; intro w3 hrow hext3 hsz)
    | (go_at_call 35; refine (normal_any _ _ _ _ _ h1).mono ?_; rintro e w1 ⟨v, rfl, hext1, a1', n1', c1', rfl, hn1⟩; rw [HA.out] at hn1; clear h1; have h2' := h2.ext hext1)
    | (go_at_call 35; refine (normal_any _ _ _ _ _ h2').mono ?_; rintro e w1' ⟨v, rfl, hext2, a2', n2', c2', rfl, hn2⟩; rw [HB.out] at hn2; have hn1' := hn1.ext hext2; obtain rfl := hn1'.len; obtain rfl := hn2.len)
    | (go_at_call 34; refine (long_any _ _ _ [A, B] _ (NumsL.two (by simp) (by simp) (hn1'.ext (Ext.of_alloc _ _)) (hn2.ext (Ext.of_alloc _ _)))).mono ?_; rintro e w2 ⟨v, rfl, hextL, rfl⟩; rw [HNO.out]))
  clear h2 h2' hn1
  have hE0 := (hext1.trans hext2).trans ((Ext.of_alloc _ _).trans hextL)
  have k1 := hn1'.ext ((Ext.of_alloc _ _).trans hextL)
  have k2 := hn2.ext ((Ext.of_alloc _ _).trans hextL)
  clear hn1' hn2 hextL hext1 hext2
  go_loopw [31] (fun i wr => ∃ (j : Nat) (L : List Nat), j ≤ A.length ∧ i = .int .i64 j ∧ Ext w2 wr ∧ Row wr w2.heap.size 34 L ∧ Hid (MulOk A B j 0 0 L))
    (fun i _ => A.length - (intOf i).toNat)
  case atStart => exact ⟨0, _, Nat.zero_le _, rfl, hext3, hrow, Lib.hid (MulOk.start A B)⟩
  case round =>
    clear hrow hext3 hsz
    obtain ⟨j, L, hj, rfl, hextr, hrowr, HL⟩ := hrel
    have hL := HL.out.1
    by_cases hlt : j < A.length
    · obtain ⟨b, off, rfl, hcell⟩ := (k1.ext hextr).at hlt
      have hbd := k1.bd j
      generalize hx : A[j]?.getD 0 = x at *
      have HX := Lib.hid hx
      clear hx
      go_wp2
      clear hcell
      go_loopw [9, 38] (fun r i wr => ∃ (k r' : Nat) (L : List Nat), k ≤ B.length ∧ i = .int .i64 k ∧ r = .int .u64 r' ∧ Ext w2 wr ∧ Row wr w2.heap.size 34 L ∧ Hid (MulOk A B j k r' L))
        (fun _ i _ => B.length - (intOf i).toNat)
      case atStart => exact ⟨0, 0, L, Nat.zero_le _, rfl, rfl, hextr, hrowr, HL⟩
      case round =>
        clear hextr hrowr HL hL
        obtain ⟨k, r, L, hk, rfl, rfl, hextr, hrowr, HL⟩ := hrel
        have hL := HL.out.1
        by_cases hlt2 : k < B.length
        · obtain ⟨b2, off2, rfl, hcell⟩ := (k2.ext hextr).at hlt2
          have hbd2 := k2.bd k
          have hbdo := getD_lt HL.out.2.1 (j + k)
          obtain ⟨hi', lo, d1, l1, d2, l2, m⟩ := mstep_of hbd hbd2 hbdo HL.out.2.2.1
          have HS := Lib.hid (HL.out.step hlt hlt2 HX.out rfl m)
          generalize hy : B[k]?.getD 0 = y at *
          have cj := hrowr.cell (i := j + k) (by omega)
          have fj := hrowr.frozen (j + k)
          generalize ho : L[j + k]?.getD 0 = o at *
          have hmul := Try.bits_Mul64 x y hbd hbd2
          rw [m.ehi, m.elo] at hmul
          have hadd := run_Add64z lo o d1 l1 m.ec1 m.el1
          have hadd2 := run_Add64z l1 r d2 l2 m.ec2 m.el2
          have b1 : hi' + d1 + d2 < 18446744073709551616 := m.bhi
          have b2 : lo < 18446744073709551616 := m.blo
          have b3 : l2 < 18446744073709551616 := m.bl2
          have b4 : l1 < 18446744073709551616 := m.bl1
          clear hy ho m
          unfold B64 at hbd hbd2 hbdo
          go_wp2_with (go_at_call 93; refine (hmul _).mono ?_; rintro e wm ⟨rfl, rfl⟩)
          go_roundw
          case rel => exact ⟨k + 1, hi' + d1 + d2, L.set (j + k) l2, by omega, by go_num, by go_num, hextr.set (p := ⟨w2.heap.size, j + k, none⟩) (Nat.le_refl _) _, hrowr.set (j + k) l2, HS⟩
          case measure => simp [intOf]; omega
        · have : k = B.length := by omega
          subst this
          have cj := hrowr.cell (i := j + B.length) (by omega)
          have fj := hrowr.frozen (j + B.length)
          go_wp2
          go_roundw
          case rel => exact ⟨j + 1, L.set (j + B.length) r, by omega, by go_num, hextr.set (p := ⟨w2.heap.size, j + B.length, none⟩) (Nat.le_refl _) _, hrowr.set (j + B.length) r, Lib.hid (HL.out.next hlt)⟩
          case measure => simp [intOf]; omega
    · have : j = A.length := by omega
      subst this
      obtain ⟨z1, z2, z3⟩ := HL.out.last rfl
      have hnum := hrowr.nums (by omega) (Nat.le_refl _) z2
      rw [z1] at hnum
      have HZ := Lib.hid z3
      clear z1 z2 z3
      go_wp2_with (go_at_call 28; refine (told_any _ _ _ _ _ hnum).mono ?_; rintro e w4 ⟨v, rfl, hext4, hres⟩; obtain ⟨ar, nr, cr, kr, rfl, hout⟩ := hres.out)
      go_ret2
      refine Post.mk ((hE0.trans hextr).trans hext4) ?_
      rw [← HZ.out]
      exact hout.res
end Go.Proofs.Ytgihjgkpmochcaa

namespace Go.Proofs.Ytgihjgkpmochcaa
open Go.RowKit

theorem guess_iff {q r t n u0 U : Nat} (hs : q * t + r = U) : q * (t * B64 + n) ≤ U * B64 + u0 ↔ q * n ≤ r * B64 + u0 := by
  subst hs
  rw [Nat.mul_add, Nat.add_mul, Nat.mul_assoc]; omega
theorem divmod_le {p r u : Nat} (hu : u < B64) : p ≤ r * B64 + u ↔ p / B64 < r ∨ p / B64 = r ∧ p % B64 ≤ u := by
  have := Nat.div_add_mod p B64
  have := Nat.mod_lt p B64_pos
  unfold B64 at *
  omega

/-- What is kept while a digit is guessed. -/
def GuessOk (q r t nx U u0 : Nat) : Prop := q * t + r = U ∧ q < B64 ∧ r < B64 ∧ ∀ Q, Q * (t * B64 + nx) ≤ U * B64 + u0 → Q ≤ q
theorem GuessOk.start {q r t nx U u0 : Nat} (h : t * q + r = U) (hr : r < t) (hq : q < B64) (hu : u0 < B64) (ht : t < B64) : GuessOk q r t nx U u0 := by
  refine ⟨by rw [Nat.mul_comm]; exact h, hq, by omega, fun Q hQ => ?_⟩
  have h1 : Q * t * B64 < (U + 1) * B64 := by
    rw [Nat.mul_add, ← Nat.mul_assoc] at hQ
    rw [Nat.add_mul]; omega
  have h2 := Nat.lt_of_mul_lt_mul_right h1
  by_cases hle : Q ≤ q
  · exact hle
  · have : (q + 1) * t ≤ Q * t := Nat.mul_le_mul_right _ (by omega)
    rw [Nat.add_mul, Nat.mul_comm q t] at this
    omega
theorem GuessOk.dec {q r t nx U u0 : Nat} (h : GuessOk q r t nx U u0) (hno : ¬ q * nx ≤ r * B64 + u0) : 0 < q ∧ (q - 1) * t + (r + t) = U ∧ ∀ Q, Q * (t * B64 + nx) ≤ U * B64 + u0 → Q ≤ q - 1 := by
  have hq : 0 < q := by
    by_cases h0 : q = 0
    · subst h0; rw [Nat.zero_mul] at hno; omega
    · omega
  refine ⟨hq, dv_round h.1 hq, fun Q hQ => ?_⟩
  have := h.2.2.2 Q hQ
  by_cases e : Q = q
  · subst e; exact absurd ((guess_iff h.1).1 hQ) hno
  · omega
theorem GuessOk.next {q r t nx U u0 : Nat} (h : GuessOk q r t nx U u0) (hno : ¬ q * nx ≤ r * B64 + u0) (hr : r + t < B64) : GuessOk (q - 1) (r + t) t nx U u0 := by
  obtain ⟨h1, h2, h3⟩ := h.dec hno
  exact ⟨h2, by have := h.2.1; omega, hr, h3⟩

theorem Nums.on {w : World} {b off n c : Nat} {xs : List Nat} (h : Nums w (some ⟨b, off, none⟩) n c xs) {i : Nat} (hi : i < n) : w.cell? ⟨b, off + i, none⟩ = some (.int .u64 ((xs[i]?.getD 0 : Nat) : Int)) := by
  obtain ⟨b', off', e, hc⟩ := h.at hi
  cases e
  exact hc

set_option maxRecDepth 100000 in
set_option maxHeartbeats 1000000 in
theorem guess_any (a : Option Addr) (n c : Nat) (us : List Nat) (t nx k k1 k0 : Nat) (w : World) (h : Nums w a n c us) (ht : t < B64) (ht2 : 9223372036854775808 ≤ t) (hn : nx < B64) (hi : k < n) (hk1 : k = k1 + 1) (hk0 : k = k0 + 2) :
    Calls Try.prog 89 #[.slice a n c, .int .u64 t, .int .u64 nx, .int .i64 k] w (Post w fun v _ => ∃ g : Nat, v = .int .u64 g ∧ g < B64 ∧
      ∀ Q, Q < B64 → Q * (t * B64 + nx) ≤ (us[k]?.getD 0 * B64 + us[k1]?.getD 0) * B64 + us[k0]?.getD 0 → Q ≤ g) := by
  have hfew0 := h.few
  obtain rfl := h.len
  obtain ⟨b, off, rfl, d2⟩ := h.at hi
  have d1 := h.on (i := k1) (by omega)
  have d0 := h.on (i := k0) (by omega)
  have hfew := h.few
  have b2 := h.bd k
  have b1 := h.bd k1
  have b0 := h.bd k0
  have e1 : (k : Int) - 1 = k1 := by omega
  have e0 : (k : Int) - 2 = k0 := by omega
  have ew : IntKind.i64.wrap ((k : Int) - 1) = k1 := by rw [IntWalk.i64_in _ (by omega)]; exact e1
  clear e1
  have hk1l : k1 < us.length := by omega
  have hk0l : k0 < us.length := by omega
  clear hk1 hk0
  generalize us[k]?.getD 0 = u2 at *
  generalize us[k1]?.getD 0 = u1 at *
  generalize us[k0]?.getD 0 = u0 at *
  by_cases hbig : t ≤ u2
  · unfold B64 at b2
    go_enter Try.func89, Try.ntmps89
    go_wp2
    go_ret
    exact Post.mk (Ext.refl _) ⟨18446744073709551615, rfl, by unfold B64; omega, fun Q hQ _ => by unfold B64 at hQ; omega⟩
  · have hdv := fun w => div64_quiet u2 u1 t w (by omega) b1 ht
    have hdm := Nat.div_add_mod (u2 * B64 + u1) t
    have hmod := Nat.mod_lt (u2 * B64 + u1) (y := t) (by omega)
    have hdlt := dv_lt (b := B64) (u := u2) (d := u1) (y := t) (by omega) b1
    generalize (u2 * B64 + u1) / t = q0 at *
    generalize (u2 * B64 + u1) % t = r0 at *
    have HDM := Lib.hid hdm
    clear hdm
    unfold B64 at b2 b1
    go_enter Try.func89, Try.ntmps89
    go_wp2
    go_quiet ((go_at_call 61; exact Calls.quiet_of (hdv _)))
    clear d2 d1 hdv b2 b1
    go_wp2
    have d0' : (w.drewN nq).cell? ⟨b, off + k0, none⟩ = some (.int .u64 (u0 : Int)) := d0
    go_loop [9, 10] (fun q r => ∃ q' r' : Nat, q = .int .u64 q' ∧ r = .int .u64 r' ∧ Hid (GuessOk q' r' t nx (u2 * B64 + u1) u0)) (fun q _ => (intOf q).toNat)
    case atStart => exact ⟨q0, r0, rfl, rfl, Lib.hid (GuessOk.start HDM.out hmod hdlt b0 ht)⟩
    case round =>
      obtain ⟨q, r, rfl, rfl, HQ⟩ := hrel
      have hq : q < 18446744073709551616 := HQ.out.2.1
      have hr : r < 18446744073709551616 := HQ.out.2.2.1
      have hmul := Try.bits_Mul64 q nx hq hn
      have hdl := divmod_le (p := q * nx) (r := r) b0
      obtain ⟨c, hc⟩ : ∃ c, (r + t) / B64 = c := ⟨_, rfl⟩
      obtain ⟨s, hs⟩ : ∃ s, (r + t) % B64 = s := ⟨_, rfl⟩
      have hadd := run_Add64z r t c s hc hs
      have hno := HQ.out.dec
      have hnext := HQ.out.next
      have hcs : c = 0 ∧ s = r + t ∧ r + t < B64 ∨ c = 1 := by unfold B64 at hc hs ht ⊢; omega
      have HS := Lib.hid hcs
      clear hc hs hcs
      unfold B64 at hdl
      generalize q * nx / 18446744073709551616 = hh at *
      generalize q * nx % 18446744073709551616 = ll at *
      have HDL := Lib.hid hdl
      clear hdl
      have stay : ∀ g : Nat, g < B64 → (∀ Q, Q * (t * B64 + nx) ≤ (u2 * B64 + u1) * B64 + u0 → Q ≤ g) → (∃ g' : Nat, Value.int .u64 (g : Int) = .int .u64 g' ∧ g' < B64 ∧
          ∀ Q, Q < B64 → Q * (t * B64 + nx) ≤ (u2 * B64 + u1) * B64 + u0 → Q ≤ g') := fun g hg h => ⟨g, rfl, hg, fun Q _ => h Q⟩
      have HST := Lib.hid stay
      have HNO := Lib.hid hno
      have HNX := Lib.hid hnext
      clear stay hno hnext
      by_cases A : hh < r
      · go_wp2_with (go_at_call 93; refine (hmul _).mono ?_; rintro e wm ⟨rfl, rfl⟩)
        go_ret
        exact Post.mk ((Ext.refl _).drewN _) (HST.out _ HQ.out.2.1 HQ.out.2.2.2)
      · by_cases B : hh = r
        · subst B
          by_cases C : ll ≤ u0
          · go_wp2_with (go_at_call 93; refine (hmul _).mono ?_; rintro e wm ⟨rfl, rfl⟩)
            go_ret
            exact Post.mk ((Ext.refl _).drewN _) (HST.out _ HQ.out.2.1 HQ.out.2.2.2)
          · have hno : ¬ q * nx ≤ hh * B64 + u0 := by
              have := HDL.out
              unfold B64
              omega
            obtain ⟨hq0, _, hall⟩ := HNO.out hno
            have HA := Lib.hid hall
            have HN := Lib.hid hno
            clear hall hno
            rcases HS.out with ⟨hc, hs, hrt⟩ | hc
            · subst hc
              have HSR := Lib.hid hs
              clear hs
              go_wp2_with (go_at_call 93; refine (hmul _).mono ?_; rintro e wm ⟨rfl, rfl⟩)
              go_round
              case rel => exact ⟨q - 1, s, by congr 1; omega, rfl, by rw [HSR.out]; exact Lib.hid (HNX.out HN.out hrt)⟩
              case measure => simp only [intOf]; omega
            · subst hc
              go_wp2_with (go_at_call 93; refine (hmul _).mono ?_; rintro e wm ⟨rfl, rfl⟩)
              have eq1 : (q : Int) - 1 = (q - 1 : Nat) := by omega
              rw [eq1]
              go_ret
              exact Post.mk ((Ext.refl _).drewN _) (HST.out _ (by unfold B64; omega) HA.out)
        · have hno : ¬ q * nx ≤ r * B64 + u0 := by
            have := HDL.out
            unfold B64
            omega
          obtain ⟨hq0, _, hall⟩ := HNO.out hno
          have HA := Lib.hid hall
          have HN := Lib.hid hno
          clear hall hno
          rcases HS.out with ⟨hc, hs, hrt⟩ | hc
          · subst hc
            have HSR := Lib.hid hs
            clear hs
            go_wp2_with (go_at_call 93; refine (hmul _).mono ?_; rintro e wm ⟨rfl, rfl⟩)
            go_round
            case rel => exact ⟨q - 1, s, by congr 1; omega, rfl, by rw [HSR.out]; exact Lib.hid (HNX.out HN.out hrt)⟩
            case measure => simp only [intOf]; omega
          · subst hc
            go_wp2_with (go_at_call 93; refine (hmul _).mono ?_; rintro e wm ⟨rfl, rfl⟩)
            have eq1 : (q : Int) - 1 = (q - 1 : Nat) := by omega
            rw [eq1]
            go_ret
            exact Post.mk ((Ext.refl _).drewN _) (HST.out _ (by unfold B64; omega) HA.out)
end Go.Proofs.Ytgihjgkpmochcaa

namespace Go.Proofs.Ytgihjgkpmochcaa
open Go.RowKit

theorem splice_two (U R : List Nat) (j n : Nat) (hj : j + n ≤ U.length) (hR : R.length ≤ n) :
    splice (splice U j (List.replicate n 0)) j R = U.take j ++ (R ++ (List.replicate (n - R.length) 0 ++ U.drop (j + n))) := by
  have h1 : (U.take j).length = j := by rw [List.length_take]; omega
  unfold splice
  rw [List.length_replicate]
  generalize hA : U.take j = A at *
  rw [List.take_append_of_le_length (by omega), List.take_of_length_le (by omega)]
  congr 2
  rw [List.drop_append, List.drop_of_length_le (by omega), List.nil_append, h1, show j + R.length - j = R.length by omega, List.drop_append, List.drop_replicate, List.length_replicate, show R.length - n = 0 by omega, List.drop_zero]

/-- What is kept, digit by digit, while X is divided by V (k limbs): j digits are still wanted. -/
structure DivOk (X V k m j : Nat) (U q : List Nat) : Prop where
  lu : U.length = m + 1
  bu : ∀ x ∈ U, x < B64
  lq : q.length = m + 1 - k
  bq : ∀ x ∈ q, x < B64
  sum : val U + V * val q = X
  top : val (U.drop j) < V
  zero : ∀ t, t < j → q[t]?.getD 0 = 0
theorem DivOk.start {x y s k m : Nat} {U : List Nat} (hl : U.length = m + 1) (hb : ∀ x ∈ U, x < B64) (hv : val U = x * 2 ^ s) (hk : k ≤ m) (hk1 : 0 < k) (hx : x < B64 ^ m) (hy : B64 ^ (k - 1) ≤ y) :
    DivOk (x * 2 ^ s) (y * 2 ^ s) k m (m + 1 - k) U (List.replicate (m + 1 - k) 0) := by
  refine ⟨hl, hb, by simp, fun x hx => ?_, by rw [val_zeros, hv]; omega, ?_, fun t _ => getD_replicate _ _⟩
  · rw [(List.mem_replicate.1 hx).2]; exact B64_pos
  · rw [val_drop _ hb _ (by omega), hv]
    apply Nat.div_lt_of_lt_mul
    rw [← Nat.mul_assoc]
    apply Nat.mul_lt_mul_of_pos_right _ (Nat.two_pow_pos s)
    have h1 : B64 ^ (m + 1 - k) * B64 ^ (k - 1) ≤ B64 ^ (m + 1 - k) * y := Nat.mul_le_mul_left _ hy
    rw [← Nat.pow_add, show m + 1 - k + (k - 1) = m by omega] at h1
    omega
theorem val_pos_low {xs : List Nat} {V k : Nat} (hk : k ≤ xs.length) (hV : V < B64 ^ k) (h : val xs < V) : val (xs.drop k) = 0 := by
  rw [val_take_drop xs k hk] at h
  by_cases h0 : val (xs.drop k) = 0
  · exact h0
  · have : B64 ^ k ≤ B64 ^ k * val (xs.drop k) := Nat.le_mul_of_pos_right _ (by omega)
    omega
/-- The part of the number that the next digit is taken from. -/
theorem DivOk.part {X V k m j : Nat} {U q : List Nat} (h : DivOk X V k m (j + 1) U q) (hV : V < B64 ^ k) (hj : j + k < m + 1) :
    ((U.drop j).take (k + 1)).length = k + 1 ∧ val (U.drop j) = val ((U.drop j).take (k + 1)) ∧ val (U.drop (j + (k + 1))) = 0 ∧ val ((U.drop j).take (k + 1)) < B64 * V := by
  have hlu := h.lu
  have h0 := val_pos_low (xs := U.drop (j + 1)) (k := k) (by rw [List.length_drop]; omega) hV h.top
  rw [List.drop_drop, show j + 1 + k = j + (k + 1) by omega] at h0
  have h1 := val_take_drop (U.drop j) (k + 1) (by rw [List.length_drop]; omega)
  rw [List.drop_drop, h0, Nat.mul_zero, Nat.add_zero] at h1
  refine ⟨by rw [List.length_take, List.length_drop]; omega, h1, h0, ?_⟩
  rw [← h1]
  have h2 : val (U.drop j) = U[j] + B64 * val (U.drop (j + 1)) := by rw [List.drop_eq_getElem_cons (by omega : j < U.length), val]
  have h3 := h.bu U[j] (List.getElem_mem _)
  have h4 : B64 * (val (U.drop (j + 1)) + 1) ≤ B64 * V := Nat.mul_le_mul_left _ h.top
  rw [Nat.mul_add] at h4
  omega
theorem DivOk.step {X V k m j : Nat} {U q : List Nat} (h : DivOk X V k m (j + 1) U q) (hV : V < B64 ^ k) (hj : j + k < m + 1) {g : Nat} {R : List Nat} (hg : g * V ≤ val ((U.drop j).take (k + 1))) (hg2 : val ((U.drop j).take (k + 1)) < (g + 1) * V)
    (hgb : g < B64) (hR : val R = val ((U.drop j).take (k + 1)) - g * V) (hRl : R.length ≤ k + 1) (hRb : ∀ x ∈ R, x < B64) :
    DivOk X V k m j (splice (splice U j (List.replicate (k + 1) 0)) j R) (q.set j g) := by
  obtain ⟨p1, p2, p3, p4⟩ := h.part hV hj
  have hlu := h.lu
  have hlq := h.lq
  have e0 := splice_two U R j (k + 1) (by omega) hRl
  have htl : (U.take j).length = j := by rw [List.length_take]; omega
  have e1 : (U.take j ++ (R ++ (List.replicate (k + 1 - R.length) 0 ++ U.drop (j + (k + 1))))).drop j = R ++ (List.replicate (k + 1 - R.length) 0 ++ U.drop (j + (k + 1))) := by
    rw [List.drop_append, List.drop_of_length_le (by omega), htl, Nat.sub_self]; rfl
  have e2 : val (R ++ (List.replicate (k + 1 - R.length) 0 ++ U.drop (j + (k + 1)))) = val R := by
    rw [val_append, val_append, val_zeros, p3]; simp
  have e3 := val_take_drop U j (by omega)
  have e4 := val_set q j g (by omega)
  rw [h.zero j (by omega), Nat.mul_zero, Nat.add_zero] at e4
  rw [e0]
  refine ⟨?_, ?_, by simp [h.lq], lt_set h.bq hgb _, ?_, ?_, fun t ht => ?_⟩
  · simp only [List.length_append, List.length_replicate, List.length_drop, htl]; omega
  · intro x hx
    rcases List.mem_append.1 hx with hx | hx
    · exact h.bu x (List.mem_of_mem_take hx)
    · rcases List.mem_append.1 hx with hx | hx
      · exact hRb x hx
      · rcases List.mem_append.1 hx with hx | hx
        · rw [(List.mem_replicate.1 hx).2]; exact B64_pos
        · exact h.bu x (List.mem_of_mem_drop hx)
  · rw [val_append, htl, e2, e4, Nat.mul_add, Nat.mul_left_comm, hR, Nat.mul_comm V g, ← h.sum, e3, p2]
    have : B64 ^ j * (val ((U.drop j).take (k + 1)) - g * V) + B64 ^ j * (g * V) = B64 ^ j * val ((U.drop j).take (k + 1)) := by
      rw [← Nat.mul_add]; congr 1; omega
    omega
  · rw [e1, e2, hR]
    rw [Nat.add_mul] at hg2
    omega
  · rw [getD_set, if_neg (by omega)]; exact h.zero t (by omega)
theorem DivOk.done {x y s k m : Nat} {U q : List Nat} (h : DivOk (x * 2 ^ s) (y * 2 ^ s) k m 0 U q) (hy : 0 < y) : val q = x / y ∧ val U / 2 ^ s = x % y ∧ val U < y * 2 ^ s := by
  have ht := h.top
  rw [List.drop_zero] at ht
  have hp := Nat.two_pow_pos s
  have hV : 0 < y * 2 ^ s := Nat.mul_pos hy hp
  have e : x * 2 ^ s = (y * 2 ^ s) * val q + val U := by rw [← h.sum]; omega
  refine ⟨?_, ?_, ht⟩
  · have : x * 2 ^ s / (y * 2 ^ s) = val q := by rw [e, Nat.mul_add_div hV, Nat.div_eq_of_lt ht, Nat.add_zero]
    rw [Nat.mul_div_mul_right _ _ hp] at this
    exact this.symm
  · have : x * 2 ^ s % (y * 2 ^ s) = val U := by rw [e, Nat.mul_add_mod, Nat.mod_eq_of_lt ht]
    rw [Nat.mul_mod_mul_right] at this
    rw [← this, Nat.mul_div_cancel _ hp]
/-- The digit that is wanted is no greater than what its three upper limbs allow. -/
theorem guess_need {vs ps : List Nat} {c Q : Nat} (hv : vs.length = c + 2) (hp : ps.length = c + 3) (hb : ∀ x ∈ ps, x < B64) (h : Q * val vs ≤ val ps) :
    Q * (vs[c + 1]?.getD 0 * B64 + vs[c]?.getD 0) ≤ (ps[c + 2]?.getD 0 * B64 + ps[c + 1]?.getD 0) * B64 + ps[c]?.getD 0 := by
  rw [← pv_add vs (c + 2) (by omega), ← pv_add ps (c + 3) (by omega), pv, pv, pv, pv, pv] at h
  have hl := pv_lt hb c
  have hpos := pow_pos' c
  generalize vs[c + 1]?.getD 0 = t at *
  generalize vs[c]?.getD 0 = n at *
  generalize ps[c + 2]?.getD 0 = a at *
  generalize ps[c + 1]?.getD 0 = b at *
  generalize ps[c]?.getD 0 = d at *
  have h1 : B64 ^ c * (Q * (t * B64 + n)) ≤ Q * (pv vs c + B64 ^ c * n + B64 ^ (c + 1) * t) := by
    rw [Nat.mul_left_comm]
    apply Nat.mul_le_mul_left
    rw [Nat.mul_add, Nat.pow_succ, Nat.mul_assoc, Nat.mul_comm t B64]; omega
  have h2 : pv ps c + B64 ^ c * d + B64 ^ (c + 1) * b + B64 ^ (c + 2) * a < B64 ^ c * ((a * B64 + b) * B64 + d + 1) := by
    have e1 : B64 ^ (c + 2) * a = B64 ^ c * (a * B64 * B64) := by rw [Nat.pow_succ, Nat.pow_succ, Nat.mul_assoc, Nat.mul_assoc, Nat.mul_comm a, ← Nat.mul_assoc B64 B64, Nat.mul_comm (B64 * a) B64, ← Nat.mul_assoc B64 B64 a]
    have e2 : B64 ^ (c + 1) * b = B64 ^ c * (b * B64) := by rw [Nat.pow_succ, Nat.mul_assoc, Nat.mul_comm B64 b]
    rw [e1, e2, Nat.mul_add, Nat.mul_add, Nat.mul_one, Nat.add_mul, Nat.mul_add]; omega
  have h3 := Nat.lt_of_le_of_lt h1 (Nat.lt_of_le_of_lt h h2)
  have := Nat.lt_of_mul_lt_mul_left h3
  omega
end Go.Proofs.Ytgihjgkpmochcaa

namespace Go.Proofs.Ytgihjgkpmochcaa
open Go.RowKit

theorem splice_set (L cs : List Nat) (o x : Nat) (ho : o < L.length) : splice (L.set o x) (o + 1) cs = splice L o (x :: cs) := by
  unfold splice
  rw [List.length_cons, List.drop_set_of_lt (by omega), show o + 1 + cs.length = o + (cs.length + 1) by omega]
  have e : (L.set o x).take (o + 1) = L.take o ++ [x] := by
    rw [List.take_add_one, List.take_set_of_le (by omega), List.getElem?_set_self ho]; rfl
  rw [e]
  simp
theorem Row.setCells {w : World} {b T : Nat} {L : List Nat} (h : Row w b T L) (o : Nat) (cs : List Nat) (ho : o + cs.length ≤ L.length) : Row (w.setCells b o (lims cs)) b T (splice L o cs) := by
  induction cs generalizing w L o with
  | nil => simpa [splice, lims, World.setCells] using h
  | cons x cs ih =>
    rw [List.length_cons] at ho
    rw [← splice_set L cs o x (by omega)]
    exact ih (h.set o x) (o + 1) (by rw [List.length_set]; omega)
theorem Ext.setCells {a w : World} (h : Ext a w) {b : Nat} (hb : a.heap.size ≤ b) (o : Nat) (cs : List Value) : Ext a (w.setCells b o cs) := by
  induction cs generalizing w o with
  | nil => exact h
  | cons x cs ih => exact ih (h.set (p := ⟨b, o, none⟩) hb x) (o + 1)
theorem lims_splice (L R : List Nat) (o : Nat) : splice (lims L) o (lims R) = lims (splice L o R) := by simp [splice, lims]

/-- One block at most has turned. -/
def Only (b : Nat) (w w' : World) : Prop := (∀ a, Ext a w → a.heap.size ≤ b → Ext a w') ∧ ∀ k, k ≠ b → w'.heap[k]? = w.heap[k]?
theorem Only.refl (b : Nat) (w : World) : Only b w w := ⟨fun _ h _ => h, fun _ _ => rfl⟩
theorem Only.trans {b : Nat} {w w' w'' : World} (h : Only b w w') (k : Only b w' w'') : Only b w w'' := ⟨fun a ha hb => k.1 a (h.1 a ha hb) hb, fun i hi => (k.2 i hi).trans (h.2 i hi)⟩
theorem Only.set (w : World) (b i : Nat) (v : Value) : Only b w (w.setCell ⟨b, i, none⟩ v) :=
  ⟨fun _ ha hb => ha.set (p := ⟨b, i, none⟩) hb v, fun k hk => Below.heap_setCell w ⟨b, i, none⟩ v k hk⟩
theorem Only.setCells (w : World) (b o : Nat) (cs : List Value) : Only b w (w.setCells b o cs) := by
  induction cs generalizing w o with
  | nil => exact Only.refl _ _
  | cons x cs ih => exact (Only.set w b o x).trans (ih _ (o + 1))
theorem Row.only {w w' : World} {b b' T : Nat} {L : List Nat} (h : Row w b' T L) (o : Only b w w') (hne : b' ≠ b) : Row w' b' T L := (o.2 b' hne).trans h
theorem cell_only {w w' : World} {b : Nat} (o : Only b w w') {p : Addr} (hp : p.block ≠ b) : w'.cell? p = w.cell? p := by
  simp only [World.cell?, o.2 p.block hp]
theorem Nums.only {w w' : World} {b n c : Nat} {a : Option Addr} {xs : List Nat} (h : Nums w a n c xs) (o : Only b w w') (hne : ∀ p, a = some p → p.block ≠ b) : Nums w' a n c xs :=
  ⟨h.len, h.few, h.cap, h.lt, h.at_.imp id fun ⟨b', off, ha, hc⟩ => ⟨b', off, ha, fun i hi => by rw [cell_only o (p := ⟨b', off + i, none⟩) (show b' ≠ b from hne ⟨b', off, none⟩ ha)]; exact hc i hi⟩⟩

/-- 'clear' of a part of a row of limbs. -/
theorem wpList_clear_row {P : Program} (w : World) {ops : Array Oper} {rest : List Oper} {o : Oper} {a : Act} {Q : Exit → Act → World → Prop} (hgd : o.guard = none) (d : Operand) (dT : TypeId)
    (ho : o.op = .call { callee := .builtin .clear, args := #[d], argTypes := #[dT] }) (e : TypeId) (i : TypeInfo) (hu : P.underlying dT = some (.slice e)) (hi : P.info? e = some i) (hz : i.zero = some (.int .u64 0))
    (b off n c : Nat) (hd : a.eval d = .slice (some ⟨b, off, none⟩) n c) (hn : 0 < n) (T : Nat) (L : List Nat) (hr : Row w b T L) (hfit : off + n ≤ L.length)
    (hK : ∀ w', Row w' b T (splice L off (List.replicate n 0)) → Only b w w' → wpList P ops Q rest (a.put o.dst (.tuple #[])) w') :
    wpList P ops Q (o :: rest) a w := by
  refine wpList_plain hgd fun K hK' => ?_
  have hv : ∀ w, (zeroValue e).run P w = .ok (.int .u64 0) w := fun w => by simp [zeroValue, typeInfo, hi, hz]
  have hrun := Lib.run_clear_slice (P := P) w dT e o.type (.int .u64 0) hu hv rfl rfl b off n c hn
    (fun j hj => by rw [hr.cell (by omega)]; rfl) (fun j _ => hr.frozen _)
  have e1 : List.replicate n (Value.int .u64 0) = lims (List.replicate n 0) := by simp [lims]
  rw [e1] at hrun
  unfold Oper.wp
  simp [execOp, ho, resolve, invoke, builtin, hd, hrun, Result.andThen]
  exact hK' _ _ (hK _ (hr.setCells off _ (by simpa using hfit)) (Only.setCells _ _ _ _))
/-- 'copy' of limbs into a part of a row of limbs. -/
theorem wpList_copy_row {P : Program} (w : World) {ops : Array Oper} {rest : List Oper} {o : Oper} {a : Act} {Q : Exit → Act → World → Prop} (hgd : o.guard = none) (d s : Operand) (dT sT : TypeId)
    (ho : o.op = .call { callee := .builtin .copy, args := #[d, s], argTypes := #[dT, sT] }) (e : TypeId) (i : TypeInfo) (hu : P.underlying dT = some (.slice e)) (hi : P.info? e = some i) (hs : i.size = 1)
    (b off n c : Nat) (hd : a.eval d = .slice (some ⟨b, off, none⟩) n c) (sp : Option Addr) (sn sc : Nat) (hsl : a.eval s = .slice sp sn sc) (T : Nat) (L R : List Nat) (hr : Row w b T L) (hR : Nums w sp sn sc R) (hle : sn ≤ n) (hfit : off + n ≤ L.length)
    (hK : ∀ w', Row w' b T (splice L off R) → Only b w w' → wpList P ops Q rest (a.put o.dst (goInt R.length)) w') :
    wpList P ops Q (o :: rest) a w := by
  have hsz : (P.info? e).map (·.size) = some 1 := by rw [hi]; simp [hs]
  have hlen := hR.len
  by_cases h0 : sn = 0
  · have hR0 : R = [] := List.eq_nil_of_length_eq_zero (by omega)
    subst hR0
    subst h0
    refine wpList_copy_nothing hgd d s dT sT ho e hu hsz _ _ _ _ _ _ hd hsl (Nat.zero_min _) ?_
    exact hK w (by simpa [splice] using hr) (Only.refl _ _)
  · rcases hR.cells with h1 | ⟨ad, rfl, h2⟩
    · have := congrArg List.length h1
      rw [List.length_map] at this
      simp at this; subst this; simp at hlen; omega
    · have hl : (lims R).length = Nat.min sn n := by rw [length_lims, hlen]; exact (Nat.min_eq_left hle).symm
      have hrun := run_copy_cells (P := P) w dT sT o.type e b off n c ad sn sc (lims R) hu hsz hl h2
        (fun j hj => by rw [length_lims] at hj; rw [hr.cell (by omega)]; rfl) (fun j _ => hr.frozen _) (oneCell_u64 R)
      refine wpList_plain hgd fun K hK' => ?_
      unfold Oper.wp
      simp [execOp, ho, resolve, invoke, builtin, hd, hsl, hrun, Result.andThen]
      have := hK _ (hr.setCells off R (by omega)) (Only.setCells w b off (lims R))
      rw [← length_lims R] at this
      exact hK' _ _ this
end Go.Proofs.Ytgihjgkpmochcaa

namespace Go.Proofs.Ytgihjgkpmochcaa
set_option linter.unusedVariables false
open Go.RowKit

/-- What Div hands back: a quotient, a rest, no error. -/
def DRes (w : World) (v : Value) (Q R : Nat) : Prop := ∃ aq nq cq ar nr cr, v = .tuple #[.slice aq nq cq, .slice ar nr cr, .int .i64 0] ∧ Nums w aq nq cq (limbs Q) ∧ Nums w ar nr cr (limbs R)
theorem Top_pos : 0 < Top := (fits_iff 0).1 (by rw [limbs_zero]; exact Nat.zero_le _)
theorem isLong_nil : isLong [] = false := isLong_false Top_pos

set_option maxRecDepth 100000 in
set_option maxHeartbeats 1000000 in
theorem div_long (a1 a2 : Option Addr) (n1 c1 n2 c2 : Nat) (xs ys : List Nat) (w : World) (h1 : Nums w a1 n1 c1 xs) (h2 : Nums w a2 n2 c2 ys) (hf : ¬ (val xs < Top ∧ val ys < Top)) :
    Calls Try.prog 77 #[.slice a1 n1 c1, .slice a2 n2 c2] w (Post w fun v w' => v = .tuple #[.slice none 0 0, .slice none 0 0, .int .i64 3]) := by
  have hno : [limbs (val xs), limbs (val ys)].any isLong = true := by
    rw [any_two, Bool.or_eq_true]
    by_cases h : val xs < Top
    · exact .inr (isLong_true (by rw [val_limbs]; exact fun h' => hf ⟨h, h'⟩))
    · exact .inl (isLong_true (by rw [val_limbs]; exact h))
  generalize hA : limbs (val xs) = A at *
  generalize hB : limbs (val ys) = B at *
  have HA := Lib.hid hA
  have HB := Lib.hid hB
  have HNO := Lib.hid hno
  clear hno hA hB hf
  go_enter Try.func77, Try.ntmps77
  go_wp2
  go_step3
  go_wp2_with (first
    | (go_at_call 35; refine (normal_any _ _ _ _ _ h1).mono ?_; rintro e w1 ⟨v, rfl, hext1, a1', n1', c1', rfl, hn1⟩; rw [HA.out] at hn1; clear h1; have h2' := h2.ext hext1)
    | (go_at_call 35; refine (normal_any _ _ _ _ _ h2').mono ?_; rintro e w1' ⟨v, rfl, hext2, a2', n2', c2', rfl, hn2⟩; rw [HB.out] at hn2; have hn1' := hn1.ext hext2; obtain rfl := hn1'.len; obtain rfl := hn2.len)
    | (go_at_call 34; refine (long_any _ _ _ [A, B] _ (NumsL.two (by simp) (by simp) (hn1'.ext (Ext.of_alloc _ _)) (hn2.ext (Ext.of_alloc _ _)))).mono ?_; rintro e w2 ⟨v, rfl, hextL, rfl⟩; rw [HNO.out]))
  rw [Exit.noGoto_ret]
  go_ret3
  exact Post.mk ((hext1.trans hext2).trans ((Ext.of_alloc _ _).trans hextL)) rfl

set_option maxRecDepth 100000 in
set_option maxHeartbeats 1000000 in
theorem div_zero (a1 a2 : Option Addr) (n1 c1 n2 c2 : Nat) (xs ys : List Nat) (w : World) (h1 : Nums w a1 n1 c1 xs) (h2 : Nums w a2 n2 c2 ys) (hf1 : val xs < Top) (hy : val ys = 0) :
    Calls Try.prog 77 #[.slice a1 n1 c1, .slice a2 n2 c2] w (Post w fun v w' => v = .tuple #[.slice none 0 0, .slice none 0 0, .int .i64 2]) := by
  have hno : [limbs (val xs), []].any isLong = false := by
    rw [any_two, isLong_false (by rw [val_limbs]; exact hf1), isLong_nil]; rfl
  have hB : limbs (val ys) = [] := by rw [hy]; exact limbs_zero
  generalize hA : limbs (val xs) = A at *
  have HA := Lib.hid hA
  have HB := Lib.hid hB
  have HNO := Lib.hid hno
  clear hno hA hB hy
  go_enter Try.func77, Try.ntmps77
  go_wp2
  go_step3
  go_wp2_with (first
    | (go_at_call 35; refine (normal_any _ _ _ _ _ h1).mono ?_; rintro e w1 ⟨v, rfl, hext1, a1', n1', c1', rfl, hn1⟩; rw [HA.out] at hn1; clear h1; have h2' := h2.ext hext1)
    | (go_at_call 35; refine (normal_any _ _ _ _ _ h2').mono ?_; rintro e w1' ⟨v, rfl, hext2, a2', n2', c2', rfl, hn2⟩; rw [HB.out] at hn2; have hn1' := hn1.ext hext2; obtain rfl := hn1'.len; obtain rfl := hn2.len)
    | (go_at_call 34; refine (long_any _ _ _ [A, []] _ (NumsL.two (by simp) (by simp) (hn1'.ext (Ext.of_alloc _ _)) (hn2.ext (Ext.of_alloc _ _)))).mono ?_; rintro e w2 ⟨v, rfl, hextL, rfl⟩; rw [HNO.out]))
  rw [Exit.noGoto_ret]
  go_ret3
  exact Post.mk ((hext1.trans hext2).trans ((Ext.of_alloc _ _).trans hextL)) rfl

set_option maxRecDepth 100000 in
set_option maxHeartbeats 1000000 in
theorem div_less (a1 a2 : Option Addr) (n1 c1 n2 c2 : Nat) (xs ys : List Nat) (w : World) (h1 : Nums w a1 n1 c1 xs) (h2 : Nums w a2 n2 c2 ys) (hf1 : val xs < Top) (hf2 : val ys < Top) (hy : val ys ≠ 0) (hlt : val xs < val ys) :
    Calls Try.prog 77 #[.slice a1 n1 c1, .slice a2 n2 c2] w (Post w fun v w' => DRes w' v (val xs / val ys) (val xs % val ys)) := by
  have hno : [limbs (val xs), limbs (val ys)].any isLong = false := by
    rw [any_two, isLong_false (by rw [val_limbs]; exact hf1), isLong_false (by rw [val_limbs]; exact hf2)]; rfl
  have hl1 := (fits_iff _).2 hf1
  have hl2 := (fits_iff _).2 hf2
  have hv1 := val_limbs (val xs)
  have hv2 := val_limbs (val ys)
  have hlen := length_limbs_pos hy
  rw [Nat.div_eq_of_lt hlt, Nat.mod_eq_of_lt hlt]
  have hc : cmpN (val (limbs (val xs))) (val (limbs (val ys))) = -1 := by rw [hv1, hv2]; unfold cmpN; rw [if_pos hlt]
  have hfit : fit (val (limbs (val xs))) = some (val xs) := by rw [hv1]; unfold fit; rw [if_pos hf1]
  generalize hA : limbs (val xs) = A at *
  generalize hB : limbs (val ys) = B at *
  have HA := Lib.hid hA
  have HB := Lib.hid hB
  have HNO := Lib.hid hno
  have HC := Lib.hid hc
  have HF := Lib.hid hfit
  clear hno hA hB hy hc hfit hv1 hv2 hf1 hf2 hlt
  go_enter Try.func77, Try.ntmps77
  go_wp2
  go_step3
  go_wp2_with (first
    | (go_at_call 35; refine (normal_any _ _ _ _ _ h1).mono ?_; rintro e w1 ⟨v, rfl, hext1, a1', n1', c1', rfl, hn1⟩; rw [HA.out] at hn1; clear h1; have h2' := h2.ext hext1)
    | (go_at_call 35; refine (normal_any _ _ _ _ _ h2').mono ?_; rintro e w1' ⟨v, rfl, hext2, a2', n2', c2', rfl, hn2⟩; rw [HB.out] at hn2; have hn1' := hn1.ext hext2; obtain rfl := hn1'.len; obtain rfl := hn2.len)
    | (go_at_call 34; refine (long_any _ _ _ [A, B] _ (NumsL.two (by simp) (by simp) (hn1'.ext (Ext.of_alloc _ _)) (hn2.ext (Ext.of_alloc _ _)))).mono ?_; rintro e w2 ⟨v, rfl, hextL, rfl⟩; rw [HNO.out])
    | (go_at_call 43; refine (cmp_any _ _ _ _ _ _ _ _ _ (hn1'.ext ((Ext.of_alloc _ _).trans hextL)) (hn2.ext ((Ext.of_alloc _ _).trans hextL))).mono ?_; rintro e w3 ⟨v, rfl, hext3, rfl⟩; rw [HC.out])
    | (go_at_call 28; refine (told_any _ _ _ _ _ (hn1'.ext (((Ext.of_alloc _ _).trans hextL).trans hext3))).mono ?_; rintro e w4 ⟨v, rfl, hext4, hres⟩; rw [HF.out] at hres; obtain ⟨ar, nr, cr, rfl, hr⟩ := hres))
  rw [Exit.noGoto_ret]
  go_ret3
  refine Post.mk (((hext1.trans hext2).trans (((Ext.of_alloc _ _).trans hextL).trans hext3)).trans hext4) ⟨none, 0, 0, ar, nr, cr, rfl, ?_, hr⟩
  rw [limbs_zero]; exact Nums.nil _ _ _

set_option maxRecDepth 100000 in
set_option maxHeartbeats 1000000 in
theorem div_one (a1 a2 : Option Addr) (n1 c1 n2 c2 : Nat) (xs ys : List Nat) (w : World) (h1 : Nums w a1 n1 c1 xs) (h2 : Nums w a2 n2 c2 ys) (hf1 : val xs < Top) (hf2 : val ys < Top) (hge : val ys ≤ val xs) (d : Nat) (hd : limbs (val ys) = [d]) :
    Calls Try.prog 77 #[.slice a1 n1 c1, .slice a2 n2 c2] w (Post w fun v w' => DRes w' v (val xs / val ys) (val xs % val ys)) := by
  have hno : [limbs (val xs), limbs (val ys)].any isLong = false := by
    rw [any_two, isLong_false (by rw [val_limbs]; exact hf1), isLong_false (by rw [val_limbs]; exact hf2)]; rfl
  have hl1 := (fits_iff _).2 hf1
  have hl2 := (fits_iff _).2 hf2
  have hv1 := val_limbs (val xs)
  have hv2 := val_limbs (val ys)
  have hc : ¬ cmpN (val (limbs (val xs))) (val (limbs (val ys))) < 0 := by rw [hv1, hv2]; unfold cmpN; rw [if_neg (by omega)]; split <;> omega
  have hdb : d < B64 := lt_limbs (val ys) d (by rw [hd]; simp)
  have hd0 : 0 < d := by
    obtain ⟨xs', t, e, h0, _⟩ := limbs_last (n := val ys) (fun e => by rw [e, limbs_zero] at hd; cases hd)
    rw [hd] at e
    cases xs' with
    | nil => cases e; omega
    | cons _ _ => simp at e
  have hvd : val ys = d := by rw [← hv2, hd]; simp [val]
  have hq : val xs / d < Top := Nat.lt_of_le_of_lt (Nat.div_le_self _ _) hf1
  have hfit : fit (val (limbs (val xs / d))) = some (val xs / d) := by rw [val_limbs]; unfold fit; rw [if_pos hq]
  rw [hvd]
  rw [hd] at hc hno
  generalize hA : limbs (val xs) = A at *
  rw [← hv1] at hfit ⊢
  have HA := Lib.hid hA
  have HB := Lib.hid hd
  have HNO := Lib.hid hno
  have HF := Lib.hid hfit
  generalize hcc : cmpN (val A) (val [d]) = cc at *
  have HC := Lib.hid hcc
  have hm : val A % d < B64 := Nat.lt_trans (Nat.mod_lt _ hd0) hdb
  clear hno hA hd hfit hv1 hv2 hf1 hf2 hvd hge hq hcc
  go_enter Try.func77, Try.ntmps77
  go_wp2
  go_step3
  go_wp2_with (first
    | (go_at_call 35; refine (normal_any _ _ _ _ _ h1).mono ?_; rintro e w1 ⟨v, rfl, hext1, a1', n1', c1', rfl, hn1⟩; rw [HA.out] at hn1; clear h1; have h2' := h2.ext hext1)
    | (go_at_call 35; refine (normal_any _ _ _ _ _ h2').mono ?_; rintro e w1' ⟨v, rfl, hext2, a2', n2', c2', rfl, hn2⟩; rw [HB.out] at hn2; have hn1' := hn1.ext hext2; obtain rfl := hn1'.len; obtain rfl := hn2.len)
    | (go_at_call 34; refine (long_any _ _ _ [A, [d]] _ (NumsL.two (by simp) (by simp) (hn1'.ext (Ext.of_alloc _ _)) (hn2.ext (Ext.of_alloc _ _)))).mono ?_; rintro e w2 ⟨v, rfl, hextL, rfl⟩; rw [HNO.out])
    | (go_at_call 43; refine (cmp_any _ _ _ _ _ _ _ _ _ (hn1'.ext ((Ext.of_alloc _ _).trans hextL)) (hn2.ext ((Ext.of_alloc _ _).trans hextL))).mono ?_; rintro e w3 ⟨v, rfl, hext3, rfl⟩; rw [HC.out]; obtain ⟨b2, off2, rfl, hcell⟩ := (hn2.ext (((Ext.of_alloc _ _).trans hextL).trans hext3)).at (i := 0) (by simp); have hcell2 : w3.cell? ⟨b2, off2, none⟩ = some (Value.int .u64 (d : Int)) := hcell; clear hcell)
    | (go_at_call 36; refine (small_any _ _ _ _ d hd0 hdb _ (hn1'.ext (((Ext.of_alloc _ _).trans hextL).trans hext3))).mono ?_; rintro e w4 ⟨v, rfl, hext4, aq, nq, cq, rfl, hq⟩)
    | (go_at_call 28; refine (told_any _ _ _ _ _ hq).mono ?_; rintro e w5 ⟨v, rfl, hext5, hres⟩; rw [HF.out] at hres; obtain ⟨ar, nr, cr, rfl, hr⟩ := hres)
    | (go_at_call 13; refine (of_any _ hm _).mono ?_; rintro e w6 ⟨v, rfl, hext6, ao, no, co, rfl, ho⟩))
  rw [Exit.noGoto_ret]
  go_ret3
  exact Post.mk (((((hext1.trans hext2).trans (((Ext.of_alloc _ _).trans hextL).trans hext3)).trans hext4).trans hext5).trans hext6) ⟨ar, nr, cr, ao, no, co, rfl, hr.ext hext6, ho⟩
end Go.Proofs.Ytgihjgkpmochcaa

namespace Go.Proofs.Ytgihjgkpmochcaa

theorem blen_pos {n : Nat} (h : n ≠ 0) : 0 < blen n := by
  by_cases h0 : blen n = 0
  · have := lt_blen n; rw [h0] at this; simp at this; omega
  · omega
structure Norm (y k s : Nat) : Prop where
  hs : s < 64
  lt : y * 2 ^ s < B64 ^ k
  len : (limbs (y * 2 ^ s)).length = k
  top : 9223372036854775808 ≤ (limbs (y * 2 ^ s))[k - 1]?.getD 0
  low : B64 ^ (k - 1) ≤ y
theorem norm_of {y k : Nat} (hy : y ≠ 0) (hk : (limbs y).length = k) : Norm y k (64 - blen ((limbs y)[k - 1]?.getD 0)) ∧ 64 - blen ((limbs y)[k - 1]?.getD 0) + blen ((limbs y)[k - 1]?.getD 0) = 64 := by
  have hk0 := length_limbs_pos hy
  rw [hk] at hk0
  obtain ⟨xs, t, e, h0, hb, _⟩ := limbs_last hy
  have hbl := blen_limbs hy
  rw [hk] at hbl
  have ht : (limbs y)[k - 1]?.getD 0 = t := by
    have hl : xs.length + 1 = k := by rw [← hk, e]; simp
    rw [e, ← hl, Nat.add_sub_cancel, List.getElem?_append_right (Nat.le_refl _), Nat.sub_self]; rfl
  rw [ht] at hbl ⊢
  have h64 : blen t ≤ 64 := (blen_iff t 64).1 (by rw [← B64_two]; exact hb)
  have hpos := blen_pos h0
  have hy1 := lt_blen y
  have hy2 := pow_blen hy
  have hbp := blen_pos hy
  obtain ⟨s, hs⟩ : ∃ s, 64 - blen t = s := ⟨_, rfl⟩
  rw [hs]
  have hV1 : y * 2 ^ s < B64 ^ k := by
    have : y * 2 ^ s < 2 ^ blen y * 2 ^ s := Nat.mul_lt_mul_of_pos_right hy1 (Nat.two_pow_pos s)
    rw [← Nat.pow_add, hbl, show 64 * (k - 1) + blen t + s = 64 * k by omega, ← B64_pow] at this
    exact this
  have hV2 : 2 ^ (64 * (k - 1) + 63) ≤ y * 2 ^ s := by
    have : 2 ^ (blen y - 1) * 2 ^ s ≤ y * 2 ^ s := Nat.mul_le_mul_right _ hy2
    rw [← Nat.pow_add, hbl, show 64 * (k - 1) + blen t - 1 + s = 64 * (k - 1) + 63 by omega] at this
    exact this
  have hlow : B64 ^ (k - 1) ≤ y := by
    rw [B64_pow]
    exact Nat.le_trans (Nat.pow_le_pow_right (by omega) (by omega)) hy2
  have hlen : (limbs (y * 2 ^ s)).length = k := by
    have h1 := length_limbs_le hV1
    by_cases h2 : (limbs (y * 2 ^ s)).length = k
    · exact h2
    · have h3 := lt_of_length_limbs (n := y * 2 ^ s) (k := k - 1) (by omega)
      rw [B64_pow] at h3
      have : (2 : Nat) ^ (64 * (k - 1)) ≤ 2 ^ (64 * (k - 1) + 63) := Nat.pow_le_pow_right (by omega) (by omega)
      omega
  refine ⟨⟨by omega, hV1, hlen, ?_, hlow⟩, by omega⟩
  have h1 := val_limbs (y * 2 ^ s)
  have hlt := lt_limbs (y * 2 ^ s)
  have h2 := pv_add (limbs (y * 2 ^ s)) k (by omega)
  rw [h1] at h2
  obtain ⟨j, rfl⟩ : ∃ j, k = j + 1 := ⟨k - 1, by omega⟩
  rw [pv] at h2
  have h3 := pv_lt hlt j
  rw [Nat.add_sub_cancel] at hV2 ⊢
  generalize (limbs (y * 2 ^ s))[j]?.getD 0 = u at *
  rw [Nat.pow_add, ← B64_pow, ← h2] at hV2
  have h4 : B64 ^ j * 2 ^ 63 < B64 ^ j * (u + 1) := by rw [Nat.mul_add]; omega
  have := Nat.lt_of_mul_lt_mul_left h4
  omega
/-- The guess is no smaller than the digit. -/
theorem guess_ge {X V k m j k0 i j1 j0 k1 g t nx : Nat} {U q vs : List Nat} (h : DivOk X V k m (j + 1) U q) (hV : V < B64 ^ k) (hj : i = j + k) (him : i < m + 1) (hk : k = k0 + 2) (hk1 : k = k1 + 1) (hi1 : i = j1 + 1) (hi0 : i = j0 + 2) (hvl : vs.length = k) (hvv : val vs = V)
    (ht : vs[k1]?.getD 0 = t) (hn : vs[k0]?.getD 0 = nx)
    (hg : ∀ Q, Q < B64 → Q * (t * B64 + nx) ≤ (U[i]?.getD 0 * B64 + U[j1]?.getD 0) * B64 + U[j0]?.getD 0 → Q ≤ g) : val ((U.drop j).take (k + 1)) / V ≤ g := by
  obtain ⟨p1, _, _, p4⟩ := h.part hV (by omega)
  have hpb : ∀ x ∈ (U.drop j).take (k + 1), x < B64 := fun x hx => h.bu x (List.mem_of_mem_drop (List.mem_of_mem_take hx))
  have hV0 : 0 < V := by have := h.top; omega
  have hQ : val ((U.drop j).take (k + 1)) / V < B64 := (Nat.div_lt_iff_lt_mul hV0).2 p4
  refine hg _ hQ ?_
  have e : ∀ a, a < k + 1 → ((U.drop j).take (k + 1))[a]?.getD 0 = U[j + a]?.getD 0 := fun a ha => by rw [List.getElem?_take_of_lt ha, List.getElem?_drop]
  have := guess_need (vs := vs) (ps := (U.drop j).take (k + 1)) (c := k0) (Q := val ((U.drop j).take (k + 1)) / V) (by omega) (by omega) hpb (by rw [hvv]; exact Nat.div_mul_le_self _ _)
  rw [e _ (by omega), e _ (by omega), e _ (by omega), show k0 + 1 = k1 by omega, ht, hn, show j + (k0 + 2) = i by omega, show j + k1 = j1 by omega, show j + k0 = j0 by omega] at this
  exact this
theorem cmp_le {V g P : Nat} (hle : g * V ≤ P) : cmpN (val (limbs (V * g))) P ≤ 0 := by
  rw [val_limbs, Nat.mul_comm]; unfold cmpN; split
  · omega
  · rw [if_neg (by omega)]; omega
theorem cmp_gt {V g P : Nat} (hle : ¬ g * V ≤ P) : ¬ cmpN (val (limbs (V * g))) P ≤ 0 := by
  rw [val_limbs, Nat.mul_comm]; unfold cmpN; rw [if_neg (by omega), if_pos (by omega)]; omega
theorem le_quo {V g P : Nat} (hV : 0 < V) : g * V ≤ P ↔ g ≤ P / V := (Nat.le_div_iff_mul_le hV).symm
end Go.Proofs.Ytgihjgkpmochcaa

namespace Go.Proofs.Ytgihjgkpmochcaa
open Go.RowKit

/-- The worlds of the long division. -/
structure DivW (wS wr : World) (bu bq T : Nat) (av : Option Addr) (k cv : Nat) (vs U q : List Nat) : Prop where
  ext : Ext wS wr
  ru : Row wr bu T U
  rq : Row wr bq T q
  nv : Nums wr av k cv vs
theorem DivW.on {wS wr w' : World} {bu bq T k cv : Nat} {av : Option Addr} {vs U q : List Nat} (h : DivW wS wr bu bq T av k cv vs U q) (e : Ext wr w') : DivW wS w' bu bq T av k cv vs U q :=
  ⟨h.ext.trans e, h.ru.ext e, h.rq.ext e, h.nv.ext e⟩
theorem DivW.onU {wS wr w' : World} {bu bq T k cv : Nat} {av : Option Addr} {vs U q U' : List Nat} (h : DivW wS wr bu bq T av k cv vs U q) (o : Only bu wr w') (hr : Row w' bu T U') (hS : wS.heap.size ≤ bu) (hq : bq ≠ bu) (hv : ∀ p, av = some p → p.block ≠ bu) : DivW wS w' bu bq T av k cv vs U' q :=
  ⟨o.1 _ h.ext hS, hr, h.rq.only o hq, h.nv.only o hv⟩
theorem DivW.onQ {wS wr : World} {bu bq T k cv : Nat} {av : Option Addr} {vs U q : List Nat} (h : DivW wS wr bu bq T av k cv vs U q) (i x : Nat) (hS : wS.heap.size ≤ bq) (hq : bu ≠ bq) (hv : ∀ p, av = some p → p.block ≠ bq) : DivW wS (wr.setCell ⟨bq, i, none⟩ (.int .u64 (x : Int))) bu bq T av k cv vs U (q.set i x) :=
  ⟨(Only.set wr bq i _).1 _ h.ext hS, h.ru.only (Only.set wr bq i _) hq, h.rq.set i x, h.nv.only (Only.set wr bq i _) hv⟩

set_option maxRecDepth 100000 in
set_option maxHeartbeats 4000000 in
theorem div_main (a1 a2 : Option Addr) (n1 c1 n2 c2 : Nat) (xs ys : List Nat) (w : World) (h1 : Nums w a1 n1 c1 xs) (h2 : Nums w a2 n2 c2 ys) (hf1 : val xs < Top) (hf2 : val ys < Top) (hy : val ys ≠ 0) (hge : val ys ≤ val xs) (hk2 : 2 ≤ (limbs (val ys)).length) :
    Calls Try.prog 77 #[.slice a1 n1 c1, .slice a2 n2 c2] w (Post w fun v w' => DRes w' v (val xs / val ys) (val xs % val ys)) := by
  obtain ⟨i0, hi, hz0, hz1, hz2⟩ := info_parts info_u64
  have hno : [limbs (val xs), limbs (val ys)].any isLong = false := by
    rw [any_two, isLong_false (by rw [val_limbs]; exact hf1), isLong_false (by rw [val_limbs]; exact hf2)]; rfl
  have hl1 := (fits_iff _).2 hf1
  have hl2 := (fits_iff _).2 hf2
  have hv1 := val_limbs (val xs)
  have hv2 := val_limbs (val ys)
  have hc : ¬ cmpN (val (limbs (val xs))) (val (limbs (val ys))) < 0 := by rw [hv1, hv2]; unfold cmpN; rw [if_neg (by omega)]; split <;> omega
  have hxm : val xs < B64 ^ (limbs (val xs)).length := lt_of_length_limbs (Nat.le_refl _)
  have hkm : (limbs (val ys)).length ≤ (limbs (val xs)).length := length_limbs_le (Nat.lt_of_le_of_lt hge hxm)
  have hq : val xs / val ys < Top := Nat.lt_of_le_of_lt (Nat.div_le_self _ _) hf1
  obtain ⟨k, hk⟩ : ∃ k, (limbs (val ys)).length = k := ⟨_, rfl⟩
  obtain ⟨m, hm⟩ : ∃ m, (limbs (val xs)).length = m := ⟨_, rfl⟩
  rw [hk] at hkm hl2 hk2
  rw [hm] at hkm hl1 hxm
  obtain ⟨k1, hk1⟩ : ∃ k1, k = k1 + 1 := ⟨k - 1, by omega⟩
  obtain ⟨k0, hk0⟩ : ∃ k0, k = k0 + 2 := ⟨k - 2, by omega⟩
  obtain ⟨hN, hs⟩ := norm_of hy hk
  rw [show k - 1 = k1 by omega] at hN hs
  have hbt : Lib.bitLen ((limbs (val ys))[k1]?.getD 0) = blen ((limbs (val ys))[k1]?.getD 0) := bitLen_blen _ (getD_lt (lt_limbs _) _)
  have htop : (limbs (val ys))[k1]?.getD 0 < 18446744073709551616 := getD_lt (lt_limbs _) _
  generalize htt : (limbs (val ys))[k1]?.getD 0 = tB at *
  obtain ⟨s, hs'⟩ : ∃ s, 64 - blen tB = s := ⟨_, rfl⟩
  rw [hs'] at hN hs
  have hlz : (64 : Int) - (Lib.bitLen tB : Nat) = s := by rw [hbt]; omega
  have hs64 := hN.hs
  have hVv := val_limbs (val ys * 2 ^ s)
  generalize hvs : limbs (val ys * 2 ^ s) = vs at *
  generalize hA : limbs (val xs) = A at *
  generalize hB : limbs (val ys) = B at *
  generalize hcc : cmpN (val A) (val B) = cc at *
  have HA := Lib.hid hA
  have HB := Lib.hid hB
  have HNO := Lib.hid hno
  have HC := Lib.hid hcc
  have HS := Lib.hid hlz
  have HT := Lib.hid htt
  have HAm := Lib.hid hm
  have HBk := Lib.hid hk
  have HVS := Lib.hid hvs
  have HVV := Lib.hid hVv
  have HV1 := Lib.hid hv1
  have HV2 := Lib.hid hv2
  have HN := Lib.hid hN
  have HK := Lib.hid (And.intro hk1 hk0)
  have HX := Lib.hid hxm
  have HQ := Lib.hid hq
  have HY := Lib.hid hy
  have hk1l : k1 < k := by omega
  have hk0l : k0 < k := by omega
  have ek1 : (k : Int) - 1 = k1 := by omega
  have hcn : (cc < 0) = False := by simp [hc]
  clear hA hB hno hcc hlz htt hm hk hvs hVv hv1 hv2 hN hxm hq hy hge hs hs' hbt hf1 hf2 hk1 hk0
  go_enter Try.func77, Try.ntmps77
  go_wp2
  go_step3
  go_wp2_with (first
    | (go_at_call 35; refine (normal_any _ _ _ _ _ h1).mono ?_; rintro e w1 ⟨v, rfl, hext1, a1', n1', c1', rfl, hn1⟩; rw [HA.out] at hn1; obtain rfl : m = n1' := by { rw [← hn1.len]; exact HAm.out.symm }; clear h1; have h2' := h2.ext hext1)
    | (go_at_call 35; refine (normal_any _ _ _ _ _ h2').mono ?_; rintro e w1' ⟨v, rfl, hext2, a2', n2', c2', rfl, hn2⟩; rw [HB.out] at hn2; have hn1' := hn1.ext hext2; obtain rfl : k = n2' := by { rw [← hn2.len]; exact HBk.out.symm })
    | (go_at_call 34; refine (long_any _ _ _ [A, B] _ (NumsL.two (by simp) (by simp) (hn1'.ext (Ext.of_alloc _ _)) (hn2.ext (Ext.of_alloc _ _)))).mono ?_; rintro e w2 ⟨v, rfl, hextL, rfl⟩; rw [HNO.out])
    | (go_at_call 43; refine (cmp_any _ _ _ _ _ _ _ _ _ (hn1'.ext ((Ext.of_alloc _ _).trans hextL)) (hn2.ext ((Ext.of_alloc _ _).trans hextL))).mono ?_; rintro e wC ⟨v, rfl, hextC, rfl⟩; rw [HC.out]; have hA := hn1'.ext (((Ext.of_alloc _ _).trans hextL).trans hextC); have hB := hn2.ext (((Ext.of_alloc _ _).trans hextL).trans hextC); have hE := (hext1.trans hext2).trans (((Ext.of_alloc _ _).trans hextL).trans hextC); clear hn1 hn1' hn2 h2 h2' hextL hextC hext1 hext2; obtain ⟨b2, off2, rfl, hcell⟩ := hB.at hk1l; rw [HT.out] at hcell)
    | (go_at_call 80; refine (Try.bits_LeadingZeros64 _ _ (by omega) (by omega)).mono ?_; rintro e wS ⟨rfl, rfl⟩; rw [Int.toNat_natCast, HS.out])
    | (go_at_call 88; refine (shift_any _ _ _ A s hs64 _ hA (by omega)).mono ?_; rintro e wU ⟨v, rfl, hextU, U, rfl, hUl, hrowU, hUb, hUv⟩; have hB' := hB.ext hextU; have HU := Lib.hid (And.intro hUl (And.intro hUb hUv)); clear hUl hUb hUv hA)
    | (go_at_call 88; refine (shift_any _ _ _ B s hs64 _ hB' (by omega)).mono ?_; rintro e wV ⟨v, rfl, hextV, Lv, rfl, hLl, hrowV, hLb, hLv⟩; have hnum := hrowV.nums (by omega) (Nat.le_refl _) hLb; rw [hLl] at hnum; rw [HV2.out] at hLv; have HL := Lib.hid hLv; clear hLl hLb hLv hB')
    | (go_at_call 35; refine (normal_own _ _ _ _ _ hnum).mono ?_; rintro e wN ⟨v, rfl, hextN, av, nv, cv, rfl, hnv, hfr⟩; rw [HL.out, HVS.out] at hnv; obtain rfl : k = nv := by { rw [← hnv.len, ← HVS.out]; exact HN.out.len.symm })
    | (at_make; refine wpList_make_row _ rfl _ _ 26 rfl 34 i0 Try.underlying26 hi hz0 hz1 hz2 _ _ _ _ (m + 1 - k) rfl rfl (by omega) (by omega) (by omega) ?_; intro wM hrowQ hextM hszM))
  go_step3
  clear hcell htop hcn hc hB hnum hrowV
  go_wp2
  have hW : DivW wS wM wS.heap.size wN.heap.size 34 av k cv vs U (List.replicate (m + 1 - k) 0) := ⟨(hextU.trans (hextV.trans hextN)).trans hextM, ((hrowU.ext hextV).ext hextN).ext hextM, hrowQ, hnv.ext hextM⟩
  have hav : ∀ p, av = some p → p.block ≠ wS.heap.size ∧ p.block ≠ wN.heap.size := by
    intro p hp
    obtain ⟨bv, ov, e, hcv⟩ := hnv.at hk1l
    rw [hp] at e
    cases e
    have h1 := hfr _ hp
    have h2 := World.block_lt_of_cell? wN _ hcv
    have h3 := hrowU.lt
    have h4 := hextV.size
    dsimp only at *
    omega
  have hbuq : wS.heap.size < wN.heap.size := Nat.lt_of_lt_of_le hrowU.lt (Nat.le_trans hextV.size hextN.size)
  obtain ⟨bv, ov, hav', _⟩ := hnv.at hk1l
  have hD0 : DivOk (val xs * 2 ^ s) (val ys * 2 ^ s) k m (m + 1 - k) U (List.replicate (m + 1 - k) 0) := DivOk.start HU.out.1 HU.out.2.1 (by rw [HU.out.2.2, HV1.out]) hkm (by omega) HX.out (by have := HN.out.low; have := HK.out.1; rwa [show k - 1 = k - 1 from rfl])
  subst hav'
  generalize hbu : wS.heap.size = bu at *
  generalize hbq : wN.heap.size = bq at *
  have hSu : wS.heap.size ≤ bu := by omega
  have hSq : wS.heap.size ≤ bq := by omega
  have hvu : ∀ p, (some ⟨bv, ov, none⟩ : Option Addr) = some p → p.block ≠ bu := fun p hp => (hav p hp).1
  have hvq : ∀ p, (some ⟨bv, ov, none⟩ : Option Addr) = some p → p.block ≠ bq := fun p hp => (hav p hp).2
  have HVU := Lib.hid hvu
  have HVQ := Lib.hid hvq
  have hvl : vs.length = k := hW.nv.len
  have HVL := Lib.hid hvl
  have hvb : ∀ x ∈ vs, x < B64 := hW.nv.lt
  have HVB := Lib.hid hvb
  have ht63 : 9223372036854775808 ≤ vs[k1]?.getD 0 := by have h := HN.out.top; have hkk := HK.out.1; rw [HVS.out, show k - 1 = k1 by omega] at h; exact h
  have htb := getD_lt hvb k1
  have hnb := getD_lt hvb k0
  generalize ht : vs[k1]?.getD 0 = t at *
  generalize hnx : vs[k0]?.getD 0 = nx at *
  have HTT := Lib.hid (And.intro ht hnx)
  have ew1 : IntKind.i64.wrap ((k : Int) - 1) = k1 := by rw [IntWalk.i64_in _ (by omega)]; exact ek1
  have ew0 : IntKind.i64.wrap ((k : Int) - 2) = k0 := by have := HK.out.2; rw [IntWalk.i64_in _ (by omega)]; omega
  have hVlt : val ys * 2 ^ s < B64 ^ k := HN.out.lt
  have HVLT := Lib.hid hVlt
  clear hrowU hextU hextV hextN hextM hrowQ hnv hfr hszM hbu hbq hav hvu hvq hvl hvb ht hnx ek1 hVlt HX HU HL HAm HBk HS HT HC HNO HA HB
  go_loopw [13] (fun i wr => ∃ (ii : Nat) (U q : List Nat), k ≤ ii ∧ ii ≤ m + 1 ∧ i = .int .i64 ((ii : Int) - 1) ∧ DivW wS wr bu bq 34 (some ⟨bv, ov, none⟩) k cv vs U q ∧ Hid (DivOk (val xs * 2 ^ s) (val ys * 2 ^ s) k m (ii - k) U q))
    (fun i _ => (intOf i + 1).toNat)
  case atStart => exact ⟨m + 1, U, _, by omega, Nat.le_refl _, by go_num, hW, Lib.hid hD0⟩
  case round =>
    clear hW hD0 U
    obtain ⟨ii, U, q, hki, him, rfl, hW, HD⟩ := hrel
    by_cases hlt : k < ii
    · obtain ⟨i, rfl⟩ : ∃ i, ii = i + 1 := ⟨ii - 1, by omega⟩
      obtain ⟨j, hj⟩ : ∃ j, i = j + k := ⟨i - k, by omega⟩
      obtain ⟨j1, hi1⟩ : ∃ j1, i = j1 + 1 := ⟨i - 1, by omega⟩
      obtain ⟨j0, hi0⟩ : ∃ j0, i = j0 + 2 := ⟨i - 2, by omega⟩
      have hDO := HD.out
      rw [show i + 1 - k = j + 1 by omega] at hDO
      have HDO := Lib.hid hDO
      clear hDO HD
      have eI : ((i + 1 : Nat) : Int) - 1 = i := by omega
      have eJ : (i : Int) - k = j := by omega
      have hLU := HDO.out.lu
      have hnu := hW.ru.nums (by omega) (Nat.le_refl _) HDO.out.bu
      rw [hLU] at hnu
      have cv1 := hW.nv.on hk1l
      have cv0 := hW.nv.on hk0l
      rw [HTT.out.1] at cv1
      rw [HTT.out.2] at cv0
      have hgu := fun w' (h : Nums w' (some ⟨bu, 0, none⟩) (m + 1) (m + 1) U) => guess_any _ _ _ U t nx i j1 j0 w' h htb ht63 hnb (by omega) hi1 hi0
      have HIJ := Lib.hid (And.intro hj (And.intro hi1 hi0))
      clear hj hi1 hi0
      go_wp2
      go_region_with (go_at_call 89; refine (hgu _ (hnu.ext (Ext.refl _).drew)).mono ?_; rintro e wg ⟨v, rfl, hextg, g, rfl, hgb, hgq⟩)
      all_goals
        have hE1 : Ext wr wg := (Ext.refl _).drew.trans hextg
        have hQg := guess_ge HDO.out HVLT.out HIJ.out.1 (by omega) HK.out.2 HK.out.1 HIJ.out.2.1 HIJ.out.2.2 HVL.out HVV.out HTT.out.1 HTT.out.2 hgq
        obtain ⟨p1, p2, p3, p4⟩ := HDO.out.part HVLT.out (by have := HIJ.out.1; omega)
        have hV0 : 0 < val ys * 2 ^ s := by have := HDO.out.top; omega
        have hji : j ≤ i := by have := HIJ.out.1; omega
        have hjk : i + 1 - j = k + 1 := by have := HIJ.out.1; omega
        have hpart := (hnu.drop0 (c' := m + 1 - j) j (by omega) (Nat.le_refl _)).take (k + 1) (m + 1 - j) (by have := HIJ.out.1; omega) (by have := HIJ.out.1; omega)
        have hstep := fun (g : Nat) (R : List Nat) => HDO.out.step (g := g) (R := R) HVLT.out (by have := HIJ.out.1; omega)
        generalize hPt : (U.drop j).take (k + 1) = Pt at *
        have HSTEP := Lib.hid hstep
        clear hstep
        have HP := Lib.hid (And.intro hPt (And.intro p1 (And.intro p2 (And.intro p3 p4))))
        have HV0 := Lib.hid hV0
        have HGQ := Lib.hid hQg
        clear hPt p1 p2 p3 p4 hV0 cv1 cv0 hgu hgq hQg
        go_simp
        go_wp2
        go_loopw [14] (fun gv wx => ∃ g' : Nat, gv = .int .u64 g' ∧ Hid (val Pt / (val ys * 2 ^ s) ≤ g' ∧ g' < B64) ∧ Ext wr wx) (fun gv _ => (intOf gv).toNat)
        case atStart => exact ⟨g, rfl, Lib.hid ⟨HGQ.out, hgb⟩, hE1⟩
        case round =>
          clear HGQ hgb hextg hE1
          obtain ⟨g', rfl, HG, hE1⟩ := hrel
          have hgb := HG.out.2
          by_cases hle : g' * (val ys * 2 ^ s) ≤ val Pt
          · have hcmp := cmp_le hle
            generalize hcc : cmpN (val (limbs (val ys * 2 ^ s * g'))) (val Pt) = cc2 at *
            have HCC := Lib.hid hcc
            have HLE := Lib.hid hle
            clear hcc hle
            go_wp2_with (first
              | (go_at_call 90; refine (times_any _ _ _ vs g' hgb _ (hW.nv.ext hE1) (by omega)).mono ?_; rintro e wT ⟨v, rfl, hextT, ap, np, cp, rfl, hp⟩; rw [HVV.out] at hp)
              | (go_at_call 43; refine (cmp_any _ _ _ _ _ _ _ Pt _ hp (hpart.ext (hE1.trans hextT))).mono ?_; rintro e wC ⟨v, rfl, hextC, rfl⟩; rw [HCC.out])
              | (go_at_call 63; refine (less_own _ _ _ _ _ _ Pt _ _ (hpart.ext ((hE1.trans hextT).trans hextC)) (hp.ext hextC) (by rw [val_limbs, Nat.mul_comm]; exact HLE.out)).mono ?_; rintro e wL ⟨v, rfl, hextL, ar, nr, cr, rfl, hr, hfr⟩; rw [val_limbs, Nat.mul_comm] at hr; have hWL := hW.on (((hE1.trans hextT).trans hextC).trans hextL); have hrl := hr.len; generalize hR : limbs (val Pt - g' * (val ys * 2 ^ s)) = R at *; have HR := Lib.hid (And.intro hR hrl); have hru := hWL.ru; have hbl : bu < wC.heap.size := Nat.lt_of_lt_of_le hW.ru.lt (((hE1.trans hextT).trans hextC).size); clear hR hrl)
              | (refine wpList_clear_row _ rfl (.tmp 123) 26 rfl 34 i0 Try.underlying26 hi hz0 bu j (k + 1) (m + 1 - j) rfl (by omega) 34 U hru (by omega) ?_; intro wK hrowK honly; have hrK := hr.only honly (fun p hp => by have := hfr p hp; omega); have hnr : nr ≤ k + 1 := by { rw [← HR.out.2, ← HR.out.1]; apply length_limbs_le; have h := val_lt hpart.lt; rw [HP.out.2.1] at h; omega })
              | (refine wpList_copy_row _ rfl (.tmp 124) (.tmp 125) 26 26 rfl 34 i0 Try.underlying26 hi hz1 bu j (k + 1) (m + 1 - j) rfl ar nr cr rfl 34 _ R hrowK hrK hnr (by rw [length_splice _ _ _ (by simp; omega), hLU]; omega) ?_; intro wP hrowP honlyP; have hWP := hWL.onU (honly.trans honlyP) hrowP hSu (by omega) HVU.out; have hlq := HDO.out.lq; have cq := hWP.rq.cell (i := j) (by omega); have fq := hWP.rq.frozen j; clear hrowK hrowP honly honlyP hWL hru))
            go_roundw
            case rel =>
              refine ⟨i, _, q.set j g', by omega, by omega, rfl, hWP.onQ j g' hSq (by omega) HVQ.out, ?_⟩
              rw [show i - k = j by have := HIJ.out.1; omega]
              exact Lib.hid (HSTEP.out g' R HLE.out ((Nat.div_lt_iff_lt_mul HV0.out).1 (Nat.lt_succ_of_le HG.out.1)) hgb (by rw [← HR.out.1, val_limbs]) (by rw [HR.out.2]; exact hnr) hr.lt)
            case measure => simp only [intOf]; omega
          · have hcmp := cmp_gt hle
            have hdec : val Pt / (val ys * 2 ^ s) < g' := by
              have := mt (le_quo (P := val Pt) (g := g') HV0.out).2 hle
              omega
            have HDEC := Lib.hid hdec
            generalize hcc : cmpN (val (limbs (val ys * 2 ^ s * g'))) (val Pt) = cc2 at *
            have HCC := Lib.hid hcc
            have hg0 : 0 < g' := Nat.lt_of_le_of_lt (Nat.zero_le _) hdec
            have hgb2 : g' < 18446744073709551616 := hgb
            clear hcc hle hdec
            go_wp2_with (first
              | (go_at_call 90; refine (times_any _ _ _ vs g' hgb _ (hW.nv.ext hE1) (by omega)).mono ?_; rintro e wT ⟨v, rfl, hextT, ap, np, cp, rfl, hp⟩; rw [HVV.out] at hp)
              | (go_at_call 43; refine (cmp_any _ _ _ _ _ _ _ Pt _ hp (hpart.ext (hE1.trans hextT))).mono ?_; rintro e wC ⟨v, rfl, hextC, rfl⟩; rw [HCC.out]))
            go_roundw
            case rel => exact ⟨g' - 1, by congr 1; omega, Lib.hid ⟨by have := HDEC.out; omega, by omega⟩, (hE1.trans hextT).trans hextC⟩
            case measure => simp only [intOf]; omega
    · have : ii = k := by omega
      subst this
      have hDD := HD.out
      rw [Nat.sub_self] at hDD
      obtain ⟨z1, z2, z3⟩ := hDD.done (Nat.pos_of_ne_zero HY.out)
      have hLU := hDD.lu
      have hnu := hW.ru.nums (by omega) (Nat.le_refl _) hDD.bu
      rw [hLU] at hnu
      have hLQ := hDD.lq
      have hnq := hW.rq.nums (by omega) (Nat.le_refl _) hDD.bq
      rw [hLQ] at hnq
      have hUT : val U < Top := by
        refine (fits_iff _).1 ?_
        have := length_limbs_le (Nat.lt_trans z3 HVLT.out)
        omega
      have hfit : fit (val q) = some (val xs / val ys) := by rw [z1]; unfold fit; exact if_pos HQ.out
      have HZ2 := Lib.hid z2
      have HF := Lib.hid hfit
      clear z1 z2 z3 hfit hDD HD
      go_wp2_with (first
        | (go_at_call 91; refine (shr_any _ _ _ U s _ hnu hUT (by omega)).mono ?_; rintro e wR ⟨v, rfl, hextR, hres⟩; rw [HZ2.out] at hres; obtain ⟨ar, nr, cr, rfl, hr⟩ := hres)
        | (go_at_call 28; refine (told_any _ _ _ _ _ (hnq.ext hextR)).mono ?_; rintro e wT ⟨v, rfl, hextT, hres⟩; rw [HF.out] at hres; obtain ⟨aq, nq, cq, rfl, hqq⟩ := hres))
      rw [Exit.noGoto_ret]
      go_ret3
      exact Post.mk (hE.trans ((hW.ext.trans hextR).trans hextT)) ⟨aq, nq, cq, ar, nr, cr, rfl, hqq, hr.ext hextT⟩
end Go.Proofs.Ytgihjgkpmochcaa

namespace Go.Proofs.Ytgihjgkpmochcaa
open Go.RowKit

theorem div_any (a1 a2 : Option Addr) (n1 c1 n2 c2 : Nat) (xs ys : List Nat) (w : World) (h1 : Nums w a1 n1 c1 xs) (h2 : Nums w a2 n2 c2 ys) (hf1 : val xs < Top) (hf2 : val ys < Top) (hy : val ys ≠ 0) :
    Calls Try.prog 77 #[.slice a1 n1 c1, .slice a2 n2 c2] w (Post w fun v w' => DRes w' v (val xs / val ys) (val xs % val ys)) := by
  by_cases hlt : val xs < val ys
  · exact div_less a1 a2 n1 c1 n2 c2 xs ys w h1 h2 hf1 hf2 hy hlt
  · have hlen := length_limbs_pos hy
    by_cases h1l : (limbs (val ys)).length = 1
    · obtain ⟨d, hd⟩ := List.length_eq_one_iff.1 h1l
      exact div_one a1 a2 n1 c1 n2 c2 xs ys w h1 h2 hf1 hf2 (by omega) d hd
    · exact div_main a1 a2 n1 c1 n2 c2 xs ys w h1 h2 hf1 hf2 hy (by omega) (by omega)

set_option maxRecDepth 100000 in
set_option maxHeartbeats 1000000 in
theorem gcd_any (a1 a2 : Option Addr) (n1 c1 n2 c2 : Nat) (xs ys : List Nat) (w : World) (h1 : Nums w a1 n1 c1 xs) (h2 : Nums w a2 n2 c2 ys) (hf1 : val xs < Top) (hf2 : val ys < Top) :
    Calls Try.prog 76 #[.slice a1 n1 c1, .slice a2 n2 c2] w (Post w fun v w' => NRes w' v (some (Nat.gcd (val xs) (val ys)))) := by
  have hno : [xs, ys].any isLong = false := by rw [any_two, isLong_false hf1, isLong_false hf2]; rfl
  have HNO := Lib.hid hno
  clear hno
  go_enter Try.func76, Try.ntmps76
  go_wp2_with (first
    | (go_at_call 34; refine (long_any _ _ _ [xs, ys] _ (NumsL.two (by simp) (by simp) (h1.ext (Ext.of_alloc _ _)) (h2.ext (Ext.of_alloc _ _)))).mono ?_; rintro e w2 ⟨v, rfl, hextL, rfl⟩; rw [HNO.out]; have k1 := h1.ext ((Ext.of_alloc _ _).trans hextL); have k2 := h2.ext ((Ext.of_alloc _ _).trans hextL))
    | (go_at_call 35; refine (normal_any _ _ _ _ _ k1).mono ?_; rintro e w3 ⟨v, rfl, hext3, a1', n1', c1', rfl, hn1⟩; clear k1)
    | (go_at_call 35; refine (normal_any _ _ _ _ _ (k2.ext hext3)).mono ?_; rintro e w4 ⟨v, rfl, hext4, a2', n2', c2', rfl, hn2⟩))
  have hE : Ext w w4 := (((Ext.of_alloc _ _).trans hextL).trans hext3).trans hext4
  have hn1' := hn1.ext hext4
  clear h1 h2 hn1 k2 hext3 hextL hext4
  go_loopg [0, 1] (val ys) (fun g av bv wr => ∃ (X : Nat) (a1 : Option Addr) (n1 c1 : Nat) (a2 : Option Addr) (n2 c2 : Nat), av = .slice a1 n1 c1 ∧ bv = .slice a2 n2 c2 ∧ Nums wr a1 n1 c1 (limbs X) ∧ Nums wr a2 n2 c2 (limbs g) ∧ X < Top ∧ g < Top ∧ Hid (Nat.gcd X g = Nat.gcd (val xs) (val ys)) ∧ Ext w wr)
  case atStart => exact ⟨val xs, _, _, _, _, _, _, rfl, rfl, hn1', hn2, hf1, hf2, Lib.hid rfl, hE⟩
  case round =>
    clear hn1' hn2 hE
    obtain ⟨X, b1, m1, d1, b2, m2, d2, rfl, rfl, k1, k2, hX, hG, HG, hE⟩ := hrel
    by_cases h0 : gk = 0
    · subst h0
      have hm : m2 = 0 := by rw [← k2.len, limbs_zero]; rfl
      subst hm
      have hfit : fit (val (limbs X)) = some X := by rw [val_limbs]; unfold fit; exact if_pos hX
      have HF := Lib.hid hfit
      clear hfit
      go_wp2_with (go_at_call 28; refine (told_any _ _ _ _ _ k1).mono ?_; rintro e w5 ⟨v, rfl, hext5, hres⟩; rw [HF.out] at hres; obtain ⟨ar, nr, cr, kr, rfl, hout⟩ := hres.out)
      go_ret2
      refine Post.mk (hE.trans hext5) ?_
      have := HG.out
      rw [Nat.gcd_zero_right] at this
      rw [← this]
      exact hout.res
    · have hm : 0 < m2 := by rw [← k2.len]; exact length_limbs_pos h0
      have hdv := div_any b1 b2 m1 d1 m2 d2 _ _ wr k1 k2 (by rw [val_limbs]; exact hX) (by rw [val_limbs]; exact hG) (by rw [val_limbs]; exact h0)
      rw [val_limbs, val_limbs] at hdv
      have H0 := Lib.hid h0
      clear h0
      go_wp2_with (go_at_call 77; refine hdv.mono ?_; rintro e w5 ⟨v, rfl, hext5, aq, nq, cq, ar, nr, cr, rfl, hq, hr⟩)
      go_roundg (X % gk)
      case rel => exact ⟨gk, _, _, _, _, _, _, rfl, rfl, k2.ext hext5, hr, hG, Nat.lt_of_le_of_lt (Nat.mod_le _ _) hX, Lib.hid (by rw [← HG.out, Nat.gcd_comm X gk, Nat.gcd_rec gk X, Nat.gcd_comm]), hE.trans hext5⟩
      case measure => exact Nat.mod_lt _ (Nat.pos_of_ne_zero H0.out)
end Go.Proofs.Ytgihjgkpmochcaa
