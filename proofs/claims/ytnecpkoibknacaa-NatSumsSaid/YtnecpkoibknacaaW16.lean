/- Mul. -/
import Derived.Test.YtnecpkoibknacaaW15
namespace Go.Proofs.Ytnecpkoibknacaa
open Go.RowKit

set_option maxRecDepth 100000 in
set_option maxHeartbeats 2000000 in
theorem mul_any (a1 a2 : Option Addr) (n1 c1 n2 c2 : Nat) (xs ys : List Nat) (w : World) (h1 : Nums w a1 n1 c1 xs) (h2 : Nums w a2 n2 c2 ys) (hf1 : val xs < Top) (hf2 : val ys < Top) :
    Calls Try.prog 29 #[.slice a1 n1 c1, .slice a2 n2 c2] w (Post w fun v w' => NRes w' v (fit (val xs * val ys))) := by
  obtain ⟨i0, hi, hz0, hz1, hz2⟩ := info_parts info_u64
  have hno : [limbs (val xs), limbs (val ys)].any isLong = false := by
    rw [any_two, isLong_false (by rw [val_limbs]; exact hf1), isLong_false (by rw [val_limbs]; exact hf2)]; rfl
  have hl1 := (fits_iff _).2 hf1
  have hl2 := (fits_iff _).2 hf2
  have hv1 := val_limbs (val xs)
  have hv2 := val_limbs (val ys)
  generalize hA : limbs (val xs) = A at *
  generalize hB : limbs (val ys) = B at *
  rw [← hv1, ← hv2]
  have HA := Lib.hid hA
  have HB := Lib.hid hB
  clear hA hB hv1 hv2 hf1 hf2
  have HNO := Lib.hid hno
  clear hno
  go_enter Try.func29, Try.ntmps29
  go_wp2_with (first
    | (at_make; refine wpList_make_row _ rfl _ _ 23 rfl 48 i0 Try.underlying23 hi hz0 hz1 hz2 _ _ _ _ (A.length + B.length) rfl rfl (by omega) (by omega) (by omega) ?_; intro w3 hrow hext3 hsz)
    | (go_at_call 41; refine (normal_any _ _ _ _ _ h1).mono ?_; rintro e w1 ⟨v, rfl, hext1, a1', n1', c1', rfl, hn1⟩; rw [HA.out] at hn1; clear h1; have h2' := h2.ext hext1)
    | (go_at_call 41; refine (normal_any _ _ _ _ _ h2').mono ?_; rintro e w1' ⟨v, rfl, hext2, a2', n2', c2', rfl, hn2⟩; rw [HB.out] at hn2; have hn1' := hn1.ext hext2; obtain rfl := hn1'.len; obtain rfl := hn2.len)
    | (go_at_call 42; refine (long_any _ _ _ [A, B] _ (NumsL.two (by simp) (by simp) (hn1'.ext (Ext.of_alloc _ _)) (hn2.ext (Ext.of_alloc _ _)))).mono ?_; rintro e w2 ⟨v, rfl, hextL, rfl⟩; rw [HNO.out]))
  clear h2 h2' hn1
  have hE0 := (hext1.trans hext2).trans ((Ext.of_alloc _ _).trans hextL)
  have k1 := hn1'.ext ((Ext.of_alloc _ _).trans hextL)
  have k2 := hn2.ext ((Ext.of_alloc _ _).trans hextL)
  clear hn1' hn2 hextL hext1 hext2
  go_loopw [31] (fun i wr => ∃ (j : Nat) (L : List Nat), j ≤ A.length ∧ i = .int .i64 j ∧ Ext w2 wr ∧ Row wr w2.heap.size 48 L ∧ Hid (MulOk A B j 0 0 L))
    (fun i _ => A.length - (intOf i).toNat)
  case atStart => exact ⟨0, _, Nat.zero_le _, rfl, hext3, hrow, Lib.hid (MulOk.start A B)⟩
  case round =>
    clear hrow hext3 hsz
    obtain ⟨j, L, hj, rfl, hextr, hrowr, HL⟩ := hrel
    have hL := HL.out.1
    by_cases hlt : j < A.length
    · obtain ⟨b, off, rfl, hcell⟩ := (k1.ext hextr).at hlt
      have hbd := k1.bd j
      generalize hx : A[j]?.getD 0 = x at *
      have HX := Lib.hid hx
      clear hx
      go_wp2
      clear hcell
      go_loopw [9, 38] (fun r i wr => ∃ (k r' : Nat) (L : List Nat), k ≤ B.length ∧ i = .int .i64 k ∧ r = .int .u64 r' ∧ Ext w2 wr ∧ Row wr w2.heap.size 48 L ∧ Hid (MulOk A B j k r' L))
        (fun _ i _ => B.length - (intOf i).toNat)
      case atStart => exact ⟨0, 0, L, Nat.zero_le _, rfl, rfl, hextr, hrowr, HL⟩
      case round =>
        clear hextr hrowr HL hL
        obtain ⟨k, r, L, hk, rfl, rfl, hextr, hrowr, HL⟩ := hrel
        have hL := HL.out.1
        by_cases hlt2 : k < B.length
        · obtain ⟨b2, off2, rfl, hcell⟩ := (k2.ext hextr).at hlt2
          have hbd2 := k2.bd k
          have hbdo := getD_lt HL.out.2.1 (j + k)
          obtain ⟨hi', lo, d1, l1, d2, l2, m⟩ := mstep_of hbd hbd2 hbdo HL.out.2.2.1
          have HS := Lib.hid (HL.out.step hlt hlt2 HX.out rfl m)
          generalize hy : B[k]?.getD 0 = y at *
          have cj := hrowr.cell (i := j + k) (by omega)
          have fj := hrowr.frozen (j + k)
          generalize ho : L[j + k]?.getD 0 = o at *
          have hmul := Try.bits_Mul64 x y hbd hbd2
          rw [m.ehi, m.elo] at hmul
          have hadd := run_Add64z lo o d1 l1 m.ec1 m.el1
          have hadd2 := run_Add64z l1 r d2 l2 m.ec2 m.el2
          have b1 : hi' + d1 + d2 < 18446744073709551616 := m.bhi
          have b2 : lo < 18446744073709551616 := m.blo
          have b3 : l2 < 18446744073709551616 := m.bl2
          have b4 : l1 < 18446744073709551616 := m.bl1
          clear hy ho m
          unfold B64 at hbd hbd2 hbdo
          go_wp2_with (go_at_call 61; refine (hmul _).mono ?_; rintro e wm ⟨rfl, rfl⟩)
          go_roundw
          case rel => exact ⟨k + 1, hi' + d1 + d2, L.set (j + k) l2, by omega, by go_num, by go_num, hextr.set (p := ⟨w2.heap.size, j + k, none⟩) (Nat.le_refl _) _, hrowr.set (j + k) l2, HS⟩
          case measure => simp [intOf]; omega
        · have : k = B.length := by omega
          subst this
          have cj := hrowr.cell (i := j + B.length) (by omega)
          have fj := hrowr.frozen (j + B.length)
          go_wp2
          go_roundw
          case rel => exact ⟨j + 1, L.set (j + B.length) r, by omega, by go_num, hextr.set (p := ⟨w2.heap.size, j + B.length, none⟩) (Nat.le_refl _) _, hrowr.set (j + B.length) r, Lib.hid (HL.out.next hlt)⟩
          case measure => simp [intOf]; omega
    · have : j = A.length := by omega
      subst this
      obtain ⟨z1, z2, z3⟩ := HL.out.last rfl
      have hnum := hrowr.nums (by omega) (Nat.le_refl _) z2
      rw [z1] at hnum
      have HZ := Lib.hid z3
      clear z1 z2 z3
      go_wp2_with (go_at_call 43; refine (told_any _ _ _ _ _ hnum).mono ?_; rintro e w4 ⟨v, rfl, hext4, hres⟩; obtain ⟨ar, nr, cr, kr, rfl, hout⟩ := hres.out)
      go_ret2
      refine Post.mk ((hE0.trans hextr).trans hext4) ?_
      rw [← HZ.out]
      exact hout.res
end Go.Proofs.Ytnecpkoibknacaa
