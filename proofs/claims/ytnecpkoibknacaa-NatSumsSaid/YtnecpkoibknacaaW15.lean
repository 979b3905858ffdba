/- times: a number by one limb. -/
import Derived.Test.YtnecpkoibknacaaPlainF
import Derived.Test.YtnecpkoibknacaaW14
namespace Go.Proofs.Ytnecpkoibknacaa
open Go.RowKit

theorem run_Add64z (x y c s : Nat) (hc : (x + y) / B64 = c) (hs : (x + y) % B64 = s) (w : World) :
    (callFunc 60 #[.int .u64 x, .int .u64 y, .int .u64 0]).run Try.prog w = .ok (.value (.tuple #[.int .u64 s, .int .u64 c])) w := by
  have := run_Add64 x y 0 (by omega) w
  rw [Nat.add_zero, hc, hs] at this
  exact this

set_option maxRecDepth 100000 in
set_option maxHeartbeats 1000000 in
theorem times_any (a : Option Addr) (n c : Nat) (xs : List Nat) (g : Nat) (hg : g < B64) (w : World) (h : Nums w a n c xs) (hn : n ≤ 65535) :
    Calls Try.prog 48 #[.slice a n c, .int .u64 g] w (Post w fun v w' => ∃ a' n' c', v = .slice a' n' c' ∧ Nums w' a' n' c' (limbs (val xs * g))) := by
  obtain ⟨i0, hi, hz0, hz1, hz2⟩ := info_parts info_u64
  obtain rfl := h.len
  go_enter Try.func48, Try.ntmps48
  go_wp2_with (at_make; refine wpList_make_row _ rfl _ _ 23 rfl 48 i0 Try.underlying23 hi hz0 hz1 hz2 _ _ _ _ (xs.length + 1) rfl rfl (by omega) (by omega) (by omega) ?_; intro w1 hrow hext hsz)
  go_loopw [6, 18] (fun r i wr => ∃ (j r' : Nat) (L : List Nat), j ≤ xs.length ∧ i = .int .i64 j ∧ r = .int .u64 r' ∧ Ext w wr ∧ Row wr w.heap.size 48 L ∧ Hid (TimesOk xs g j r' L))
    (fun _ i _ => xs.length - (intOf i).toNat)
  case atStart => exact ⟨0, 0, _, Nat.zero_le _, rfl, rfl, hext, hrow, Lib.hid (TimesOk.start xs g)⟩
  case round =>
    obtain ⟨j, r, L, hj, rfl, rfl, hext1, hrow1, HL⟩ := hrel
    have hL := HL.out.1
    by_cases hlt : j < xs.length
    · obtain ⟨b, off, rfl, hcell⟩ := (h.ext hext1).at hlt
      have hbd := h.bd j
      obtain ⟨hi', lo, c2, l2, m⟩ := tstep_of hbd hg HL.out.2.2.1
      have HS := Lib.hid (HL.out.step hlt rfl m)
      generalize hx : xs[j]?.getD 0 = x at *
      have hmul := Try.bits_Mul64 x g hbd hg
      rw [m.ehi, m.elo] at hmul
      have hadd := run_Add64z lo r c2 l2 m.ec2 m.el2
      have b1 : hi' + c2 < 18446744073709551616 := m.bhi
      have b2 : lo < 18446744073709551616 := m.blo
      have b3 : l2 < 18446744073709551616 := m.bl2
      have cj := hrow1.cell (i := j) (by omega)
      have fj := hrow1.frozen j
      clear hx hrow hext hsz m
      unfold B64 at hbd
      go_wp2_with (go_at_call 61; refine (hmul _).mono ?_; rintro e w2 ⟨rfl, rfl⟩)
      go_roundw
      case rel => exact ⟨j + 1, hi' + c2, L.set j l2, by omega, by go_num, by go_num, hext1.set (p := ⟨w.heap.size, j, none⟩) (Nat.le_refl _) _, hrow1.set j l2, HS⟩
      case measure => simp [intOf]; omega
    · have : j = xs.length := by omega
      subst this
      have cj := hrow1.cell (i := xs.length) (by omega)
      have fj := hrow1.frozen xs.length
      obtain ⟨z1, z2, z3⟩ := HL.out.last
      have hnum := (hrow1.set xs.length r).nums (by omega) (Nat.le_refl _) z2
      rw [z1] at hnum
      have hE := hext1.set (p := ⟨w.heap.size, xs.length, none⟩) (Nat.le_refl _) (.int .u64 (r : Int))
      have HZ := Lib.hid z3
      clear z1 z2 z3 hrow hext hsz
      go_wp2_with (go_at_call 41; refine (normal_any _ _ _ _ _ hnum).mono ?_; rintro e w2 ⟨v, rfl, hext2, a', n', c', rfl, hn⟩)
      go_ret
      rw [HZ.out] at hn
      exact Post.mk (hE.trans hext2) ⟨a', n', c', rfl, hn⟩
end Go.Proofs.Ytnecpkoibknacaa
