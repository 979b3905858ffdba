/- shift, Shl, Shr. -/
import Derived.Test.YtnecpkoibknacaaW7
import Derived.Test.YtnecpkoibknacaaPlainD
import Derived.Test.YtnecpkoibknacaaFence
namespace Go.Proofs.Ytnecpkoibknacaa
open Go.RowKit

set_option maxRecDepth 100000 in
set_option maxHeartbeats 1000000 in
theorem shift_any (a : Option Addr) (n c : Nat) (xs : List Nat) (k : Nat) (hk : k < 64) (w : World) (h : Nums w a n c xs) (hn : n ≤ 65535) :
    Calls Try.prog 46 #[.slice a n c, .int .i64 k] w (Post w fun v w' => ∃ L, v = .slice (some ⟨w.heap.size, 0, none⟩) (n + 1) (n + 1) ∧ L.length = n + 1 ∧ Row w' w.heap.size 48 L ∧ (∀ x ∈ L, x < B64) ∧ val L = val xs * 2 ^ k) := by
  obtain ⟨i0, hi, hz0, hz1, hz2⟩ := info_parts info_u64
  obtain rfl := h.len
  go_enter Try.func46, Try.ntmps46
  go_wp2_with (at_make; refine wpList_make_row _ rfl _ _ 23 rfl 48 i0 Try.underlying23 hi hz0 hz1 hz2 _ _ _ _ (xs.length + 1) rfl rfl (by omega) (by omega) (by omega) ?_; intro w1 hrow hext hsz)
  have hh := h.ext hext
  go_loopw [14] (fun i wr => ∃ (j : Nat) (L : List Nat), j ≤ xs.length ∧ i = .int .i64 j ∧ Ext w wr ∧ Row wr w.heap.size 48 L ∧ Hid (ShiftOk xs k j L))
    (fun i _ => xs.length - (intOf i).toNat)
  case atStart => exact ⟨0, _, Nat.zero_le _, rfl, hext, hrow, Lib.hid (ShiftOk.start xs k)⟩
  case round =>
    obtain ⟨j, L, hj, rfl, hext1, hrow1, HL⟩ := hrel
    by_cases hlt : j < xs.length
    · obtain ⟨b, off, rfl, hcell⟩ := (h.ext hext1).at hlt
      have hL := HL.out.1
      have cj := hrow1.cell (i := j) (by omega)
      have cj1 := hrow1.cell (i := j + 1) (by omega)
      have fj := hrow1.frozen j
      have fj1 := hrow1.frozen (j + 1)
      have hbd := h.bd j
      have hbdL := getD_lt HL.out.2.1 j
      generalize hx : xs[j]?.getD 0 = x at *
      generalize hy : L[j]?.getD 0 = y at *
      generalize hz : L[j + 1]?.getD 0 = z at *
      have Hx := Lib.hid hx
      have Hy := Lib.hid hy
      have Hz := Lib.hid hz
      clear hx hy hz hh hrow hext hsz
      have hbd' := hbd
      unfold B64 at hbd hbdL
      go_wp2
      refine wp_region_tail 9 (by kernel_rfl) (by kernel_rfl) ?_
      simp only [List.take_succ_cons, List.take_zero, List.drop_succ_cons, List.drop_zero]
      repeat (go_big_quiet_step (fail))
      refine wpQuiet_nil ?_
      rintro _ ⟨nq, rfl⟩
      go_wp2
      refine ⟨⟨j + 1, _, by omega, by go_num, ?_, ?_, Lib.hid (HL.out.step hk hlt Hx.out hbd' Hy.out)⟩, by simp [intOf]; omega⟩
      · exact ((hext1.drewN nq).set (p := ⟨w.heap.size, j, none⟩) (Nat.le_refl _) _).set (p := ⟨w.heap.size, j + 1, none⟩) (Nat.le_refl _) _
      · have hc2 := HL.out.2.2.2.1
        rw [Hy.out] at hc2
        rw [shift_or x y k hk hc2, shift_hi x k hk]
        exact ((hrow1.drewN nq).set j _).set (j + 1) _
    · have hlen := HL.out.1
      have : j = xs.length := by omega
      subst this
      go_wp2
      go_ret
      refine Post.mk hext1 ⟨L, rfl, hlen, hrow1, HL.out.2.1, ?_⟩
      rw [HL.out.2.2.1, pv_add _ _ (Nat.le_refl _)]
end Go.Proofs.Ytnecpkoibknacaa
