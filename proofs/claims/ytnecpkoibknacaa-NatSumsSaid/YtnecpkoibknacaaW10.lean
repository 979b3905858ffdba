/- Shl, Shr. -/
import Derived.Test.YtnecpkoibknacaaW9
namespace Go.Proofs.Ytnecpkoibknacaa
open Go.RowKit

theorem run_make_u64 (n : Nat) (hn : n ≤ 1000000) (w : World) :
    (Instr.makeSlice 23 (.int .i64 n) (.int .i64 n)).run Try.prog w = .ok (.slice (some ⟨w.heap.size, 0, none⟩) n n) (w.alloc (.cells (lims (List.replicate n 0)).toArray 48)) := by
  obtain ⟨i0, hi, hz0, hz1, hz2⟩ := info_parts info_u64
  have h := run_make (P := Try.prog) w 23 48 i0 (.int .u64 0) Try.underlying23 hi hz0 .i64 .i64 (n : Int) (n : Int) (by omega) (Int.le_refl _) (by rw [hz2]; omega) (by omega)
  rw [hz1, Nat.mul_one, Int.toNat_natCast, show Value.cells (.int .u64 0) = #[Value.int .u64 0] from rfl, madeCells_lims] at h
  exact h

theorem zeros_nums (w : World) (T q : Nat) (hq : q ≤ 65536) : Nums (w.alloc (.cells (lims (List.replicate q 0)).toArray T)) (some ⟨w.heap.size, 0, none⟩) q q (List.replicate q 0) := by
  have h : Row (w.alloc (.cells (lims (List.replicate q 0)).toArray T)) w.heap.size T (List.replicate q 0) := heap_alloc_new w _
  have := h.nums (c := q) (by simp; omega) (by simp) (fun x hx => by rw [(List.mem_replicate.1 hx).2]; exact B64_pos)
  rwa [List.length_replicate] at this
theorem Row.nums' {w : World} {b T n : Nat} {L : List Nat} (h : Row w b T L) (hf : n ≤ 65536) (hl : L.length = n) (hx : ∀ x ∈ L, x < B64) : Nums w (some ⟨b, 0, none⟩) n n L := by
  subst hl; exact h.nums hf (Nat.le_refl _) hx
theorem Row.at_ {w : World} {b b' T : Nat} {L : List Nat} (h : Row w b T L) (e : b = b') : Row w b' T L := e ▸ h
theorem any_one (xs : List Nat) : [xs].any isLong = isLong xs := by simp
theorem isLong_false {xs : List Nat} (h : val xs < Top) : isLong xs = false := by unfold isLong; exact decide_eq_false (by omega)
theorem isLong_true {xs : List Nat} (h : ¬ val xs < Top) : isLong xs = true := by unfold isLong; exact decide_eq_true (by omega)

set_option maxRecDepth 100000 in
set_option maxHeartbeats 2000000 in
theorem shl_main (a : Option Addr) (n c : Nat) (xs : List Nat) (k : Nat) (hk : k ≤ 131072) (w : World) (h : Nums w a n c xs) (hf : val xs < Top) (h0 : val xs ≠ 0) :
    Calls Try.prog 19 #[.slice a n c, .int .i64 k] w (Post w fun v w' => NRes w' v (fit (val xs * 2 ^ k))) := by
  have hl := length_limbs_pos h0
  have hl2 := (fits_iff _).2 hf
  have hno : [limbs (val xs)].any isLong = false := by rw [any_one]; exact isLong_false (by rw [val_limbs]; exact hf)
  have hv := val_limbs (val xs)
  generalize hL : limbs (val xs) = L at *
  have HL := Lib.hid hL
  have HV := Lib.hid hv
  have HNO := Lib.hid hno
  clear hL hv h0 hno
  obtain ⟨q, hq⟩ : ∃ q, q = k / 64 := ⟨_, rfl⟩
  obtain ⟨r, hr⟩ : ∃ r, r = k % 64 := ⟨_, rfl⟩
  have hmk := run_make_u64 q (by omega)
  have hwq : IntKind.i64.wrap ((k : Int) / 64) = (q : Int) := by rw [IntWalk.i64_in _ (by omega)]; omega
  have hwr : (k : Int).tmod 64 = (r : Int) := by rw [Int.tmod_eq_emod_of_nonneg (by omega)]; omega
  have hr64 : r < 64 := by omega
  have hq2 : q ≤ 2048 := by omega
  have hqr : k = 64 * q + r := by omega
  have HQ := Lib.hid hqr
  clear hq hr hqr
  go_enter Try.func19, Try.ntmps19
  go_wp2_with (first
    | (go_at_call 41; refine (normal_any _ _ _ _ _ h).mono ?_; rintro e w1 ⟨v, rfl, hext1, a', n', c', rfl, hn⟩; rw [HL.out] at hn; obtain rfl := hn.len)
    | (go_at_call 42; refine (long_any _ _ _ [L] _ (NumsL.one (by simp) (hn.ext (Ext.of_alloc _ _)))).mono ?_; rintro e w2 ⟨v, rfl, hext2, rfl⟩; rw [HNO.out]))
  have hn2 : Nums w2 a' L.length c' L := hn.ext ((Ext.of_alloc _ _).trans hext2)
  have hw2 : Ext w w2 := hext1.trans ((Ext.of_alloc _ _).trans hext2)
  clear hext1 hext2 hn
  have hfl : ∀ L' : List Nat, L'.length = L.length + 1 → [List.replicate q 0, L'].flatten.length ≤ 65536 := fun L' h => by simp [h]; omega
  have hval : ∀ L' : List Nat, val L' = val L * 2 ^ r → val [List.replicate q 0, L'].flatten = val xs * 2 ^ k := fun L' h => by
    rw [show [List.replicate q 0, L'].flatten = List.replicate q 0 ++ L' by simp, val_append, val_zeros, List.length_replicate, h, HV.out, B64_pow, Nat.zero_add, HQ.out, Nat.pow_add, Nat.mul_left_comm]
  have HFL := Lib.hid hfl
  have HVAL := Lib.hid hval
  clear hfl hval
  go_region_with (first
    | (go_at_call 46; refine (shift_any _ _ _ L r hr64 _ (hn2.ext ((Ext.refl _).drew)) (by omega)).mono ?_; rintro e w3 ⟨v, rfl, hext3, L', rfl, hl', hrow', hlt', hval'⟩; have hrow2 : Row w3 w2.heap.size 48 L' := hrow'.at_ rfl)
    | (go_at_call 46; refine (shift_any _ _ _ L r hr64 _ (hn2.ext (((Ext.refl _).alloc _).drew)) (by omega)).mono ?_; rintro e w3 ⟨v, rfl, hext3, L', rfl, hl', hrow', hlt', hval'⟩; have hrow2 : Row w3 (w2.heap.size + 1) 48 L' := hrow'.at_ (World.size_alloc _ _); have hz : Nums w3 (some ⟨w2.heap.size, 0, none⟩) q q (List.replicate q 0) := ((zeros_nums w2 48 q (by omega)).ext (Ext.refl _).drew).ext hext3)
    | (go_at_call 55; refine (concat_any _ _ _ [List.replicate q 0, L'] _ (NumsL.two (by simp) (by simp) (hz.ext (Ext.of_alloc _ _)) ((hrow2.nums' (by omega) hl' hlt').ext (Ext.of_alloc _ _))) (HFL.out L' hl')).mono ?_; rintro e w4 ⟨v, rfl, hext4, a4, n4, c4, rfl, hn4⟩; have hw4 : Ext w w4 := ((hw2.alloc _).drew.trans hext3).trans ((Ext.of_alloc _ _).trans hext4))
    | (go_at_call 55; refine (concat_any _ _ _ [List.replicate q 0, L'] _ (NumsL.two (by simp) (by simp) ((zeros_nums w3 48 q (by omega)).ext (Ext.of_alloc _ _)) ((hrow2.nums' (by omega) hl' hlt').ext ((Ext.of_alloc _ _).alloc _))) (HFL.out L' hl')).mono ?_; rintro e w4 ⟨v, rfl, hext4, a4, n4, c4, rfl, hn4⟩; have hw4 : Ext w w4 := (hw2.drew.trans hext3).trans (((Ext.of_alloc _ _).alloc _).trans hext4))
    | (go_at_call 43; refine (told_any _ _ _ _ _ hn4).mono ?_; rintro e w5 ⟨v, rfl, hext5, hres⟩; obtain ⟨ar, nr, cr, kr, rfl, hout⟩ := hres.out))
  all_goals
    go_wp2
    go_ret2
    refine Post.mk (hw4.trans hext5) ?_
    have := hout.res
    rwa [HVAL.out _ hval'] at this
end Go.Proofs.Ytnecpkoibknacaa
