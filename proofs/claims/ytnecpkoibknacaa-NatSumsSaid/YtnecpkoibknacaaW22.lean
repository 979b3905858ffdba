/- Root. -/
import Derived.Test.YtnecpkoibknacaaPlainI
import Derived.Test.YtnecpkoibknacaaW21
namespace Go.Proofs.Ytnecpkoibknacaa
open Go.RowKit

theorem top_le {K n : Nat} (h : n < B64 ^ K) (hK : K ≤ 2048) : n < Top := (fits_iff n).1 (Nat.le_trans (length_limbs_le h) hK)
theorem pow_len {K e : Nat} (he : e < 64 * K) : (limbs (2 ^ e)).length ≤ K := by
  apply length_limbs_le
  rw [B64_pow]
  exact Nat.pow_lt_pow_right (by omega) he
theorem pow_top {e : Nat} (he : e ≤ 131071) : 2 ^ e < Top := (fits_iff _).1 (pow_len (by omega))
theorem blen_len {K a : Nat} (h : (limbs a).length ≤ K) : blen a ≤ 64 * K := by
  have h2 := lt_of_length_limbs h
  rw [B64_pow] at h2
  exact (blen_iff a _).1 h2
theorem root_sum {x q e : Nat} (he : e ≤ 65536) (hx : x ≤ 2 ^ e) (hq : q ≤ x + 2) : x + q < Top := by
  have h1 : x + q ≤ 2 * 2 ^ e + 2 := by omega
  have h2 : 2 * 2 ^ e + 2 ≤ 2 ^ (e + 2) := by
    have := Nat.two_pow_pos e
    rw [Nat.pow_add]; omega
  have h3 := pow_top (e := e + 2) (by omega)
  omega
theorem blen_top {a : Nat} (h : a < Top) : blen a ≤ 131072 := blen_len ((fits_iff a).2 h)
theorem cmp_ge {x y : Nat} : cmpN x y ≥ 0 ↔ y ≤ x := by
  unfold cmpN
  constructor
  · intro h; by_cases h1 : x < y
    · rw [if_pos h1] at h; omega
    · omega
  · intro h; rw [if_neg (by omega)]; split <;> omega

theorem root_zero (a : Option Addr) (n c : Nat) (xs : List Nat) (w : World) (h : Nums w a n c xs) (h0 : val xs = 0) :
    Calls Try.prog 13 #[.slice a n c] w (Post w fun v w' => NRes w' v (some 0)) := by
  have hno : [limbs (val xs)].any isLong = false := by rw [any_one]; exact isLong_false (by rw [val_limbs, h0]; exact Top_pos)
  rw [h0, limbs_zero] at hno
  have HNO := Lib.hid hno
  have H0 := Lib.hid h0
  clear hno h0
  go_enter Try.func13, Try.ntmps13
  go_wp2_with (first
    | (go_at_call 41; refine (normal_any _ _ _ _ _ h).mono ?_; rintro e w1 ⟨v, rfl, hext1, a', n', c', rfl, hn⟩; rw [H0.out, limbs_zero] at hn; obtain rfl : n' = 0 := hn.len.symm)
    | (go_at_call 42; refine (long_any _ _ _ [[]] _ (NumsL.one (by simp) (hn.ext (Ext.of_alloc _ _)))).mono ?_; rintro e w2 ⟨v, rfl, hext2, rfl⟩; rw [HNO.out]))
  go_ret2
  refine Post.mk (hext1.trans ((Ext.of_alloc _ _).trans hext2)) ⟨none, 0, 0, rfl, ?_⟩
  rw [limbs_zero]; exact Nums.nil _ _ _

set_option maxRecDepth 100000 in
set_option maxHeartbeats 1000000 in
theorem root_main (a : Option Addr) (n c : Nat) (xs : List Nat) (w : World) (h : Nums w a n c xs) (hf : val xs < Top) (h0 : val xs ≠ 0) :
    Calls Try.prog 13 #[.slice a n c] w (Post w fun v w' => ∃ r, IsRoot (val xs) r ∧ NRes w' v (some r)) := by
  have hno : [limbs (val xs)].any isLong = false := by rw [any_one]; exact isLong_false (by rw [val_limbs]; exact hf)
  have hl := length_limbs_pos h0
  have hv := val_limbs (val xs)
  have hb := blen_top hf
  generalize hA : limbs (val xs) = A at *
  have HA := Lib.hid hA
  have HV := Lib.hid hv
  have HNO := Lib.hid hno
  obtain ⟨e, he⟩ : ∃ e, (blen (val xs) + 1) / 2 = e := ⟨_, rfl⟩
  obtain ⟨bl, hbl⟩ : ∃ bl, blen (val xs) = bl := ⟨_, rfl⟩
  have hst := root_start (a := val xs)
  rw [he] at hst
  rw [hbl] at he hb
  have he2 : ((bl : Int) + 1) / 2 = e := by omega
  have hbl2 : e ≤ 65536 := by omega
  have hfit1 : fit (val (limbs 1) * 2 ^ e) = some (2 ^ e) := by rw [val_limbs, Nat.one_mul]; unfold fit; exact if_pos (pow_top (by omega))
  have HB := Lib.hid hbl
  have HF1 := Lib.hid hfit1
  have HST := Lib.hid hst
  have H0 := Lib.hid h0
  clear hA hv hno h0 he hbl hfit1 hst
  go_enter Try.func13, Try.ntmps13
  go_wp2_with (first
    | (go_at_call 41; refine (normal_any _ _ _ _ _ h).mono ?_; rintro e w1 ⟨v, rfl, hext1, a', n', c', rfl, hn⟩; rw [HA.out] at hn; obtain rfl := hn.len)
    | (go_at_call 42; refine (long_any _ _ _ [A] _ (NumsL.one (by simp) (hn.ext (Ext.of_alloc _ _)))).mono ?_; rintro e w2 ⟨v, rfl, hext2, rfl⟩; rw [HNO.out]; have hn2 := hn.ext ((Ext.of_alloc _ _).trans hext2); have hE2 := hext1.trans ((Ext.of_alloc _ _).trans hext2); clear hn hext1 hext2)
    | (go_at_call 32; refine (of_any 1 (by unfold B64; omega) _).mono ?_; rintro e w3 ⟨v, rfl, hext3, ao, no, co, rfl, ho⟩; have hn3 := hn2.ext hext3)
    | (go_at_call 33; refine (bits_any _ _ _ A _ hn3).mono ?_; rintro e w4 ⟨v, rfl, hext4, rfl⟩; rw [HV.out, HB.out])
    | (go_at_call 19; refine (shl_any _ _ _ _ e _ (ho.ext hext4) (by omega)).mono ?_; rintro e w5 ⟨v, rfl, hext5, hres⟩; rw [HF1.out] at hres; obtain ⟨ax, nx, cx, rfl, hx⟩ := hres))
  have hA4 := (hn3.ext hext4).ext hext5
  have hE5 := ((hE2.trans hext3).trans hext4).trans hext5
  clear hn2 hn3 hE2 hext3 hext4 hext5 ho
  go_loopg [4] (2 ^ e) (fun g s wr => ∃ (ax : Option Addr) (nx cx : Nat), s = .slice ax nx cx ∧ Nums wr ax nx cx (limbs g) ∧ Hid (0 < g ∧ g ≤ 2 ^ e ∧ val xs < (g + 1) * (g + 1)) ∧ Ext w5 wr)
  case atStart => exact ⟨_, _, _, rfl, hx, Lib.hid ⟨Nat.two_pow_pos e, Nat.le_refl _, HST.out⟩, Ext.refl _⟩
  case round =>
    clear hx
    obtain ⟨ax, nx, cx, rfl, hx, HG, hE⟩ := hrel
    have hgT : gk < Top := Nat.lt_of_le_of_lt HG.out.2.1 (pow_top (by omega))
    have hq := root_quo HG.out.1 HG.out.2.2
    have hsum := root_sum hbl2 HG.out.2.1 hq
    have hdv := div_any a' ax A.length c' nx cx A (limbs gk) wr (hA4.ext hE) hx (by rw [HV.out]; exact hf) (by rw [val_limbs]; exact hgT) (by rw [val_limbs]; have := HG.out.1; omega)
    rw [HV.out, val_limbs] at hdv
    have hqT : val xs / gk < Top := Nat.lt_of_le_of_lt (Nat.div_le_self _ _) hf
    have hl1 := (fits_iff _).2 hgT
    have hl2 := (fits_iff _).2 hqT
    have hnx := hx.len
    have hfit : fit (val (limbs gk) + val (limbs (val xs / gk))) = some (gk + val xs / gk) := by rw [val_limbs, val_limbs]; unfold fit; exact if_pos hsum
    have hsh : val (limbs (gk + val xs / gk)) / 2 ^ 1 = (gk + val xs / gk) / 2 := by rw [val_limbs]
    have hstep := root_step (a := val xs) HG.out.1
    have hstop := root_stop HG.out.1 HG.out.2.2
    have hfx : fit (val (limbs gk)) = some gk := by rw [val_limbs]; unfold fit; exact if_pos hgT
    have hcm : cmpN (val (limbs ((gk + val xs / gk) / 2))) (val (limbs gk)) ≥ 0 ↔ gk ≤ (gk + val xs / gk) / 2 := by rw [val_limbs, val_limbs]; exact cmp_ge
    have hsT : val (limbs (gk + val xs / gk)) < Top := by rw [val_limbs]; exact hsum
    have HF := Lib.hid hfit
    have HSH := Lib.hid hsh
    have HSTEP := Lib.hid hstep
    have HSTOP := Lib.hid hstop
    have HFX := Lib.hid hfx
    have HCM := Lib.hid hcm
    have HL := Lib.hid (And.intro hl1 (And.intro hl2 hnx))
    have HSUM := Lib.hid hsT
    clear hfit hsh hstep hstop hfx hcm hl1 hl2 hnx hsT hsum hq
    generalize hcc : cmpN (val (limbs ((gk + val xs / gk) / 2))) (val (limbs gk)) = cc at *
    have HCC := Lib.hid hcc
    clear hcc
    by_cases hc : cc ≥ 0
    · have hle := HCM.out.1 hc
      have HR := Lib.hid (HSTOP.out hle)
      clear hle
      go_wp2_with (first
        | (go_at_call 11; refine hdv.mono ?_; rintro e w6 ⟨v, rfl, hext6, aq, nq, cq, ar, nr, cr, rfl, hq, hr⟩; have hx6 := hx.ext hext6; have hnq := hq.len)
        | (go_at_call 28; refine (add_any _ _ _ _ _ _ _ _ _ hx6 hq (by have := HL.out; omega) (by have := HL.out; omega)).mono ?_; rintro e w7 ⟨v, rfl, hext7, hres⟩; rw [HF.out] at hres; obtain ⟨asm, nsm, csm, rfl, hs⟩ := hres)
        | (go_at_call 20; refine (shr_any _ _ _ _ 1 _ hs HSUM.out (by omega)).mono ?_; rintro e w8 ⟨v, rfl, hext8, hres⟩; rw [HSH.out] at hres; obtain ⟨ay, ny, cy, rfl, hy⟩ := hres)
        | (go_at_call 30; refine (cmp_any _ _ _ _ _ _ _ _ _ hy ((hx6.ext hext7).ext hext8)).mono ?_; rintro e w9 ⟨v, rfl, hext9, rfl⟩; rw [HCC.out])
        | (go_at_call 43; refine (told_any _ _ _ _ _ (((hx6.ext hext7).ext hext8).ext hext9)).mono ?_; rintro e w10 ⟨v, rfl, hext10, hres⟩; rw [HFX.out] at hres; obtain ⟨at', nt, ct, rfl, ht⟩ := hres))
      go_ret2
      exact Post.mk (hE5.trans (hE.trans ((((hext6.trans hext7).trans hext8).trans hext9).trans hext10))) ⟨gk, HR.out, at', nt, ct, rfl, ht⟩
    · have hlt := mt HCM.out.2 hc
      have HLT := Lib.hid hlt
      clear hlt
      go_wp2_with (first
        | (go_at_call 11; refine hdv.mono ?_; rintro e w6 ⟨v, rfl, hext6, aq, nq, cq, ar, nr, cr, rfl, hq, hr⟩; have hx6 := hx.ext hext6; have hnq := hq.len)
        | (go_at_call 28; refine (add_any _ _ _ _ _ _ _ _ _ hx6 hq (by have := HL.out; omega) (by have := HL.out; omega)).mono ?_; rintro e w7 ⟨v, rfl, hext7, hres⟩; rw [HF.out] at hres; obtain ⟨asm, nsm, csm, rfl, hs⟩ := hres)
        | (go_at_call 20; refine (shr_any _ _ _ _ 1 _ hs HSUM.out (by omega)).mono ?_; rintro e w8 ⟨v, rfl, hext8, hres⟩; rw [HSH.out] at hres; obtain ⟨ay, ny, cy, rfl, hy⟩ := hres)
        | (go_at_call 30; refine (cmp_any _ _ _ _ _ _ _ _ _ hy ((hx6.ext hext7).ext hext8)).mono ?_; rintro e w9 ⟨v, rfl, hext9, rfl⟩; rw [HCC.out]))
      go_roundg ((gk + val xs / gk) / 2)
      case rel => exact ⟨_, _, _, rfl, hy.ext hext9, Lib.hid ⟨root_pos H0.out HSTEP.out, by have := HLT.out; have := HG.out.2.1; omega, HSTEP.out⟩, hE.trans (((hext6.trans hext7).trans hext8).trans hext9)⟩
      case measure => have := HLT.out; omega
end Go.Proofs.Ytnecpkoibknacaa
