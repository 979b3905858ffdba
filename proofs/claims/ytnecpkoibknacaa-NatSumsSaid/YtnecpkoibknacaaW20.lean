/- Div, the long way. -/
import Derived.Test.YtnecpkoibknacaaPlainH
import Derived.Test.YtnecpkoibknacaaW19
namespace Go.Proofs.Ytnecpkoibknacaa
open Go.RowKit

/-- The worlds of the long division. -/
structure DivW (wS wr : World) (bu bq T : Nat) (av : Option Addr) (k cv : Nat) (vs U q : List Nat) : Prop where
  ext : Ext wS wr
  ru : Row wr bu T U
  rq : Row wr bq T q
  nv : Nums wr av k cv vs
theorem DivW.on {wS wr w' : World} {bu bq T k cv : Nat} {av : Option Addr} {vs U q : List Nat} (h : DivW wS wr bu bq T av k cv vs U q) (e : Ext wr w') : DivW wS w' bu bq T av k cv vs U q :=
  ⟨h.ext.trans e, h.ru.ext e, h.rq.ext e, h.nv.ext e⟩
theorem DivW.onU {wS wr w' : World} {bu bq T k cv : Nat} {av : Option Addr} {vs U q U' : List Nat} (h : DivW wS wr bu bq T av k cv vs U q) (o : Only bu wr w') (hr : Row w' bu T U') (hS : wS.heap.size ≤ bu) (hq : bq ≠ bu) (hv : ∀ p, av = some p → p.block ≠ bu) : DivW wS w' bu bq T av k cv vs U' q :=
  ⟨o.1 _ h.ext hS, hr, h.rq.only o hq, h.nv.only o hv⟩
theorem DivW.onQ {wS wr : World} {bu bq T k cv : Nat} {av : Option Addr} {vs U q : List Nat} (h : DivW wS wr bu bq T av k cv vs U q) (i x : Nat) (hS : wS.heap.size ≤ bq) (hq : bu ≠ bq) (hv : ∀ p, av = some p → p.block ≠ bq) : DivW wS (wr.setCell ⟨bq, i, none⟩ (.int .u64 (x : Int))) bu bq T av k cv vs U (q.set i x) :=
  ⟨(Only.set wr bq i _).1 _ h.ext hS, h.ru.only (Only.set wr bq i _) hq, h.rq.set i x, h.nv.only (Only.set wr bq i _) hv⟩

set_option maxRecDepth 100000 in
set_option maxHeartbeats 4000000 in
theorem div_main (a1 a2 : Option Addr) (n1 c1 n2 c2 : Nat) (xs ys : List Nat) (w : World) (h1 : Nums w a1 n1 c1 xs) (h2 : Nums w a2 n2 c2 ys) (hf1 : val xs < Top) (hf2 : val ys < Top) (hy : val ys ≠ 0) (hge : val ys ≤ val xs) (hk2 : 2 ≤ (limbs (val ys)).length) :
    Calls Try.prog 11 #[.slice a1 n1 c1, .slice a2 n2 c2] w (Post w fun v w' => DRes w' v (val xs / val ys) (val xs % val ys)) := by
  obtain ⟨i0, hi, hz0, hz1, hz2⟩ := info_parts info_u64
  have hno : [limbs (val xs), limbs (val ys)].any isLong = false := by
    rw [any_two, isLong_false (by rw [val_limbs]; exact hf1), isLong_false (by rw [val_limbs]; exact hf2)]; rfl
  have hl1 := (fits_iff _).2 hf1
  have hl2 := (fits_iff _).2 hf2
  have hv1 := val_limbs (val xs)
  have hv2 := val_limbs (val ys)
  have hc : ¬ cmpN (val (limbs (val xs))) (val (limbs (val ys))) < 0 := by rw [hv1, hv2]; unfold cmpN; rw [if_neg (by omega)]; split <;> omega
  have hxm : val xs < B64 ^ (limbs (val xs)).length := lt_of_length_limbs (Nat.le_refl _)
  have hkm : (limbs (val ys)).length ≤ (limbs (val xs)).length := length_limbs_le (Nat.lt_of_le_of_lt hge hxm)
  have hq : val xs / val ys < Top := Nat.lt_of_le_of_lt (Nat.div_le_self _ _) hf1
  obtain ⟨k, hk⟩ : ∃ k, (limbs (val ys)).length = k := ⟨_, rfl⟩
  obtain ⟨m, hm⟩ : ∃ m, (limbs (val xs)).length = m := ⟨_, rfl⟩
  rw [hk] at hkm hl2 hk2
  rw [hm] at hkm hl1 hxm
  obtain ⟨k1, hk1⟩ : ∃ k1, k = k1 + 1 := ⟨k - 1, by omega⟩
  obtain ⟨k0, hk0⟩ : ∃ k0, k = k0 + 2 := ⟨k - 2, by omega⟩
  obtain ⟨hN, hs⟩ := norm_of hy hk
  rw [show k - 1 = k1 by omega] at hN hs
  have hbt : Lib.bitLen ((limbs (val ys))[k1]?.getD 0) = blen ((limbs (val ys))[k1]?.getD 0) := bitLen_blen _ (getD_lt (lt_limbs _) _)
  have htop : (limbs (val ys))[k1]?.getD 0 < 18446744073709551616 := getD_lt (lt_limbs _) _
  generalize htt : (limbs (val ys))[k1]?.getD 0 = tB at *
  obtain ⟨s, hs'⟩ : ∃ s, 64 - blen tB = s := ⟨_, rfl⟩
  rw [hs'] at hN hs
  have hlz : (64 : Int) - (Lib.bitLen tB : Nat) = s := by rw [hbt]; omega
  have hs64 := hN.hs
  have hVv := val_limbs (val ys * 2 ^ s)
  generalize hvs : limbs (val ys * 2 ^ s) = vs at *
  generalize hA : limbs (val xs) = A at *
  generalize hB : limbs (val ys) = B at *
  generalize hcc : cmpN (val A) (val B) = cc at *
  have HA := Lib.hid hA
  have HB := Lib.hid hB
  have HNO := Lib.hid hno
  have HC := Lib.hid hcc
  have HS := Lib.hid hlz
  have HT := Lib.hid htt
  have HAm := Lib.hid hm
  have HBk := Lib.hid hk
  have HVS := Lib.hid hvs
  have HVV := Lib.hid hVv
  have HV1 := Lib.hid hv1
  have HV2 := Lib.hid hv2
  have HN := Lib.hid hN
  have HK := Lib.hid (And.intro hk1 hk0)
  have HX := Lib.hid hxm
  have HQ := Lib.hid hq
  have HY := Lib.hid hy
  have hk1l : k1 < k := by omega
  have hk0l : k0 < k := by omega
  have ek1 : (k : Int) - 1 = k1 := by omega
  have hcn : (cc < 0) = False := by simp [hc]
  clear hA hB hno hcc hlz htt hm hk hvs hVv hv1 hv2 hN hxm hq hy hge hs hs' hbt hf1 hf2 hk1 hk0
  go_enter Try.func11, Try.ntmps11
  go_wp2
  go_step3
  go_wp2_with (first
    | (go_at_call 41; refine (normal_any _ _ _ _ _ h1).mono ?_; rintro e w1 ⟨v, rfl, hext1, a1', n1', c1', rfl, hn1⟩; rw [HA.out] at hn1; obtain rfl : m = n1' := by { rw [← hn1.len]; exact HAm.out.symm }; clear h1; have h2' := h2.ext hext1)
    | (go_at_call 41; refine (normal_any _ _ _ _ _ h2').mono ?_; rintro e w1' ⟨v, rfl, hext2, a2', n2', c2', rfl, hn2⟩; rw [HB.out] at hn2; have hn1' := hn1.ext hext2; obtain rfl : k = n2' := by { rw [← hn2.len]; exact HBk.out.symm })
    | (go_at_call 42; refine (long_any _ _ _ [A, B] _ (NumsL.two (by simp) (by simp) (hn1'.ext (Ext.of_alloc _ _)) (hn2.ext (Ext.of_alloc _ _)))).mono ?_; rintro e w2 ⟨v, rfl, hextL, rfl⟩; rw [HNO.out])
    | (go_at_call 30; refine (cmp_any _ _ _ _ _ _ _ _ _ (hn1'.ext ((Ext.of_alloc _ _).trans hextL)) (hn2.ext ((Ext.of_alloc _ _).trans hextL))).mono ?_; rintro e wC ⟨v, rfl, hextC, rfl⟩; rw [HC.out]; have hA := hn1'.ext (((Ext.of_alloc _ _).trans hextL).trans hextC); have hB := hn2.ext (((Ext.of_alloc _ _).trans hextL).trans hextC); have hE := (hext1.trans hext2).trans (((Ext.of_alloc _ _).trans hextL).trans hextC); clear hn1 hn1' hn2 h2 h2' hextL hextC hext1 hext2; obtain ⟨b2, off2, rfl, hcell⟩ := hB.at hk1l; rw [HT.out] at hcell)
    | (go_at_call 45; refine (Try.bits_LeadingZeros64 _ _ (by omega) (by omega)).mono ?_; rintro e wS ⟨rfl, rfl⟩; rw [Int.toNat_natCast, HS.out])
    | (go_at_call 46; refine (shift_any _ _ _ A s hs64 _ hA (by omega)).mono ?_; rintro e wU ⟨v, rfl, hextU, U, rfl, hUl, hrowU, hUb, hUv⟩; have hB' := hB.ext hextU; have HU := Lib.hid (And.intro hUl (And.intro hUb hUv)); clear hUl hUb hUv hA)
    | (go_at_call 46; refine (shift_any _ _ _ B s hs64 _ hB' (by omega)).mono ?_; rintro e wV ⟨v, rfl, hextV, Lv, rfl, hLl, hrowV, hLb, hLv⟩; have hnum := hrowV.nums (by omega) (Nat.le_refl _) hLb; rw [hLl] at hnum; rw [HV2.out] at hLv; have HL := Lib.hid hLv; clear hLl hLb hLv hB')
    | (go_at_call 41; refine (normal_own _ _ _ _ _ hnum).mono ?_; rintro e wN ⟨v, rfl, hextN, av, nv, cv, rfl, hnv, hfr⟩; rw [HL.out, HVS.out] at hnv; obtain rfl : k = nv := by { rw [← hnv.len, ← HVS.out]; exact HN.out.len.symm })
    | (at_make; refine wpList_make_row _ rfl _ _ 23 rfl 48 i0 Try.underlying23 hi hz0 hz1 hz2 _ _ _ _ (m + 1 - k) rfl rfl (by omega) (by omega) (by omega) ?_; intro wM hrowQ hextM hszM))
  go_step3
  clear hcell htop hcn hc hB hnum hrowV
  go_wp2
  have hW : DivW wS wM wS.heap.size wN.heap.size 48 av k cv vs U (List.replicate (m + 1 - k) 0) := ⟨(hextU.trans (hextV.trans hextN)).trans hextM, ((hrowU.ext hextV).ext hextN).ext hextM, hrowQ, hnv.ext hextM⟩
  have hav : ∀ p, av = some p → p.block ≠ wS.heap.size ∧ p.block ≠ wN.heap.size := by
    intro p hp
    obtain ⟨bv, ov, e, hcv⟩ := hnv.at hk1l
    rw [hp] at e
    cases e
    have h1 := hfr _ hp
    have h2 := World.block_lt_of_cell? wN _ hcv
    have h3 := hrowU.lt
    have h4 := hextV.size
    dsimp only at *
    omega
  have hbuq : wS.heap.size < wN.heap.size := Nat.lt_of_lt_of_le hrowU.lt (Nat.le_trans hextV.size hextN.size)
  obtain ⟨bv, ov, hav', _⟩ := hnv.at hk1l
  have hD0 : DivOk (val xs * 2 ^ s) (val ys * 2 ^ s) k m (m + 1 - k) U (List.replicate (m + 1 - k) 0) := DivOk.start HU.out.1 HU.out.2.1 (by rw [HU.out.2.2, HV1.out]) hkm (by omega) HX.out (by have := HN.out.low; have := HK.out.1; rwa [show k - 1 = k - 1 from rfl])
  subst hav'
  generalize hbu : wS.heap.size = bu at *
  generalize hbq : wN.heap.size = bq at *
  have hSu : wS.heap.size ≤ bu := by omega
  have hSq : wS.heap.size ≤ bq := by omega
  have hvu : ∀ p, (some ⟨bv, ov, none⟩ : Option Addr) = some p → p.block ≠ bu := fun p hp => (hav p hp).1
  have hvq : ∀ p, (some ⟨bv, ov, none⟩ : Option Addr) = some p → p.block ≠ bq := fun p hp => (hav p hp).2
  have HVU := Lib.hid hvu
  have HVQ := Lib.hid hvq
  have hvl : vs.length = k := hW.nv.len
  have HVL := Lib.hid hvl
  have hvb : ∀ x ∈ vs, x < B64 := hW.nv.lt
  have HVB := Lib.hid hvb
  have ht63 : 9223372036854775808 ≤ vs[k1]?.getD 0 := by have h := HN.out.top; have hkk := HK.out.1; rw [HVS.out, show k - 1 = k1 by omega] at h; exact h
  have htb := getD_lt hvb k1
  have hnb := getD_lt hvb k0
  generalize ht : vs[k1]?.getD 0 = t at *
  generalize hnx : vs[k0]?.getD 0 = nx at *
  have HTT := Lib.hid (And.intro ht hnx)
  have ew1 : IntKind.i64.wrap ((k : Int) - 1) = k1 := by rw [IntWalk.i64_in _ (by omega)]; exact ek1
  have ew0 : IntKind.i64.wrap ((k : Int) - 2) = k0 := by have := HK.out.2; rw [IntWalk.i64_in _ (by omega)]; omega
  have hVlt : val ys * 2 ^ s < B64 ^ k := HN.out.lt
  have HVLT := Lib.hid hVlt
  clear hrowU hextU hextV hextN hextM hrowQ hnv hfr hszM hbu hbq hav hvu hvq hvl hvb ht hnx ek1 hVlt HX HU HL HAm HBk HS HT HC HNO HA HB
  go_loopw [13] (fun i wr => ∃ (ii : Nat) (U q : List Nat), k ≤ ii ∧ ii ≤ m + 1 ∧ i = .int .i64 ((ii : Int) - 1) ∧ DivW wS wr bu bq 48 (some ⟨bv, ov, none⟩) k cv vs U q ∧ Hid (DivOk (val xs * 2 ^ s) (val ys * 2 ^ s) k m (ii - k) U q))
    (fun i _ => (intOf i + 1).toNat)
  case atStart => exact ⟨m + 1, U, _, by omega, Nat.le_refl _, by go_num, hW, Lib.hid hD0⟩
  case round =>
    clear hW hD0 U
    obtain ⟨ii, U, q, hki, him, rfl, hW, HD⟩ := hrel
    by_cases hlt : k < ii
    · obtain ⟨i, rfl⟩ : ∃ i, ii = i + 1 := ⟨ii - 1, by omega⟩
      obtain ⟨j, hj⟩ : ∃ j, i = j + k := ⟨i - k, by omega⟩
      obtain ⟨j1, hi1⟩ : ∃ j1, i = j1 + 1 := ⟨i - 1, by omega⟩
      obtain ⟨j0, hi0⟩ : ∃ j0, i = j0 + 2 := ⟨i - 2, by omega⟩
      have hDO := HD.out
      rw [show i + 1 - k = j + 1 by omega] at hDO
      have HDO := Lib.hid hDO
      clear hDO HD
      have eI : ((i + 1 : Nat) : Int) - 1 = i := by omega
      have eJ : (i : Int) - k = j := by omega
      have hLU := HDO.out.lu
      have hnu := hW.ru.nums (by omega) (Nat.le_refl _) HDO.out.bu
      rw [hLU] at hnu
      have cv1 := hW.nv.on hk1l
      have cv0 := hW.nv.on hk0l
      rw [HTT.out.1] at cv1
      rw [HTT.out.2] at cv0
      have hgu := fun w' (h : Nums w' (some ⟨bu, 0, none⟩) (m + 1) (m + 1) U) => guess_any _ _ _ U t nx i j1 j0 w' h htb ht63 hnb (by omega) hi1 hi0
      have HIJ := Lib.hid (And.intro hj (And.intro hi1 hi0))
      clear hj hi1 hi0
      go_wp2
      go_region_with (go_at_call 47; refine (hgu _ (hnu.ext (Ext.refl _).drew)).mono ?_; rintro e wg ⟨v, rfl, hextg, g, rfl, hgb, hgq⟩)
      all_goals
        have hE1 : Ext wr wg := (Ext.refl _).drew.trans hextg
        have hQg := guess_ge HDO.out HVLT.out HIJ.out.1 (by omega) HK.out.2 HK.out.1 HIJ.out.2.1 HIJ.out.2.2 HVL.out HVV.out HTT.out.1 HTT.out.2 hgq
        obtain ⟨p1, p2, p3, p4⟩ := HDO.out.part HVLT.out (by have := HIJ.out.1; omega)
        have hV0 : 0 < val ys * 2 ^ s := by have := HDO.out.top; omega
        have hji : j ≤ i := by have := HIJ.out.1; omega
        have hjk : i + 1 - j = k + 1 := by have := HIJ.out.1; omega
        have hpart := (hnu.drop0 (c' := m + 1 - j) j (by omega) (Nat.le_refl _)).take (k + 1) (m + 1 - j) (by have := HIJ.out.1; omega) (by have := HIJ.out.1; omega)
        have hstep := fun (g : Nat) (R : List Nat) => HDO.out.step (g := g) (R := R) HVLT.out (by have := HIJ.out.1; omega)
        generalize hPt : (U.drop j).take (k + 1) = Pt at *
        have HSTEP := Lib.hid hstep
        clear hstep
        have HP := Lib.hid (And.intro hPt (And.intro p1 (And.intro p2 (And.intro p3 p4))))
        have HV0 := Lib.hid hV0
        have HGQ := Lib.hid hQg
        clear hPt p1 p2 p3 p4 hV0 cv1 cv0 hgu hgq hQg
        go_simp
        go_wp2
        go_loopw [14] (fun gv wx => ∃ g' : Nat, gv = .int .u64 g' ∧ Hid (val Pt / (val ys * 2 ^ s) ≤ g' ∧ g' < B64) ∧ Ext wr wx) (fun gv _ => (intOf gv).toNat)
        case atStart => exact ⟨g, rfl, Lib.hid ⟨HGQ.out, hgb⟩, hE1⟩
        case round =>
          clear HGQ hgb hextg hE1
          obtain ⟨g', rfl, HG, hE1⟩ := hrel
          have hgb := HG.out.2
          by_cases hle : g' * (val ys * 2 ^ s) ≤ val Pt
          · have hcmp := cmp_le hle
            generalize hcc : cmpN (val (limbs (val ys * 2 ^ s * g'))) (val Pt) = cc2 at *
            have HCC := Lib.hid hcc
            have HLE := Lib.hid hle
            clear hcc hle
            go_wp2_with (first
              | (go_at_call 48; refine (times_any _ _ _ vs g' hgb _ (hW.nv.ext hE1) (by omega)).mono ?_; rintro e wT ⟨v, rfl, hextT, ap, np, cp, rfl, hp⟩; rw [HVV.out] at hp)
              | (go_at_call 30; refine (cmp_any _ _ _ _ _ _ _ Pt _ hp (hpart.ext (hE1.trans hextT))).mono ?_; rintro e wC ⟨v, rfl, hextC, rfl⟩; rw [HCC.out])
              | (go_at_call 49; refine (less_own _ _ _ _ _ _ Pt _ _ (hpart.ext ((hE1.trans hextT).trans hextC)) (hp.ext hextC) (by rw [val_limbs, Nat.mul_comm]; exact HLE.out)).mono ?_; rintro e wL ⟨v, rfl, hextL, ar, nr, cr, rfl, hr, hfr⟩; rw [val_limbs, Nat.mul_comm] at hr; have hWL := hW.on (((hE1.trans hextT).trans hextC).trans hextL); have hrl := hr.len; generalize hR : limbs (val Pt - g' * (val ys * 2 ^ s)) = R at *; have HR := Lib.hid (And.intro hR hrl); have hru := hWL.ru; have hbl : bu < wC.heap.size := Nat.lt_of_lt_of_le hW.ru.lt (((hE1.trans hextT).trans hextC).size); clear hR hrl)
              | (refine wpList_clear_row _ rfl (.tmp 123) 23 rfl 48 i0 Try.underlying23 hi hz0 bu j (k + 1) (m + 1 - j) rfl (by omega) 48 U hru (by omega) ?_; intro wK hrowK honly; have hrK := hr.only honly (fun p hp => by have := hfr p hp; omega); have hnr : nr ≤ k + 1 := by { rw [← HR.out.2, ← HR.out.1]; apply length_limbs_le; have h := val_lt hpart.lt; rw [HP.out.2.1] at h; omega })
              | (refine wpList_copy_row _ rfl (.tmp 124) (.tmp 125) 23 23 rfl 48 i0 Try.underlying23 hi hz1 bu j (k + 1) (m + 1 - j) rfl ar nr cr rfl 48 _ R hrowK hrK hnr (by rw [length_splice _ _ _ (by simp; omega), hLU]; omega) ?_; intro wP hrowP honlyP; have hWP := hWL.onU (honly.trans honlyP) hrowP hSu (by omega) HVU.out; have hlq := HDO.out.lq; have cq := hWP.rq.cell (i := j) (by omega); have fq := hWP.rq.frozen j; clear hrowK hrowP honly honlyP hWL hru))
            go_roundw
            case rel =>
              refine ⟨i, _, q.set j g', by omega, by omega, rfl, hWP.onQ j g' hSq (by omega) HVQ.out, ?_⟩
              rw [show i - k = j by have := HIJ.out.1; omega]
              exact Lib.hid (HSTEP.out g' R HLE.out ((Nat.div_lt_iff_lt_mul HV0.out).1 (Nat.lt_succ_of_le HG.out.1)) hgb (by rw [← HR.out.1, val_limbs]) (by rw [HR.out.2]; exact hnr) hr.lt)
            case measure => simp only [intOf]; omega
          · have hcmp := cmp_gt hle
            have hdec : val Pt / (val ys * 2 ^ s) < g' := by
              have := mt (le_quo (P := val Pt) (g := g') HV0.out).2 hle
              omega
            have HDEC := Lib.hid hdec
            generalize hcc : cmpN (val (limbs (val ys * 2 ^ s * g'))) (val Pt) = cc2 at *
            have HCC := Lib.hid hcc
            have hg0 : 0 < g' := Nat.lt_of_le_of_lt (Nat.zero_le _) hdec
            have hgb2 : g' < 18446744073709551616 := hgb
            clear hcc hle hdec
            go_wp2_with (first
              | (go_at_call 48; refine (times_any _ _ _ vs g' hgb _ (hW.nv.ext hE1) (by omega)).mono ?_; rintro e wT ⟨v, rfl, hextT, ap, np, cp, rfl, hp⟩; rw [HVV.out] at hp)
              | (go_at_call 30; refine (cmp_any _ _ _ _ _ _ _ Pt _ hp (hpart.ext (hE1.trans hextT))).mono ?_; rintro e wC ⟨v, rfl, hextC, rfl⟩; rw [HCC.out]))
            go_roundw
            case rel => exact ⟨g' - 1, by congr 1; omega, Lib.hid ⟨by have := HDEC.out; omega, by omega⟩, (hE1.trans hextT).trans hextC⟩
            case measure => simp only [intOf]; omega
    · have : ii = k := by omega
      subst this
      have hDD := HD.out
      rw [Nat.sub_self] at hDD
      obtain ⟨z1, z2, z3⟩ := hDD.done (Nat.pos_of_ne_zero HY.out)
      have hLU := hDD.lu
      have hnu := hW.ru.nums (by omega) (Nat.le_refl _) hDD.bu
      rw [hLU] at hnu
      have hLQ := hDD.lq
      have hnq := hW.rq.nums (by omega) (Nat.le_refl _) hDD.bq
      rw [hLQ] at hnq
      have hUT : val U < Top := by
        refine (fits_iff _).1 ?_
        have := length_limbs_le (Nat.lt_trans z3 HVLT.out)
        omega
      have hfit : fit (val q) = some (val xs / val ys) := by rw [z1]; unfold fit; exact if_pos HQ.out
      have HZ2 := Lib.hid z2
      have HF := Lib.hid hfit
      clear z1 z2 z3 hfit hDD HD
      go_wp2_with (first
        | (go_at_call 20; refine (shr_any _ _ _ U s _ hnu hUT (by omega)).mono ?_; rintro e wR ⟨v, rfl, hextR, hres⟩; rw [HZ2.out] at hres; obtain ⟨ar, nr, cr, rfl, hr⟩ := hres)
        | (go_at_call 43; refine (told_any _ _ _ _ _ (hnq.ext hextR)).mono ?_; rintro e wT ⟨v, rfl, hextT, hres⟩; rw [HF.out] at hres; obtain ⟨aq, nq, cq, rfl, hqq⟩ := hres))
      rw [Exit.noGoto_ret]
      go_ret3
      exact Post.mk (hE.trans ((hW.ext.trans hextR).trans hextT)) ⟨aq, nq, cq, ar, nr, cr, rfl, hqq, hr.ext hextT⟩
end Go.Proofs.Ytnecpkoibknacaa
