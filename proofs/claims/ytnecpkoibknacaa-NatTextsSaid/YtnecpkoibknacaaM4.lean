/- Parts of the proof: contracts of the functions that the law reaches, and the arithmetic that they rest on; no condition beyond those that each theorem states. -/
import Derived.Laws.OwnMore
import Derived.ArgAppend
import Derived.Laws.IdiomStrings
import Derived.Test.YtnecpkoibknacaaM1
import Derived.Test.YtnecpkoibknacaaM3

namespace Go.Proofs.Ytnecpkoibknacaa
open Go.RowKit

theorem top_le {K n : Nat} (h : n < B64 ^ K) (hK : K ≤ 2048) : n < Top := (fits_iff n).1 (Nat.le_trans (length_limbs_le h) hK)
theorem pow_len {K e : Nat} (he : e < 64 * K) : (limbs (2 ^ e)).length ≤ K := by
  apply length_limbs_le
  rw [B64_pow]
  exact Nat.pow_lt_pow_right (by omega) he
theorem pow_top {e : Nat} (he : e ≤ 131071) : 2 ^ e < Top := (fits_iff _).1 (pow_len (by omega))
theorem blen_len {K a : Nat} (h : (limbs a).length ≤ K) : blen a ≤ 64 * K := by
  have h2 := lt_of_length_limbs h
  rw [B64_pow] at h2
  exact (blen_iff a _).1 h2
theorem root_sum {x q e : Nat} (he : e ≤ 65536) (hx : x ≤ 2 ^ e) (hq : q ≤ x + 2) : x + q < Top := by
  have h1 : x + q ≤ 2 * 2 ^ e + 2 := by omega
  have h2 : 2 * 2 ^ e + 2 ≤ 2 ^ (e + 2) := by
    have := Nat.two_pow_pos e
    rw [Nat.pow_add]; omega
  have h3 := pow_top (e := e + 2) (by omega)
  omega
theorem blen_top {a : Nat} (h : a < Top) : blen a ≤ 131072 := blen_len ((fits_iff a).2 h)
theorem cmp_ge {x y : Nat} : cmpN x y ≥ 0 ↔ y ≤ x := by
  unfold cmpN
  constructor
  · intro h; by_cases h1 : x < y
    · rw [if_pos h1] at h; omega
    · omega
  · intro h; rw [if_neg (by omega)]; split <;> omega

theorem root_zero (a : Option Addr) (n c : Nat) (xs : List Nat) (w : World) (h : Nums w a n c xs) (h0 : val xs = 0) :
    Calls Try.prog 13 #[.slice a n c] w (Post w fun v w' => NRes w' v (some 0)) := by
  have hno : [limbs (val xs)].any isLong = false := by rw [any_one]; exact isLong_false (by rw [val_limbs, h0]; exact Top_pos)
  rw [h0, limbs_zero] at hno
  have HNO := Lib.hid hno
  have H0 := Lib.hid h0
  clear hno h0
  go_enter Try.func13, Try.ntmps13
  go_wp2_with (first
    | (go_at_call 41; refine (normal_any _ _ _ _ _ h).mono ?_; rintro e w1 ⟨v, rfl, hext1, a', n', c', rfl, hn⟩; rw [H0.out, limbs_zero] at hn; obtain rfl : n' = 0 := hn.len.symm)
    | (go_at_call 42; refine (long_any _ _ _ [[]] _ (NumsL.one (by simp) (hn.ext (Ext.of_alloc _ _)))).mono ?_; rintro e w2 ⟨v, rfl, hext2, rfl⟩; rw [HNO.out]))
  go_ret2
  refine Post.mk (hext1.trans ((Ext.of_alloc _ _).trans hext2)) ⟨none, 0, 0, rfl, ?_⟩
  rw [limbs_zero]; exact Nums.nil _ _ _

set_option maxRecDepth 100000 in
set_option maxHeartbeats 1000000 in
theorem root_main (a : Option Addr) (n c : Nat) (xs : List Nat) (w : World) (h : Nums w a n c xs) (hf : val xs < Top) (h0 : val xs ≠ 0) :
    Calls Try.prog 13 #[.slice a n c] w (Post w fun v w' => ∃ r, IsRoot (val xs) r ∧ NRes w' v (some r)) := by
  have hno : [limbs (val xs)].any isLong = false := by rw [any_one]; exact isLong_false (by rw [val_limbs]; exact hf)
  have hl := length_limbs_pos h0
  have hv := val_limbs (val xs)
  have hb := blen_top hf
  generalize hA : limbs (val xs) = A at *
  have HA := Lib.hid hA
  have HV := Lib.hid hv
  have HNO := Lib.hid hno
  obtain ⟨e, he⟩ : ∃ e, (blen (val xs) + 1) / 2 = e := ⟨_, rfl⟩
  obtain ⟨bl, hbl⟩ : ∃ bl, blen (val xs) = bl := ⟨_, rfl⟩
  have hst := root_start (a := val xs)
  rw [he] at hst
  rw [hbl] at he hb
  have he2 : ((bl : Int) + 1) / 2 = e := by omega
  have hbl2 : e ≤ 65536 := by omega
  have hfit1 : fit (val (limbs 1) * 2 ^ e) = some (2 ^ e) := by rw [val_limbs, Nat.one_mul]; unfold fit; exact if_pos (pow_top (by omega))
  have HB := Lib.hid hbl
  have HF1 := Lib.hid hfit1
  have HST := Lib.hid hst
  have H0 := Lib.hid h0
  clear hA hv hno h0 he hbl hfit1 hst
  go_enter Try.func13, Try.ntmps13
  go_wp2_with (first
    | (go_at_call 41; refine (normal_any _ _ _ _ _ h).mono ?_; rintro e w1 ⟨v, rfl, hext1, a', n', c', rfl, hn⟩; rw [HA.out] at hn; obtain rfl := hn.len)
    | (go_at_call 42; refine (long_any _ _ _ [A] _ (NumsL.one (by simp) (hn.ext (Ext.of_alloc _ _)))).mono ?_; rintro e w2 ⟨v, rfl, hext2, rfl⟩; rw [HNO.out]; have hn2 := hn.ext ((Ext.of_alloc _ _).trans hext2); have hE2 := hext1.trans ((Ext.of_alloc _ _).trans hext2); clear hn hext1 hext2)
    | (go_at_call 32; refine (of_any 1 (by unfold B64; omega) _).mono ?_; rintro e w3 ⟨v, rfl, hext3, ao, no, co, rfl, ho⟩; have hn3 := hn2.ext hext3)
    | (go_at_call 33; refine (bits_any _ _ _ A _ hn3).mono ?_; rintro e w4 ⟨v, rfl, hext4, rfl⟩; rw [HV.out, HB.out])
    | (go_at_call 19; refine (shl_any _ _ _ _ e _ (ho.ext hext4) (by omega)).mono ?_; rintro e w5 ⟨v, rfl, hext5, hres⟩; rw [HF1.out] at hres; obtain ⟨ax, nx, cx, rfl, hx⟩ := hres))
  have hA4 := (hn3.ext hext4).ext hext5
  have hE5 := ((hE2.trans hext3).trans hext4).trans hext5
  clear hn2 hn3 hE2 hext3 hext4 hext5 ho
  go_loopg [4] (2 ^ e) (fun g s wr => ∃ (ax : Option Addr) (nx cx : Nat), s = .slice ax nx cx ∧ Nums wr ax nx cx (limbs g) ∧ Hid (0 < g ∧ g ≤ 2 ^ e ∧ val xs < (g + 1) * (g + 1)) ∧ Ext w5 wr)
  case atStart => exact ⟨_, _, _, rfl, hx, Lib.hid ⟨Nat.two_pow_pos e, Nat.le_refl _, HST.out⟩, Ext.refl _⟩
  case round =>
    clear hx
    obtain ⟨ax, nx, cx, rfl, hx, HG, hE⟩ := hrel
    have hgT : gk < Top := Nat.lt_of_le_of_lt HG.out.2.1 (pow_top (by omega))
    have hq := root_quo HG.out.1 HG.out.2.2
    have hsum := root_sum hbl2 HG.out.2.1 hq
    have hdv := div_any a' ax A.length c' nx cx A (limbs gk) wr (hA4.ext hE) hx (by rw [HV.out]; exact hf) (by rw [val_limbs]; exact hgT) (by rw [val_limbs]; have := HG.out.1; omega)
    rw [HV.out, val_limbs] at hdv
    have hqT : val xs / gk < Top := Nat.lt_of_le_of_lt (Nat.div_le_self _ _) hf
    have hl1 := (fits_iff _).2 hgT
    have hl2 := (fits_iff _).2 hqT
    have hnx := hx.len
    have hfit : fit (val (limbs gk) + val (limbs (val xs / gk))) = some (gk + val xs / gk) := by rw [val_limbs, val_limbs]; unfold fit; exact if_pos hsum
    have hsh : val (limbs (gk + val xs / gk)) / 2 ^ 1 = (gk + val xs / gk) / 2 := by rw [val_limbs]
    have hstep := root_step (a := val xs) HG.out.1
    have hstop := root_stop HG.out.1 HG.out.2.2
    have hfx : fit (val (limbs gk)) = some gk := by rw [val_limbs]; unfold fit; exact if_pos hgT
    have hcm : cmpN (val (limbs ((gk + val xs / gk) / 2))) (val (limbs gk)) ≥ 0 ↔ gk ≤ (gk + val xs / gk) / 2 := by rw [val_limbs, val_limbs]; exact cmp_ge
    have hsT : val (limbs (gk + val xs / gk)) < Top := by rw [val_limbs]; exact hsum
    have HF := Lib.hid hfit
    have HSH := Lib.hid hsh
    have HSTEP := Lib.hid hstep
    have HSTOP := Lib.hid hstop
    have HFX := Lib.hid hfx
    have HCM := Lib.hid hcm
    have HL := Lib.hid (And.intro hl1 (And.intro hl2 hnx))
    have HSUM := Lib.hid hsT
    clear hfit hsh hstep hstop hfx hcm hl1 hl2 hnx hsT hsum hq
    generalize hcc : cmpN (val (limbs ((gk + val xs / gk) / 2))) (val (limbs gk)) = cc at *
    have HCC := Lib.hid hcc
    clear hcc
    by_cases hc : cc ≥ 0
    · have hle := HCM.out.1 hc
      have HR := Lib.hid (HSTOP.out hle)
      clear hle
      go_wp2_with (first
        | (go_at_call 11; refine hdv.mono ?_; rintro e w6 ⟨v, rfl, hext6, aq, nq, cq, ar, nr, cr, rfl, hq, hr⟩; have hx6 := hx.ext hext6; have hnq := hq.len)
        | (go_at_call 28; refine (add_any _ _ _ _ _ _ _ _ _ hx6 hq (by have := HL.out; omega) (by have := HL.out; omega)).mono ?_; rintro e w7 ⟨v, rfl, hext7, hres⟩; rw [HF.out] at hres; obtain ⟨asm, nsm, csm, rfl, hs⟩ := hres)
        | (go_at_call 20; refine (shr_any _ _ _ _ 1 _ hs HSUM.out (by omega)).mono ?_; rintro e w8 ⟨v, rfl, hext8, hres⟩; rw [HSH.out] at hres; obtain ⟨ay, ny, cy, rfl, hy⟩ := hres)
        | (go_at_call 30; refine (cmp_any _ _ _ _ _ _ _ _ _ hy ((hx6.ext hext7).ext hext8)).mono ?_; rintro e w9 ⟨v, rfl, hext9, rfl⟩; rw [HCC.out])
        | (go_at_call 43; refine (told_any _ _ _ _ _ (((hx6.ext hext7).ext hext8).ext hext9)).mono ?_; rintro e w10 ⟨v, rfl, hext10, hres⟩; rw [HFX.out] at hres; obtain ⟨at', nt, ct, rfl, ht⟩ := hres))
      go_ret2
      exact Post.mk (hE5.trans (hE.trans ((((hext6.trans hext7).trans hext8).trans hext9).trans hext10))) ⟨gk, HR.out, at', nt, ct, rfl, ht⟩
    · have hlt := mt HCM.out.2 hc
      have HLT := Lib.hid hlt
      clear hlt
      go_wp2_with (first
        | (go_at_call 11; refine hdv.mono ?_; rintro e w6 ⟨v, rfl, hext6, aq, nq, cq, ar, nr, cr, rfl, hq, hr⟩; have hx6 := hx.ext hext6; have hnq := hq.len)
        | (go_at_call 28; refine (add_any _ _ _ _ _ _ _ _ _ hx6 hq (by have := HL.out; omega) (by have := HL.out; omega)).mono ?_; rintro e w7 ⟨v, rfl, hext7, hres⟩; rw [HF.out] at hres; obtain ⟨asm, nsm, csm, rfl, hs⟩ := hres)
        | (go_at_call 20; refine (shr_any _ _ _ _ 1 _ hs HSUM.out (by omega)).mono ?_; rintro e w8 ⟨v, rfl, hext8, hres⟩; rw [HSH.out] at hres; obtain ⟨ay, ny, cy, rfl, hy⟩ := hres)
        | (go_at_call 30; refine (cmp_any _ _ _ _ _ _ _ _ _ hy ((hx6.ext hext7).ext hext8)).mono ?_; rintro e w9 ⟨v, rfl, hext9, rfl⟩; rw [HCC.out]))
      go_roundg ((gk + val xs / gk) / 2)
      case rel => exact ⟨_, _, _, rfl, hy.ext hext9, Lib.hid ⟨root_pos H0.out HSTEP.out, by have := HLT.out; have := HG.out.2.1; omega, HSTEP.out⟩, hE.trans (((hext6.trans hext7).trans hext8).trans hext9)⟩
      case measure => have := HLT.out; omega
end Go.Proofs.Ytnecpkoibknacaa

namespace Go.Proofs.Ytnecpkoibknacaa
open Go.RowKit

/-- Bytes as cells. -/
def bys (l : List Nat) : List Value := l.map fun (x : Nat) => Value.int .u8 (x : Int)
theorem length_bys (l : List Nat) : (bys l).length = l.length := by simp [bys]
theorem bys_get {l : List Nat} {j : Nat} (hj : j < l.length) : (bys l)[j]? = some (.int .u8 ((l[j]?.getD 0 : Nat) : Int)) := by
  simp [bys, List.getElem?_eq_getElem hj]
theorem bys_set (l : List Nat) (j x : Nat) : (bys l).set j (.int .u8 (x : Int)) = bys (l.set j x) := by simp [bys, List.map_set]

/-- i pairs are swapped. -/
def RevOk (xs : List Nat) (i : Nat) (L : List Nat) : Prop := L.length = xs.length ∧ ∀ t, t < xs.length → L[t]?.getD 0 = if t < i ∨ xs.length - i ≤ t then xs[xs.length - 1 - t]?.getD 0 else xs[t]?.getD 0
theorem RevOk.start (xs : List Nat) : RevOk xs 0 xs := ⟨rfl, fun t ht => by rw [if_neg (by omega)]⟩
theorem RevOk.step {xs : List Nat} {i : Nat} {L : List Nat} (h : RevOk xs i L) (hi : i < xs.length - 1 - i) :
    RevOk xs (i + 1) ((L.set i (L[xs.length - 1 - i]?.getD 0)).set (xs.length - 1 - i) (L[i]?.getD 0)) := by
  obtain ⟨hl, h⟩ := h
  refine ⟨by simp [hl], fun t ht => ?_⟩
  rw [getD_set, getD_set, List.length_set, hl]
  by_cases h1 : xs.length - 1 - i = t
  · rw [if_pos ⟨h1, by omega⟩, if_pos (by omega), h i (by omega), if_neg (by omega)]
    congr 2; omega
  · rw [if_neg (by omega)]
    by_cases h2 : i = t
    · subst h2
      rw [if_pos ⟨rfl, by omega⟩, if_pos (by omega), h _ (by omega), if_neg (by omega)]
    · rw [if_neg (by omega), h t ht]
      by_cases h3 : t < i ∨ xs.length - i ≤ t
      · rw [if_pos h3, if_pos (by omega)]
      · rw [if_neg h3, if_neg (by omega)]
theorem RevOk.done {xs : List Nat} {i : Nat} {L : List Nat} (h : RevOk xs i L) (hi : ¬ i < xs.length - 1 - i) : L = xs.reverse := by
  obtain ⟨hl, h⟩ := h
  apply List.ext_getElem?
  intro t
  by_cases ht : t < xs.length
  · have h1 := h t ht
    rw [List.getElem?_eq_getElem (by omega), List.getElem?_eq_getElem (by simpa using ht)]
    rw [List.getElem?_eq_getElem (by omega : t < L.length)] at h1
    rw [List.getElem_reverse]
    have e : ∀ a, a < xs.length → xs[a]?.getD 0 = xs[a]! := fun a ha => by simp [ha]
    by_cases h2 : t < i ∨ xs.length - i ≤ t
    · rw [if_pos h2, List.getElem?_eq_getElem (by omega : xs.length - 1 - t < xs.length)] at h1
      exact congrArg some h1
    · rw [if_neg h2, List.getElem?_eq_getElem ht] at h1
      have : t = xs.length - 1 - t := by omega
      simp only [Option.getD_some] at h1
      rw [h1]
      congr 1
      congr 1
  · rw [List.getElem?_eq_none (by omega), List.getElem?_eq_none (by simp; omega)]

theorem Only.drew {b : Nat} {w w' : World} (h : Only b w w') : Only b w w'.drew := ⟨fun a ha hb => (h.1 a ha hb).drew, h.2⟩

set_option maxRecDepth 100000 in
set_option maxHeartbeats 1000000 in
theorem reverse_any (g cap base : Nat) (xs : List Nat) (hf : xs.length ≤ 1000000) (w : World) (h : w.ownsRow base 5 1 (.slice (some ⟨g, 0, none⟩) xs.length cap) xs.length (bys xs)) :
    Calls Try.prog 56 #[.slice (some ⟨g, 0, none⟩) xs.length cap] w fun e w' => e = .returned (.tuple #[]) ∧ Only g w w' ∧ w'.ownsRow base 5 1 (.slice (some ⟨g, 0, none⟩) xs.length cap) xs.length (bys xs.reverse) := by
  go_enter Try.func56, Try.ntmps56
  go_wp2
  go_loopw [2, 3] (fun i j wr => ∃ (k : Nat) (L : List Nat), k ≤ xs.length ∧ i = .int .i64 k ∧ j = .int .i64 ((xs.length : Int) - 1 - k) ∧ Only g w wr ∧ wr.ownsRow base 5 1 (.slice (some ⟨g, 0, none⟩) xs.length cap) xs.length (bys L) ∧ Hid (RevOk xs k L))
    (fun i _ _ => xs.length - (intOf i).toNat)
  case atStart => exact ⟨0, xs, Nat.zero_le _, rfl, by simp, Only.refl _ _, h, Lib.hid (RevOk.start xs)⟩
  case round =>
    obtain ⟨k, L, hk, rfl, rfl, ho, hr, HL⟩ := hrel
    by_cases hlt : k < xs.length - 1 - k
    · obtain ⟨j, hj⟩ : ∃ j, xs.length - 1 - k = j := ⟨_, rfl⟩
      have hL := HL.out.1
      have ej : (xs.length : Int) - 1 - k = j := by omega
      have c1 := hr.cellAt k (by omega)
      rw [bys_get (by omega)] at c1
      have c2 := hr.cellAt j (by omega)
      rw [bys_get (by omega)] at c2
      have f1 := hr.frozenAt k
      have f2 := hr.frozenAt j
      have hst := HL.out.step hlt
      rw [hj] at hst
      generalize L[k]?.getD 0 = x at *
      generalize L[j]?.getD 0 = y at *
      have HST := Lib.hid hst
      have hjl : j < xs.length := by omega
      have hkj : k < j := by omega
      have HJ := Lib.hid hj
      clear hst hj h
      rw [ej]
      go_wp2
      go_region_with (fail)
      all_goals
        go_wp2
        go_roundw
        case rel =>
          have h1 := hr.stored k (.int .u8 (y : Int))
          have h2 := h1.1.stored j (.int .u8 (x : Int))
          rw [bys_set, bys_set] at h2
          exact ⟨k + 1, _, by omega, by go_num, by congr 1; omega, (ho.trans ((Only.set wr g k _).trans (Only.set _ g j _))).drew, h2.1, HST⟩
        case measure => simp only [intOf]; omega
    · have hL := HL.out.done hlt
      subst hL
      go_wp2
      go_end0
      exact ⟨rfl, ho, hr⟩
end Go.Proofs.Ytnecpkoibknacaa

namespace Go.Proofs.Ytnecpkoibknacaa
open Go.RowKit

theorem info_u8 : (Try.prog.info? 5).map (fun i => (i.zero, i.size, i.bytes)) = some (some (.int .u8 0), 1, 1) := by kernel_rfl

/-- Bytes that the call itself has laid; none yet, or a row. -/
def Out (w : World) (base : Nat) (v : Value) (D : List Nat) : Prop := (D = [] ∧ v = .slice none 0 0) ∨ (D ≠ [] ∧ ∃ g cap, v = .slice (some ⟨g, 0, none⟩) D.length cap ∧ w.ownsRow base 5 1 (.slice (some ⟨g, 0, none⟩) D.length cap) D.length (bys D))

theorem Out.ext {w w' : World} {base : Nat} {v : Value} {D : List Nat} (h : Out w base v D) (e : Ext w w') : Out w' base v D := by
  rcases h with h | ⟨h0, g, cap, rfl, hr⟩
  · exact .inl h
  · refine .inr ⟨h0, g, cap, rfl, ⟨hr.1, ?_⟩⟩
    rcases hr.2 with ⟨h, _⟩ | ⟨g', cap', cur, h, h1, h2, h3⟩
    · cases h
    · exact .inr ⟨g', cap', cur, h, h1, e.block h2, h3⟩
theorem own_cap {w : World} {base e g n cap : Nat} {xs : List Value} (h : w.ownsRow base e 1 (.slice (some ⟨g, 0, none⟩) n cap) n xs) : n ≤ cap := by
  rcases h.2 with ⟨h, _⟩ | ⟨g', cap', cur, h, _, _, h3, _⟩
  · cases h
  · cases h; exact h3
theorem Out.of_own {w : World} {B base : Nat} {v : Value} {D : List Nat} {x : Nat} (h : w.ownsRow B 5 1 v (D.length + 1) (bys D ++ [.int .u8 (x : Int)])) (hb : base ≤ B) : Out w base v (D ++ [x]) := by
  have e : (D ++ [x]).length = D.length + 1 := by simp
  have e2 : bys (D ++ [x]) = bys D ++ [.int .u8 (x : Int)] := by simp [bys]
  refine .inr ⟨by simp, ?_⟩
  rw [e, e2]
  rcases h.2 with ⟨_, h0⟩ | ⟨g, cap, cur, rfl, h1, h2⟩
  · omega
  · exact ⟨g, cap, rfl, h.1, .inr ⟨g, cap, cur, rfl, Nat.le_trans hb h1, h2⟩⟩

theorem run_text {P : Program} {w : World} {src dst e base g n cap : Nat} {L : List Nat} (hs : P.underlying src = some (.slice e)) (he : P.underlying e = some (.int .u8)) (hd : P.underlying dst = some .string)
    (h : w.ownsRow base e 1 (.slice (some ⟨g, 0, none⟩) n cap) n (bys L)) (hL : ∀ x ∈ L, x < 256) (hn : L.length = n) :
    (convert src dst (.slice (some ⟨g, 0, none⟩) n cap)).run P w = .ok (.string (txt L)) w := by
  have := run_convert_bytes_back (P := P) w src dst e ⟨g, 0, none⟩ cap (L.map UInt8.ofNat) hs he hd (fun j hj => by
    rw [List.length_map] at hj
    rw [addr_add, Nat.zero_add, h.cellAt j (by omega), bys_get hj, List.getElem_map, List.getElem?_eq_getElem hj]
    have := hL L[j] (List.getElem_mem hj)
    simp only [Option.getD_some, UInt8.toNat_ofNat']
    rw [Nat.mod_eq_of_lt (by omega)])
  rw [List.length_map, hn] at this
  exact this

set_option maxRecDepth 100000 in
set_option maxHeartbeats 2000000 in
theorem text_main (a : Option Addr) (n c : Nat) (xs : List Nat) (w : World) (h : Nums w a n c xs) (hf : val xs < Top) (h0 : val xs ≠ 0) :
    Calls Try.prog 23 #[.slice a n c] w (Post w fun v _ => v = .string (txt (rdig (val xs)).reverse)) := by
  obtain ⟨i0, hi, hz0, hz1, hz2⟩ := info_parts info_u8
  have hno : [xs].any isLong = false := by rw [any_one]; exact isLong_false hf
  have hl := length_limbs_pos h0
  have hN : (rdig (val xs)).length ≤ 131072 := Nat.le_trans (rdig_len (lt_blen _)) (blen_top hf)
  obtain ⟨N, hNe⟩ : ∃ N, val xs = N := ⟨_, rfl⟩
  rw [hNe] at hl hN h0 ⊢
  have hlb : (((limbs N).length : Int) == 0) = false := by rw [beq_eq_false_iff_ne]; omega
  have HN := Lib.hid hNe
  have HNO := Lib.hid hno
  have H0 := Lib.hid h0
  clear hNe hno hf h0
  go_enter Try.func23, Try.ntmps23
  go_wp2_with (first
    | (go_at_call 42; refine (long_any _ _ _ [xs] _ (NumsL.one (by simp) (h.ext (Ext.of_alloc _ _)))).mono ?_; rintro e w2 ⟨v, rfl, hext2, rfl⟩; rw [HNO.out]; have hn2 := h.ext ((Ext.of_alloc _ _).trans hext2); have hE2 := (Ext.of_alloc w _).trans hext2; clear h hext2)
    | (go_at_call 41; refine (normal_any _ _ _ _ _ hn2).mono ?_; rintro e w3 ⟨v, rfl, hext3, a', n', c', rfl, hn⟩; rw [HN.out] at hn; obtain rfl := hn.len))
  clear hn2
  have hE3 := hE2.trans hext3
  clear hE2 hext3
  go_loopg [0, 3] N (fun A s0 s3 wr => ∃ (a : Option Addr) (n c : Nat) (D : List Nat), s0 = .slice a n c ∧ Nums wr a n c (limbs A) ∧ Out wr w.heap.size s3 D ∧ Hid (D ++ rdig A = rdig N) ∧ Ext w wr)
  case atStart => exact ⟨_, _, _, [], rfl, hn, .inl ⟨rfl, rfl⟩, Lib.hid rfl, hE3⟩
  case round =>
    clear hn hE3
    obtain ⟨a1, n1, c1, D, rfl, hn, hO, HD, hE⟩ := hrel
    by_cases hA : gk = 0
    · have hD := HD.out
      rw [hA, rdig_zero, List.append_nil] at hD
      rcases hO with ⟨h1, _⟩ | ⟨_, g, cap, rfl, hown⟩
      · rw [h1, rdig_pos H0.out] at hD
        cases hD
      · have hlen : D.length ≤ 131072 := by rw [hD]; exact hN
        have hm : n1 = 0 := by rw [← hn.len, hA, limbs_zero]; rfl
        subst hm
        have hlt : ∀ x ∈ D.reverse, x < 256 := fun x hx => by
          rw [List.mem_reverse, hD] at hx
          have := rdig_lt N x hx
          omega
        have HLT := Lib.hid hlt
        have HDD := Lib.hid hD
        clear hlt hD hA
        have hgb : w.heap.size ≤ g := (hown.lt g rfl).1
        go_wp2_with (go_at_call 56; refine (reverse_any g cap w.heap.size D (by omega) _ hown).mono ?_; rintro e wR ⟨rfl, honly, hown'⟩; have hconv := run_text (P := Try.prog) (src := 62) (dst := 9) Try.underlying62 Try.underlying5 Try.underlying9 hown' HLT.out (by simp))
        go_ret
        rw [← HDD.out]
        exact Post.mk (honly.1 w hE hgb) rfl
    · have hm : 0 < n1 := by rw [← hn.len]; exact length_limbs_pos hA
      have HA := Lib.hid hA
      clear hA
      go_wp2_with (go_at_call 44; refine (small_any _ _ _ _ 10000000000000000000 (by omega) (by unfold B64; omega) _ hn).mono ?_; rintro e wS ⟨v, rfl, hextS, a2, n2, c2, rfl, hq⟩)
      rw [val_limbs] at hq
      obtain ⟨Q, hQ⟩ : ∃ Q, gk / 10000000000000000000 = Q := ⟨_, rfl⟩
      have hG0 : GroupOk N Q (gk % 10000000000000000000) 19 D := by rw [← hQ]; exact GroupOk.start HD.out
      have hQlt : Q < gk := by have := HA.out; omega
      rw [hQ] at hq
      obtain ⟨A, rfl⟩ : ∃ A, A = gk := ⟨_, rfl⟩
      have hES := hE.trans hextS
      have hOS := hO.ext hextS
      have hqn : n2 = 0 ↔ Q = 0 := by
        rw [← hq.len, List.length_eq_zero_iff]; exact limbs_eq_nil
      have HQN := Lib.hid hqn
      clear hqn hQ hextS hE hO hn
      go_loopg [3, 4, 5] 19 (fun k s3 s4 s5 wx => ∃ (D : List Nat) (r i : Nat), s4 = .int .u64 r ∧ s5 = .int .i64 i ∧ i + k = 19 ∧ Out wx w.heap.size s3 D ∧ Hid (GroupOk N Q r k D) ∧ Ext wS wx)
      case atStart => exact ⟨D, A % 10000000000000000000, 0, by congr 1; rw [val_limbs]; omega, rfl, rfl, hOS, Lib.hid hG0, Ext.refl _⟩
      case round =>
        clear hG0 hOS HD D
        obtain ⟨D, r, i, rfl, rfl, hik, hO, HG, hE⟩ := hrel
        by_cases hk : gk = 0
        · have hi19 : i = 19 := by omega
          have HD2 := Lib.hid (HG.out.done (.inl hk))
          clear hk hik
          subst hi19
          go_wp2
          go_roundg Q
          case rel => exact ⟨_, _, _, D, rfl, hq.ext hE, hO, HD2, hES.trans hE⟩
          case measure => exact hQlt
        · by_cases hr0 : r = 0
          · by_cases hQ0 : Q = 0
            · have HD2 := Lib.hid (HG.out.done (.inr ⟨hr0, hQ0⟩))
              have hn20 := HQN.out.2 hQ0
              have HQ0 := Lib.hid hQ0
              clear hQ0
              subst hr0
              subst hn20
              go_wp2
              go_roundg Q
              case rel => exact ⟨_, _, _, D, rfl, hq.ext hE, hO, HD2, hES.trans hE⟩
              case measure => exact hQlt
            · have hQp : 0 < Q := by omega
              have hn2 : 0 < n2 := by have := mt HQN.out.1 hQ0; omega
              have hi19 : i < 19 := by omega
              obtain ⟨gk, rfl⟩ : ∃ t, gk = t + 1 := ⟨gk - 1, by omega⟩
              clear hQ0
              have hDl := HG.out.len
              have hst := HG.out.step (.inr hQp)
              subst hr0
              have hst2 : GroupOk N Q 0 gk (D ++ [48]) := hst
              have HST := Lib.hid hst2
              clear hst hst2 HG
              rcases hO with ⟨hD, rfl⟩ | ⟨hD, g, cap, rfl, hown⟩
              · subst hD
                go_wp2_with (at_builtin; refine wpList_append_grows _ rfl _ _ 62 rfl 5 i0 (.int .u8 0) 1 1 Try.underlying62 hi hz0 hz1 hz2 rfl (by decide) none 0 0 [] rfl (fun _ => ⟨rfl, rfl⟩) rfl (fun b h => by cases h) ⟨wr.heap.size, 0, none⟩ 1 1 [.int .u8 48] rfl rfl (cell_one_new _ _ _) (by simp [Value.oneCell']) (by omega) (by unfold maxLen; omega) (by omega) ?_; intro v' wG hown' hgrow)
                go_roundg gk
                case rel =>
                  rw [List.nil_append] at HST
                  exact ⟨[48], 0, i + 1, rfl, by go_num, by omega, Out.of_own (D := []) hown' (by have h1 := hE.size; have h2 := hES.size; simp; omega), HST, (hE.alloc _).grown hgrow (fun k e => by cases e)⟩
                case measure => omega
              · have hcap := own_cap hown
                have hpos : 0 < D.length := List.length_pos_iff.2 hD
                have HO := Lib.hid hown
                clear hown
                go_wp2_with (at_builtin; refine wpList_append_grows _ rfl _ _ 62 rfl 5 i0 (.int .u8 0) 1 1 Try.underlying62 hi hz0 hz1 hz2 rfl (by decide) (some ⟨g, 0, none⟩) D.length D.length (bys D) rfl (fun h => by cases h) (by simp [length_bys]) (fun b h j u hu => by cases h; exact (HO.out.alloc _).cells rfl j u hu) ⟨wr.heap.size, 0, none⟩ 1 1 [.int .u8 48] rfl rfl (cell_one_new _ _ _) (by simp [Value.oneCell']) (by omega) (by unfold maxLen; omega) (by omega) ?_; intro v' wG hown' hgrow)
                go_roundg gk
                case rel =>
                  exact ⟨D ++ [48], 0, i + 1, rfl, by go_num, by omega, Out.of_own hown' (by have h1 := hE.size; have h2 := hES.size; simp; omega), HST, (hE.alloc _).grown hgrow (fun k e => by cases e)⟩
                case measure => omega
          · have hrp : 0 < r := by omega
            have hi19 : i < 19 := by omega
            obtain ⟨gk, rfl⟩ : ∃ t, gk = t + 1 := ⟨gk - 1, by omega⟩
            have hDl := HG.out.len
            have hst := HG.out.step (.inl hrp)
            obtain ⟨d, hd⟩ : ∃ d, r % 10 = d := ⟨_, rfl⟩
            rw [hd] at hst
            have hst2 : GroupOk N Q (r / 10) gk (D ++ [48 + d]) := hst
            have HST := Lib.hid hst2
            have ed : (r : Int) % 10 = d := by omega
            have hd10 : d < 10 := by omega
            have hr64 : r < 18446744073709551616 := Nat.lt_of_lt_of_le HG.out.2 (Nat.le_trans (Nat.pow_le_pow_right (by omega) (show gk + 1 ≤ 19 by omega)) (by omega))
            have ex : (48 : Int) + d = ((48 + d : Nat) : Int) := by omega
            have HEX := Lib.hid ex
            have HDD := Lib.hid hd
            clear hst hst2 hd ex HG hr0
            rcases hO with ⟨hD, rfl⟩ | ⟨hD, g, cap, rfl, hown⟩
            · subst hD
              go_wp2_with (at_builtin; refine wpList_append_grows _ rfl _ _ 62 rfl 5 i0 (.int .u8 0) 1 1 Try.underlying62 hi hz0 hz1 hz2 rfl (by decide) none 0 0 [] rfl (fun _ => ⟨rfl, rfl⟩) rfl (fun b h => by cases h) ⟨wr.heap.size, 0, none⟩ 1 1 [.int .u8 (48 + (d : Int))] rfl rfl (cell_one_new _ _ _) (by simp [Value.oneCell']) (by omega) (by unfold maxLen; omega) (by omega) ?_; intro v' wG hown' hgrow)
              go_roundg gk
              case rel =>
                rw [List.nil_append] at HST
                rw [HEX.out] at hown'
                exact ⟨[48 + d], r / 10, i + 1, by congr 1 <;> omega, by go_num, by omega, Out.of_own (D := []) hown' (by have h1 := hE.size; have h2 := hES.size; simp; omega), HST, (hE.alloc _).grown hgrow (fun k e => by cases e)⟩
              case measure => omega
            · have hcap := own_cap hown
              have hpos : 0 < D.length := List.length_pos_iff.2 hD
              have HO := Lib.hid hown
              clear hown
              go_wp2_with (at_builtin; refine wpList_append_grows _ rfl _ _ 62 rfl 5 i0 (.int .u8 0) 1 1 Try.underlying62 hi hz0 hz1 hz2 rfl (by decide) (some ⟨g, 0, none⟩) D.length D.length (bys D) rfl (fun h => by cases h) (by simp [length_bys]) (fun b h j u hu => by cases h; exact (HO.out.alloc _).cells rfl j u hu) ⟨wr.heap.size, 0, none⟩ 1 1 [.int .u8 (48 + (d : Int))] rfl rfl (cell_one_new _ _ _) (by simp [Value.oneCell']) (by omega) (by unfold maxLen; omega) (by omega) ?_; intro v' wG hown' hgrow)
              go_roundg gk
              case rel =>
                rw [HEX.out] at hown'
                exact ⟨D ++ [48 + d], r / 10, i + 1, by congr 1 <;> omega, by go_num, by omega, Out.of_own hown' (by have h1 := hE.size; have h2 := hES.size; simp; omega), HST, (hE.alloc _).grown hgrow (fun k e => by cases e)⟩
              case measure => omega
end Go.Proofs.Ytnecpkoibknacaa

namespace Go.Proofs.Ytnecpkoibknacaa
open Go.RowKit

theorem text_zero (a : Option Addr) (n c : Nat) (xs : List Nat) (w : World) (h : Nums w a n c xs) (h0 : val xs = 0) :
    Calls Try.prog 23 #[.slice a n c] w (Post w fun v _ => v = .string (txt [48])) := by
  have hno : [xs].any isLong = false := by rw [any_one]; exact isLong_false (by rw [h0]; exact Top_pos)
  have HNO := Lib.hid hno
  have H0 := Lib.hid h0
  clear hno h0
  go_enter Try.func23, Try.ntmps23
  go_wp2_with (first
    | (go_at_call 42; refine (long_any _ _ _ [xs] _ (NumsL.one (by simp) (h.ext (Ext.of_alloc _ _)))).mono ?_; rintro e w2 ⟨v, rfl, hext2, rfl⟩; rw [HNO.out]; have hn2 := h.ext ((Ext.of_alloc _ _).trans hext2); have hE2 := (Ext.of_alloc w _).trans hext2; clear h hext2)
    | (go_at_call 41; refine (normal_any _ _ _ _ _ hn2).mono ?_; rintro e w3 ⟨v, rfl, hext3, a', n', c', rfl, hn⟩; rw [H0.out, limbs_zero] at hn; obtain rfl : n' = 0 := hn.len.symm))
  go_ret
  exact Post.mk (hE2.trans hext3) rfl
theorem text_any (a : Option Addr) (n c : Nat) (xs : List Nat) (w : World) (h : Nums w a n c xs) (hf : val xs < Top) :
    Calls Try.prog 23 #[.slice a n c] w (Post w fun v _ => v = .string (txt (decT (val xs)))) := by
  unfold decT
  by_cases h0 : val xs = 0
  · rw [if_pos h0]; exact text_zero a n c xs w h h0
  · rw [if_neg h0]; exact text_main a n c xs w h hf h0

/-- The closure that Parse hands out: is this byte no digit? -/
theorem notDigit_any (x : Nat) (hx : x < 256) (w : World) :
    Calls Try.prog 58 #[.int .u8 x] w fun e w' => e = .returned (.bool (decide (x < 48 ∨ 57 < x))) ∧ w' = w := by
  by_cases h1 : x < 48
  · have e : decide (x < 48 ∨ 57 < x) = true := by simp [h1]
    rw [e]
    go_enter Try.func58, Try.ntmps58
    go_wp2
    go_ret
    exact ⟨rfl, rfl⟩
  · have e : (decide ((x : Int) < 48) || decide ((57 : Int) < x)) = decide (x < 48 ∨ 57 < x) := by
      rw [Bool.eq_iff_iff]; simp; omega
    have H1 := Lib.hid h1
    rw [← e]
    clear e h1
    by_cases h2 : 57 < x
    · have h1 := H1.out
      go_enter Try.func58, Try.ntmps58
      go_wp2
      go_ret
      exact ⟨rfl, rfl⟩
    · have h1 := H1.out
      go_enter Try.func58, Try.ntmps58
      go_wp2
      go_ret
      exact ⟨rfl, rfl⟩

/-- Where the first byte stands that is no digit. -/
def firstBad : List Nat → Nat → Int
  | [], _ => -1
  | x :: l, k => if x < 48 ∨ 57 < x then (k : Int) else firstBad l (k + 1)
theorem firstBad_drop (L : List Nat) (k : Nat) (hk : k < L.length) : firstBad (L.drop k) k = if L[k]?.getD 0 < 48 ∨ 57 < L[k]?.getD 0 then (k : Int) else firstBad (L.drop (k + 1)) (k + 1) := by
  rw [List.drop_eq_getElem_cons hk, firstBad, List.getElem?_eq_getElem hk]
  rfl
theorem firstBad_iff (L : List Nat) (k : Nat) : 0 ≤ firstBad L k ↔ L.any (fun x => decide (x < 48 ∨ 57 < x)) = true := by
  induction L generalizing k with
  | nil => simp [firstBad]
  | cons x L ih =>
    rw [firstBad, List.any_cons]
    by_cases h : x < 48 ∨ 57 < x
    · rw [if_pos h]; simp [h]
    · rw [if_neg h, ih]; simp [h]
end Go.Proofs.Ytnecpkoibknacaa

namespace Go.Proofs.Ytnecpkoibknacaa
open Go.RowKit

set_option maxRecDepth 100000 in
set_option maxHeartbeats 1000000 in
theorem index_bytes (b n cap : Nat) (L : List Nat) (hn : L.length = n) (hf : n ≤ 1000000) (hL : ∀ x ∈ L, x < 256) (w : World) (hc : ∀ i, i < n → w.cell? ⟨b, i, none⟩ = some (.int .u8 ((L[i]?.getD 0 : Nat) : Int))) :
    Calls Try.prog 69 #[.slice (some ⟨b, 0, none⟩) n cap, .func (.func 58) #[] #[]] w fun e w' => e = .returned (.int .i64 (firstBad L 0)) ∧ w' = w := by
  subst hn
  go_enter Try.func69, Try.ntmps69
  go_wp2
  go_loop [8] (fun i => ∃ k : Nat, k ≤ L.length ∧ i = .int .i64 k ∧ Hid (firstBad L 0 = firstBad (L.drop k) k)) (fun i => L.length - (intOf i).toNat)
  case atStart => exact ⟨0, Nat.zero_le _, rfl, Lib.hid rfl⟩
  case round =>
    obtain ⟨k, hk, rfl, HK⟩ := hrel
    by_cases hlt : k < L.length
    · have hcell := hc k hlt
      have hx : L[k]?.getD 0 < 256 := by rw [List.getElem?_eq_getElem hlt]; exact hL _ (List.getElem_mem hlt)
      have hstep := firstBad_drop L k hlt
      generalize L[k]?.getD 0 = x at *
      have hcl := notDigit_any x hx
      have HS := Lib.hid hstep
      clear hstep hc hL
      by_cases hbad : x < 48 ∨ 57 < x
      · have hb : decide (x < 48 ∨ 57 < x) = true := decide_eq_true hbad
        rw [hb] at hcl
        have HB := Lib.hid hbad
        clear hb hbad
        go_wp2_with (go_at_call 58; refine (hcl _).mono ?_; rintro e w' ⟨rfl, rfl⟩)
        go_ret
        refine ⟨?_, rfl⟩
        rw [HK.out, HS.out, if_pos HB.out]
        rfl
      · have hb : decide (x < 48 ∨ 57 < x) = false := decide_eq_false hbad
        rw [hb] at hcl
        have HB := Lib.hid hbad
        clear hb hbad
        go_wp2_with (go_at_call 58; refine (hcl _).mono ?_; rintro e w' ⟨rfl, rfl⟩)
        go_round
        case rel => exact ⟨k + 1, by omega, by go_num, Lib.hid (by rw [HK.out, HS.out, if_neg HB.out])⟩
        case measure => simp only [intOf]; omega
    · have : k = L.length := by omega
      subst this
      have h := HK.out
      rw [List.drop_length, firstBad] at h
      have H := Lib.hid h
      clear h hc
      go_wp2
      go_ret
      rw [H.out]
      exact ⟨rfl, rfl⟩
theorem contains_bytes (b n cap : Nat) (L : List Nat) (hn : L.length = n) (hf : n ≤ 1000000) (hL : ∀ x ∈ L, x < 256) (w : World) (hc : ∀ i, i < n → w.cell? ⟨b, i, none⟩ = some (.int .u8 ((L[i]?.getD 0 : Nat) : Int))) :
    Calls Try.prog 57 #[.slice (some ⟨b, 0, none⟩) n cap, .func (.func 58) #[] #[]] w fun e w' => e = .returned (.bool (L.any fun x => decide (x < 48 ∨ 57 < x))) ∧ w' = w := by
  have hi := index_bytes b n cap L hn hf hL w hc
  have hb := firstBad_iff L 0
  generalize firstBad L 0 = v at *
  cases hany : L.any fun x => decide (x < 48 ∨ 57 < x) with
  | true =>
    rw [hany] at hb
    have hv : 0 ≤ v := hb.2 rfl
    clear hb hany hc hL
    go_enter Try.func57, Try.ntmps57
    go_wp2_with (go_at_call 69; refine hi.mono ?_; rintro e w' ⟨rfl, rfl⟩)
    go_ret
    exact ⟨rfl, rfl⟩
  | false =>
    rw [hany] at hb
    have hv : ¬ 0 ≤ v := fun h => by cases hb.1 h
    clear hb hany hc hL
    go_enter Try.func57, Try.ntmps57
    go_wp2_with (go_at_call 69; refine hi.mono ?_; rintro e w' ⟨rfl, rfl⟩)
    go_ret
    refine ⟨?_, rfl⟩
    show Ending.returned (.bool (decide (0 ≤ v))) = _
    rw [decide_eq_false (by omega)]
end Go.Proofs.Ytnecpkoibknacaa

namespace Go.Proofs.Ytnecpkoibknacaa
open Go.RowKit

/-- The number that bytes of digits tell. -/
def numOf (l : List Nat) : Nat := l.foldl (fun a c => a * 10 + (c - 48)) 0
theorem numOf_snoc (l : List Nat) (c : Nat) : numOf (l ++ [c]) = numOf l * 10 + (c - 48) := by simp [numOf]
/-- A string's bytes as numbers. -/
def bts (s : ByteArray) : List Nat := s.data.toList.map (·.toNat)
theorem length_bts (s : ByteArray) : (bts s).length = s.size := by simp [bts]

/-- A string turned to bytes. -/
theorem run_bytes {P : Program} (w : World) (src dst e : TypeId) (s : ByteArray) (hs : P.underlying src = some .string) (hd : P.underlying dst = some (.slice e)) (he : P.underlying e = some (.int .u8)) :
    ∃ C W, (convert src dst (.string s)).run P w = .ok (.slice (some ⟨w.heap.size, 0, none⟩) s.size C) W ∧ Ext w W ∧ ∀ i, i < s.size → W.cell? ⟨w.heap.size, i, none⟩ = some (.int .u8 (((bts s)[i]?.getD 0 : Nat) : Int)) := by
  refine ⟨_, _, run_bytes_of_string (P := P) w src dst e s hs hd he, ((Ext.refl w).drew).alloc _, fun i hi => ?_⟩
  have := World.cell?_alloc_mark w.drew (bytesRow s (grownCap w s.size 0 e)) e ((bytesRow s (grownCap w s.size 0 e)).size, (bytesRow s (grownCap w s.size 0 e)).size + 1) i
  refine this.trans ?_
  rw [bytesRow_at s _ i hi]
  simp [bts]
  rw [Array.getElem?_eq_getElem hi]
  rfl

/-- What is kept while a group of digits is read. -/
def ReadOk (L : List Nat) (i t nn b : Nat) : Prop := b = 10 ^ t ∧ nn < 10 ^ t ∧ numOf (L.take (i + t)) = numOf (L.take i) * 10 ^ t + nn
theorem ReadOk.start (L : List Nat) (i : Nat) : ReadOk L i 0 0 1 := ⟨rfl, by simp, by simp⟩
theorem ReadOk.step {L : List Nat} {i t nn b c : Nat} (h : ReadOk L i t nn b) (hi : i + t < L.length) (hc : L[i + t]?.getD 0 = c) (h1 : 48 ≤ c) (h2 : c ≤ 57) : ReadOk L i (t + 1) (nn * 10 + (c - 48)) (b * 10) := by
  obtain ⟨hb, hn, hv⟩ := h
  refine ⟨by rw [hb, Nat.pow_succ], by rw [Nat.pow_succ]; omega, ?_⟩
  rw [← Nat.add_assoc, List.take_add_one, List.getElem?_eq_getElem hi]
  rw [List.getElem?_eq_getElem hi] at hc
  rw [show L[i + t] = c from hc]
  show numOf (_ ++ [c]) = _
  rw [numOf_snoc, hv, Nat.pow_succ, Nat.add_mul, Nat.mul_assoc, Nat.add_assoc]

theorem numOf_append_le (l r : List Nat) : numOf l ≤ numOf (l ++ r) := by
  induction r using snoc_ind with
  | h0 => simp
  | h1 r c ih => rw [← List.append_assoc, numOf_snoc]; omega
theorem numOf_take_le (L : List Nat) (k : Nat) : numOf (L.take k) ≤ numOf L := by
  conv => rhs; rw [← List.take_append_drop k L]
  exact numOf_append_le _ _
theorem isEmpty_of_size {s : ByteArray} (h : 0 < s.size) : s.toList.isEmpty = false := by
  rw [ByteArray.toList_eq]
  cases hl : s.data.toList with
  | nil =>
    have : s.data.toList.length = 0 := by rw [hl]; rfl
    simp at this
    rw [this] at h
    exact absurd h (by decide)
  | cons => rfl
/-- The byte at a place, as a number, is a digit. -/
theorem digit_bd {s : ByteArray} (hd : (bts s).any (fun x => decide (x < 48 ∨ 57 < x)) = false) {i : Nat} (hi : i < s.size) : 48 ≤ s[i].toNat ∧ s[i].toNat ≤ 57 ∧ (bts s)[i]?.getD 0 = s[i].toNat := by
  have e : (bts s)[i]? = some s[i].toNat := by
    have h2 : s.data.toList[i]? = some s[i] := by
      rw [List.getElem?_eq_getElem (by simpa using hi)]; rfl
    rw [bts, List.getElem?_map, h2]; rfl
  rw [List.any_eq_false] at hd
  have := hd _ (List.mem_of_getElem? e)
  simp at this
  refine ⟨by omega, by omega, by rw [e]; rfl⟩
theorem pow18 {t : Nat} (h : t < 18) : 10 ^ t < 1000000000000000000 := Nat.lt_of_lt_of_le (Nat.pow_lt_pow_right (by omega) h) (by omega)
theorem pow18_le {t : Nat} (h : t ≤ 18) : 10 ^ t ≤ 1000000000000000000 := Nat.le_trans (Nat.pow_le_pow_right (by omega) h) (by omega)
theorem fit_some {m : Nat} (h : m < Top) : fit m = some m := by unfold fit; exact if_pos h
theorem fit_none {m : Nat} (h : ¬ m < Top) : fit m = none := by unfold fit; exact if_neg h
theorem few_of_top {w : World} {a : Option Addr} {n c m : Nat} (h : Nums w a n c (limbs m)) (hm : m < Top) : n ≤ 2048 := by
  rw [← h.len]; exact (fits_iff m).2 hm

set_option maxRecDepth 100000 in
set_option maxHeartbeats 2000000 in
theorem parse_main (s : ByteArray) (w : World) (h0 : 0 < s.size) (hl : s.size ≤ 40000) (hd : (bts s).any (fun x => decide (x < 48 ∨ 57 < x)) = false) :
    Calls Try.prog 24 #[.string s] w (Post w fun v w' => NRes w' v (fit (numOf (bts s)))) := by
  obtain ⟨C, W, hconv, hE, hcells⟩ := run_bytes (P := Try.prog) w 9 62 5 s Try.underlying9 Try.underlying62 Try.underlying5
  have hemp : s.toList.isEmpty = false := isEmpty_of_size h0
  have hb : ∀ x ∈ bts s, x < 256 := by
    intro x hx
    obtain ⟨u, _, rfl⟩ := List.mem_map.1 hx
    exact u.toNat_lt
  have hct := contains_bytes w.heap.size s.size C (bts s) (length_bts s) (by omega) hb W hcells
  rw [hd] at hct
  have HD := Lib.hid hd
  clear hd hcells hb
  go_enter Try.func24, Try.ntmps24
  go_wp2_with (go_at_call 57; refine hct.mono ?_; rintro e w' ⟨rfl, rfl⟩)
  go_loopg [4, 5] s.size (fun g s4 s5 wr => ∃ (a : Option Addr) (n c i : Nat), s4 = .slice a n c ∧ s5 = .int .i64 i ∧ i + g = s.size ∧ Nums wr a n c (limbs (numOf ((bts s).take i))) ∧ Hid (numOf ((bts s).take i) < Top) ∧ Ext w wr)
  case atStart => exact ⟨none, 0, 0, 0, rfl, rfl, by omega, by simp [numOf, limbs_zero]; exact Nums.nil _ _ _, Lib.hid (by simp [numOf]; exact Top_pos), hE⟩
  case round =>
    obtain ⟨a, n, c, i, rfl, rfl, hig, hn, HF, hE1⟩ := hrel
    by_cases h00 : gk = 0
    · obtain rfl : i = s.size := by omega
      have HF' := HF.out
      rw [List.take_of_length_le (by rw [length_bts]; exact Nat.le_refl _)] at hn HF'
      have HF2 := Lib.hid HF'
      clear HF'
      clear h00 hig hct hconv
      go_wp2
      go_ret2
      rw [fit_some HF2.out]
      exact Post.mk hE1 ⟨_, _, _, rfl, hn⟩
    · have hi : i < s.size := by omega
      go_wp2
      have hstart := ReadOk.start (bts s) i
      obtain ⟨wo, rfl⟩ : ∃ x, x = wr := ⟨_, rfl⟩
      obtain ⟨go, rfl⟩ : ∃ x, x = gk := ⟨_, rfl⟩
      go_loopg [5, 6, 7] go (fun g s5 s6 s7 wx => ∃ (i' t nn b : Nat), s5 = .int .i64 i' ∧ s6 = .int .u64 nn ∧ s7 = .int .u64 b ∧ i' + g = s.size ∧ Hid (i' = i + t) ∧ t ≤ 18 ∧ wo = wx ∧ Hid (ReadOk (bts s) i t nn b))
      case atStart => exact ⟨i, 0, 0, 1, rfl, rfl, rfl, hig, Lib.hid rfl, by omega, rfl, Lib.hid hstart⟩
      case round =>
        clear hstart
        obtain ⟨i', t, nn, b, rfl, rfl, rfl, hig', HIT, ht, rfl, HR⟩ := hrel
        by_cases hgo : i' < s.size ∧ t < 18
        · obtain ⟨hlt, htl⟩ := hgo
          have hb9 := pow18 htl
          rw [← HR.out.1] at hb9
          have hb10 : (b : Int) < 1000000000000000000 := by omega
          have hn10 := Nat.lt_of_lt_of_le HR.out.2.1 (pow18_le ht)
          have hn9 : (nn : Int) < 1000000000000000000 := by omega
          obtain ⟨hx1, hx2, hx3⟩ := digit_bd HD.out hlt
          have HX3 := Lib.hid hx3
          clear hb9 hn10 hx3
          obtain ⟨u, hget⟩ : ∃ u : UInt8, s[i'] = u := ⟨_, rfl⟩
          rw [hget] at hx1 hx2 HX3
          obtain ⟨x, hx⟩ : ∃ x : Nat, u.toNat = x := ⟨_, rfl⟩
          rw [hx] at hx1 hx2 HX3
          have hx1' : (48 : Int) ≤ x := by omega
          have hx2' : (x : Int) ≤ 57 := by omega
          go_wp2
          obtain ⟨gn, rfl⟩ : ∃ q, gk = q + 1 := ⟨gk - 1, by omega⟩
          go_roundg gn
          case rel => exact ⟨i' + 1, t + 1, nn * 10 + (x - 48), b * 10, by go_num, by congr 1; omega, by go_num, by omega, Lib.hid (by rw [HIT.out]; rfl), by omega, rfl, Lib.hid (HR.out.step (by rw [← HIT.out, length_bts]; exact hlt) (by rw [← HIT.out]; exact HX3.out) hx1 hx2)⟩
          case measure => omega
        · have hstop : (i' < s.size → t = 18) := by omega
          have ht0 : 0 < t := by
            have := HIT.out
            omega
          have hb9 : 0 < b ∧ b ≤ 1000000000000000000 := by rw [HR.out.1]; exact ⟨Nat.pow_pos (by omega), pow18_le ht⟩
          have hn9 := Nat.lt_of_lt_of_le HR.out.2.1 (pow18_le ht)
          have hv : val (limbs (numOf ((bts s).take i))) * val [b] + nn = numOf ((bts s).take i') := by
            rw [HIT.out, HR.out.2.2, val_limbs, val_one, HR.out.1]
          have hv1 : val (limbs (numOf ((bts s).take i))) < Top := by rw [val_limbs]; exact HF.out
          have hvb : val [b] < Top := by rw [val_one]; exact Nat.lt_of_lt_of_le (by unfold B64; omega) Top_big
          have hle := numOf_take_le (bts s) i'
          have HV := Lib.hid hv
          have HT := Lib.hid (And.intro hv1 hvb)
          have hbb : b < B64 := by unfold B64; omega
          have hnb : nn < B64 := by unfold B64; omega
          have HB := Lib.hid (And.intro hbb hnb)
          have hb1 : (b : Int) ≤ 1000000000000000000 := by omega
          have hn1 : (nn : Int) < 1000000000000000000 := by omega
          have hgk : gk < go := by have := HIT.out; omega
          have hcase : ¬ i' < s.size ∨ (i' < s.size ∧ ¬ (b : Int) < 1000000000000000000) := by
            by_cases hlt : i' < s.size
            · right; have := HR.out.1; rw [hstop hlt] at this; omega
            · left; exact hlt
          generalize hA : limbs (numOf ((bts s).take i)) = A at *
          have HLE := Lib.hid hle
          clear hv hv1 hvb hgo hb9 hn9 hbb hnb hA hstop hle
          rcases hcase with hlt | ⟨hlt, hbn⟩
          all_goals
            by_cases hp : val A * val [b] < Top
            · have HP := Lib.hid hp
              clear hp
              by_cases hq : numOf ((bts s).take i') < Top
              · have HQ := Lib.hid hq
                clear hq
                go_wp2_with (first
                  | (go_at_call 29; refine (mul_any _ _ _ _ _ _ A [b] _ (hn.ext (Ext.of_alloc _ _)) (Nums.one (by simp) HB.out.1 (by omega)) HT.out.1 HT.out.2).mono ?_; rintro e w2 ⟨v, rfl, hext2, hres⟩; rw [fit_some HP.out] at hres; obtain ⟨am, nm, cm, rfl, hm⟩ := hres)
                  | (go_at_call 28; refine (add_any _ _ _ _ _ _ _ [nn] _ (hm.ext (Ext.of_alloc _ _)) (Nums.one (by simp) HB.out.2 (by omega)) (by have := few_of_top hm HP.out; omega) (by omega)).mono ?_; rintro e w3 ⟨v, rfl, hext3, hres⟩; rw [val_limbs, val_one nn, HV.out, fit_some HQ.out] at hres; obtain ⟨a3, n3, c3, rfl, hs⟩ := hres))
                go_roundg gk
                case rel => exact ⟨_, _, _, i', rfl, rfl, hig', hs, HQ, hE1.trans (((Ext.of_alloc _ _).trans hext2).trans ((Ext.of_alloc _ _).trans hext3))⟩
                case measure => exact hgk
              · have HQ := Lib.hid hq
                clear hq
                go_wp2_with (first
                  | (go_at_call 29; refine (mul_any _ _ _ _ _ _ A [b] _ (hn.ext (Ext.of_alloc _ _)) (Nums.one (by simp) HB.out.1 (by omega)) HT.out.1 HT.out.2).mono ?_; rintro e w2 ⟨v, rfl, hext2, hres⟩; rw [fit_some HP.out] at hres; obtain ⟨am, nm, cm, rfl, hm⟩ := hres)
                  | (go_at_call 28; refine (add_any _ _ _ _ _ _ _ [nn] _ (hm.ext (Ext.of_alloc _ _)) (Nums.one (by simp) HB.out.2 (by omega)) (by have := few_of_top hm HP.out; omega) (by omega)).mono ?_; rintro e w3 ⟨v, rfl, hext3, hres⟩; rw [val_limbs, val_one nn, HV.out, fit_none HQ.out] at hres; obtain rfl := hres))
                go_ret2
                rw [fit_none (fun h => HQ.out (Nat.lt_of_le_of_lt HLE.out h))]
                exact Post.mk (hE1.trans (((Ext.of_alloc _ _).trans hext2).trans ((Ext.of_alloc _ _).trans hext3))) rfl
            · have HP := Lib.hid hp
              clear hp
              go_wp2_with (go_at_call 29; refine (mul_any _ _ _ _ _ _ A [b] _ (hn.ext (Ext.of_alloc _ _)) (Nums.one (by simp) HB.out.1 (by omega)) HT.out.1 HT.out.2).mono ?_; rintro e w2 ⟨v, rfl, hext2, hres⟩; rw [fit_none HP.out] at hres; obtain rfl := hres)
              go_ret2
              rw [fit_none (fun h => HP.out (Nat.lt_of_le_of_lt (by have := HV.out; have := HLE.out; omega) h))]
              exact Post.mk (hE1.trans ((Ext.of_alloc _ _).trans hext2)) rfl
end Go.Proofs.Ytnecpkoibknacaa

namespace Go.Proofs.Ytnecpkoibknacaa
open Go.RowKit

theorem parse_long (s : ByteArray) (w : World) (hl : 40000 < s.size) (hm : s.size ≤ 9223372036854775807) :
    Calls Try.prog 24 #[.string s] w (Post w fun v _ => v = .tuple #[.slice none 0 0, .int .i64 3]) := by
  go_enter Try.func24, Try.ntmps24
  go_wp2
  go_ret2
  exact Post.mk (Ext.refl _) rfl
theorem parse_empty (s : ByteArray) (w : World) (h0 : s.size = 0) :
    Calls Try.prog 24 #[.string s] w (Post w fun v _ => v = .tuple #[.slice none 0 0, .int .i64 5]) := by
  have hemp : s.toList.isEmpty = true := by
    rw [ByteArray.toList_eq]
    have : s.data.toList = [] := List.eq_nil_of_length_eq_zero (by simpa using h0)
    rw [this]; rfl
  have hs : s.size ≤ 10 := by omega
  clear h0
  go_enter Try.func24, Try.ntmps24
  go_wp2
  go_ret2
  exact Post.mk (Ext.refl _) rfl
theorem parse_bad (s : ByteArray) (w : World) (h0 : 0 < s.size) (hl : s.size ≤ 40000) (hd : (bts s).any (fun x => decide (x < 48 ∨ 57 < x)) = true) :
    Calls Try.prog 24 #[.string s] w (Post w fun v _ => v = .tuple #[.slice none 0 0, .int .i64 5]) := by
  obtain ⟨C, W, hconv, hE, hcells⟩ := run_bytes (P := Try.prog) w 9 62 5 s Try.underlying9 Try.underlying62 Try.underlying5
  have hemp : s.toList.isEmpty = false := isEmpty_of_size h0
  have hb : ∀ x ∈ bts s, x < 256 := by
    intro x hx
    obtain ⟨u, _, rfl⟩ := List.mem_map.1 hx
    exact u.toNat_lt
  have hct := contains_bytes w.heap.size s.size C (bts s) (length_bts s) (by omega) hb W hcells
  rw [hd] at hct
  clear hd hcells hb
  go_enter Try.func24, Try.ntmps24
  go_wp2_with (go_at_call 57; refine hct.mono ?_; rintro e w' ⟨rfl, rfl⟩)
  go_ret2
  exact Post.mk hE rfl
/-- Is a text digits, and some? -/
def Digits (s : ByteArray) : Prop := 0 < s.size ∧ (bts s).any (fun x => decide (x < 48 ∨ 57 < x)) = false
/-- What Parse tells. -/
def ParseRes (s : ByteArray) (w : World) (v : Value) : Prop :=
  (40000 < s.size → v = .tuple #[.slice none 0 0, .int .i64 3]) ∧
  (s.size ≤ 40000 → ¬ Digits s → v = .tuple #[.slice none 0 0, .int .i64 5]) ∧
  (s.size ≤ 40000 → Digits s → NRes w v (fit (numOf (bts s))))
theorem parse_any (s : ByteArray) (w : World) (hm : s.size ≤ 9223372036854775807) :
    Calls Try.prog 24 #[.string s] w (Post w fun v w' => ParseRes s w' v) := by
  by_cases hl : 40000 < s.size
  · refine (parse_long s w hl hm).mono ?_
    rintro e w' ⟨v, rfl, hext, h⟩
    exact Post.mk hext ⟨fun _ => h, fun h => by omega, fun h => by omega⟩
  · by_cases h0 : s.size = 0
    · refine (parse_empty s w h0).mono ?_
      rintro e w' ⟨v, rfl, hext, h⟩
      exact Post.mk hext ⟨fun h => by omega, fun _ _ => h, fun _ hd => by have := hd.1; omega⟩
    · cases hd : (bts s).any (fun x => decide (x < 48 ∨ 57 < x)) with
      | true =>
        refine (parse_bad s w (by omega) (by omega) hd).mono ?_
        rintro e w' ⟨v, rfl, hext, h⟩
        exact Post.mk hext ⟨fun h => by omega, fun _ _ => h, fun _ hd' => by have := hd'.2; rw [hd] at this; cases this⟩
      | false =>
        refine (parse_main s w (by omega) (by omega) hd).mono ?_
        rintro e w' ⟨v, rfl, hext, h⟩
        exact Post.mk hext ⟨fun h => by omega, fun _ hnd => absurd ⟨by omega, hd⟩ hnd, fun _ _ => h⟩
end Go.Proofs.Ytnecpkoibknacaa

namespace Go.Proofs.Ytnecpkoibknacaa
open Go.RowKit

/-- The value reads as limbs that come to m. -/
def IsN (w : World) (v : Value) (m : Nat) : Prop := ∃ a n c xs, v = .slice a n c ∧ Nums w a n c xs ∧ n ≤ 4096 ∧ val xs = m
/-- The value is the number m, normal. -/
def Num (w : World) (v : Value) (m : Nat) : Prop := m < Top ∧ ∃ a n c, v = .slice a n c ∧ Nums w a n c (limbs m)
theorem IsN.ext {w w' : World} {v : Value} {m : Nat} (h : IsN w v m) (e : Ext w w') : IsN w' v m := by
  obtain ⟨a, n, c, xs, rfl, h, hn, hv⟩ := h
  exact ⟨a, n, c, xs, rfl, h.ext e, hn, hv⟩
theorem Num.ext {w w' : World} {v : Value} {m : Nat} (h : Num w v m) (e : Ext w w') : Num w' v m := by
  obtain ⟨ht, a, n, c, rfl, h⟩ := h
  exact ⟨ht, a, n, c, rfl, h.ext e⟩
theorem Num.is {w : World} {v : Value} {m : Nat} (h : Num w v m) : IsN w v m := by
  obtain ⟨ht, a, n, c, rfl, h⟩ := h
  exact ⟨a, n, c, _, rfl, h, by have := few_of_top h ht; omega, val_limbs m⟩
theorem Num.lt {w : World} {v : Value} {m : Nat} (h : Num w v m) : m < Top := h.1
theorem Num.nil (w : World) : Num w (.slice none 0 0) 0 := ⟨Top_pos, none, 0, 0, rfl, by rw [limbs_zero]; exact Nums.nil _ _ _⟩
theorem Num.at {w : World} {v : Value} {m n : Nat} (h : Num w v m) (e : m = n) : Num w v n := e ▸ h
theorem IsN.at {w : World} {v : Value} {m n : Nat} (h : IsN w v m) (e : m = n) : IsN w v n := e ▸ h
theorem IsN.of {w : World} {a : Option Addr} {n c : Nat} {xs : List Nat} (h : Nums w a n c xs) (hn : n ≤ 4096) : IsN w (.slice a n c) (val xs) := ⟨a, n, c, xs, rfl, h, hn, rfl⟩
theorem IsN.one {w : World} {b x c : Nat} (h : w.cell? ⟨b, 0, none⟩ = some (.int .u64 x)) (hx : x < B64) (hc : 1 ≤ c) : IsN w (.slice (some ⟨b, 0, none⟩) 1 c) x :=
  ⟨_, _, _, _, rfl, Nums.one h hx hc, by omega, val_one x⟩
/-- A number and no error. -/
def NOk (w : World) (v : Value) (m : Nat) : Prop := ∃ x, v = .tuple #[x, .int .i64 0] ∧ Num w x m
theorem NRes.ok {w : World} {v : Value} {m : Nat} (h : NRes w v (some m)) (ht : m < Top) : NOk w v m := by
  obtain ⟨a, n, c, rfl, h⟩ := h
  exact ⟨_, rfl, ht, a, n, c, rfl, h⟩
theorem NRes.fit_ok {w : World} {v : Value} {m : Nat} (h : NRes w v (fit m)) (ht : m < Top) : NOk w v m := by
  rw [fit_some ht] at h; exact h.ok ht

theorem of_n {x : Nat} (hx : x < B64) (w : World) : Calls Try.prog 32 #[.int .u64 x] w (Post w fun v w' => Num w' v x) := by
  refine (of_any x hx w).mono ?_
  rintro e w' ⟨v, rfl, hext, a, n, c, rfl, hn⟩
  exact Post.mk hext ⟨Nat.lt_of_lt_of_le hx Top_big, a, n, c, rfl, hn⟩
theorem norm_n {w : World} {v : Value} {m : Nat} (h : IsN w v m) (ht : m < Top) : Calls Try.prog 34 #[v] w (Post w fun v w' => NOk w' v m) := by
  obtain ⟨a, n, c, xs, rfl, h, hn, rfl⟩ := h
  refine (norm_any a n c xs w h).mono ?_
  rintro e w' ⟨v, rfl, hext, h⟩
  exact Post.mk hext (h.fit_ok ht)
theorem bits_n {w : World} {v : Value} {m : Nat} (h : IsN w v m) : Calls Try.prog 33 #[v] w (Post w fun v _ => v = .int .i64 (blen m)) := by
  obtain ⟨a, n, c, xs, rfl, h, hn, rfl⟩ := h
  exact bits_any a n c xs w h
theorem cmp_n {w : World} {v1 v2 : Value} {m1 m2 : Nat} (h1 : IsN w v1 m1) (h2 : IsN w v2 m2) : Calls Try.prog 30 #[v1, v2] w (Post w fun v _ => v = .int .i64 (cmpN m1 m2)) := by
  obtain ⟨a1, n1, c1, xs, rfl, h1, hn1, rfl⟩ := h1
  obtain ⟨a2, n2, c2, ys, rfl, h2, hn2, rfl⟩ := h2
  exact cmp_any a1 a2 n1 c1 n2 c2 xs ys w h1 h2
theorem add_n {w : World} {v1 v2 : Value} {m1 m2 : Nat} (h1 : IsN w v1 m1) (h2 : IsN w v2 m2) : Calls Try.prog 28 #[v1, v2] w (Post w fun v w' => NRes w' v (fit (m1 + m2))) := by
  obtain ⟨a1, n1, c1, xs, rfl, h1, hn1, rfl⟩ := h1
  obtain ⟨a2, n2, c2, ys, rfl, h2, hn2, rfl⟩ := h2
  exact add_any a1 a2 n1 c1 n2 c2 xs ys w h1 h2 (by omega) (by omega)
theorem add_ok {w : World} {v1 v2 : Value} {m1 m2 : Nat} (h1 : IsN w v1 m1) (h2 : IsN w v2 m2) (ht : m1 + m2 < Top) : Calls Try.prog 28 #[v1, v2] w (Post w fun v w' => NOk w' v (m1 + m2)) := by
  refine (add_n h1 h2).mono ?_
  rintro e w' ⟨v, rfl, hext, h⟩
  exact Post.mk hext (h.fit_ok ht)
theorem sub_ok {w : World} {v1 v2 : Value} {m1 m2 : Nat} (h1 : IsN w v1 m1) (h2 : IsN w v2 m2) (ht : m1 < Top) (hle : m2 ≤ m1) : Calls Try.prog 31 #[v1, v2] w (Post w fun v w' => NOk w' v (m1 - m2)) := by
  obtain ⟨a1, n1, c1, xs, rfl, h1, hn1, rfl⟩ := h1
  obtain ⟨a2, n2, c2, ys, rfl, h2, hn2, rfl⟩ := h2
  refine (sub_any a1 a2 n1 c1 n2 c2 xs ys w h1 h2).mono ?_
  rintro e w' ⟨v, rfl, hext, h⟩
  rw [if_pos ⟨ht, by omega⟩, if_pos hle] at h
  exact Post.mk hext (h.ok (by omega))
theorem sub_none {w : World} {v1 v2 : Value} {m1 m2 : Nat} (h1 : IsN w v1 m1) (h2 : IsN w v2 m2) (ht1 : m1 < Top) (ht2 : m2 < Top) (hlt : m1 < m2) : Calls Try.prog 31 #[v1, v2] w (Post w fun v _ => v = .tuple #[.slice none 0 0, .int .i64 7]) := by
  obtain ⟨a1, n1, c1, xs, rfl, h1, hn1, rfl⟩ := h1
  obtain ⟨a2, n2, c2, ys, rfl, h2, hn2, rfl⟩ := h2
  refine (sub_any a1 a2 n1 c1 n2 c2 xs ys w h1 h2).mono ?_
  rintro e w' ⟨v, rfl, hext, h⟩
  rw [if_pos ⟨ht1, ht2⟩, if_neg (by omega)] at h
  exact Post.mk hext h
theorem mul_n {w : World} {v1 v2 : Value} {m1 m2 : Nat} (h1 : IsN w v1 m1) (h2 : IsN w v2 m2) (ht1 : m1 < Top) (ht2 : m2 < Top) : Calls Try.prog 29 #[v1, v2] w (Post w fun v w' => NRes w' v (fit (m1 * m2))) := by
  obtain ⟨a1, n1, c1, xs, rfl, h1, hn1, rfl⟩ := h1
  obtain ⟨a2, n2, c2, ys, rfl, h2, hn2, rfl⟩ := h2
  exact mul_any a1 a2 n1 c1 n2 c2 xs ys w h1 h2 ht1 ht2
theorem mul_ok {w : World} {v1 v2 : Value} {m1 m2 : Nat} (h1 : IsN w v1 m1) (h2 : IsN w v2 m2) (ht1 : m1 < Top) (ht2 : m2 < Top) (ht : m1 * m2 < Top) : Calls Try.prog 29 #[v1, v2] w (Post w fun v w' => NOk w' v (m1 * m2)) := by
  refine (mul_n h1 h2 ht1 ht2).mono ?_
  rintro e w' ⟨v, rfl, hext, h⟩
  exact Post.mk hext (h.fit_ok ht)
/-- A quotient and a rest, and no error. -/
def DOk (w : World) (v : Value) (Q R : Nat) : Prop := ∃ q r, v = .tuple #[q, r, .int .i64 0] ∧ Num w q Q ∧ Num w r R
theorem div_ok {w : World} {v1 v2 : Value} {m1 m2 : Nat} (h1 : IsN w v1 m1) (h2 : IsN w v2 m2) (ht1 : m1 < Top) (ht2 : m2 < Top) (h0 : m2 ≠ 0) : Calls Try.prog 11 #[v1, v2] w (Post w fun v w' => DOk w' v (m1 / m2) (m1 % m2)) := by
  obtain ⟨a1, n1, c1, xs, rfl, h1, hn1, rfl⟩ := h1
  obtain ⟨a2, n2, c2, ys, rfl, h2, hn2, rfl⟩ := h2
  refine (div_any a1 a2 n1 c1 n2 c2 xs ys w h1 h2 ht1 ht2 h0).mono ?_
  rintro e w' ⟨v, rfl, hext, aq, nq, cq, ar, nr, cr, rfl, hq, hr⟩
  exact Post.mk hext ⟨_, _, rfl, ⟨Nat.lt_of_le_of_lt (Nat.div_le_self _ _) ht1, _, _, _, rfl, hq⟩, ⟨Nat.lt_of_le_of_lt (Nat.mod_le _ _) ht1, _, _, _, rfl, hr⟩⟩
theorem div_arg {w : World} {v1 v2 : Value} {m1 : Nat} (h1 : IsN w v1 m1) (h2 : IsN w v2 0) (ht1 : m1 < Top) : Calls Try.prog 11 #[v1, v2] w (Post w fun v _ => v = .tuple #[.slice none 0 0, .slice none 0 0, .int .i64 2]) := by
  obtain ⟨a1, n1, c1, xs, rfl, h1, hn1, rfl⟩ := h1
  obtain ⟨a2, n2, c2, ys, rfl, h2, hn2, h0⟩ := h2
  exact div_zero a1 a2 n1 c1 n2 c2 xs ys w h1 h2 ht1 h0
theorem shl_n {w : World} {v1 : Value} {m1 : Nat} (k : Nat) (h1 : IsN w v1 m1) (hk : k ≤ 4611686018427387904) : Calls Try.prog 19 #[v1, .int .i64 k] w (Post w fun v w' => NRes w' v (fit (m1 * 2 ^ k))) := by
  obtain ⟨a1, n1, c1, xs, rfl, h1, hn1, rfl⟩ := h1
  exact shl_any a1 n1 c1 xs k w h1 hk
theorem shl_ok {w : World} {v1 : Value} {m1 : Nat} (k : Nat) (h1 : IsN w v1 m1) (hk : k ≤ 4611686018427387904) (ht : m1 * 2 ^ k < Top) : Calls Try.prog 19 #[v1, .int .i64 k] w (Post w fun v w' => NOk w' v (m1 * 2 ^ k)) := by
  refine (shl_n k h1 hk).mono ?_
  rintro e w' ⟨v, rfl, hext, h⟩
  exact Post.mk hext (h.fit_ok ht)
theorem shl_arg {w : World} {v1 : Value} {m1 : Nat} (k : Int) (h1 : IsN w v1 m1) (hk : k < 0) (ht : m1 < Top) : Calls Try.prog 19 #[v1, .int .i64 k] w (Post w fun v _ => v = .tuple #[.slice none 0 0, .int .i64 2]) := by
  obtain ⟨a1, n1, c1, xs, rfl, h1, hn1, rfl⟩ := h1
  exact shl_neg a1 n1 c1 xs k hk w h1 ht
theorem shr_ok {w : World} {v1 : Value} {m1 : Nat} (k : Nat) (h1 : IsN w v1 m1) (ht : m1 < Top) (hk : k ≤ 4611686018427387904) : Calls Try.prog 20 #[v1, .int .i64 k] w (Post w fun v w' => NOk w' v (m1 / 2 ^ k)) := by
  obtain ⟨a1, n1, c1, xs, rfl, h1, hn1, rfl⟩ := h1
  refine (shr_any a1 n1 c1 xs k w h1 ht hk).mono ?_
  rintro e w' ⟨v, rfl, hext, h⟩
  exact Post.mk hext (h.ok (Nat.lt_of_le_of_lt (Nat.div_le_self _ _) ht))
theorem shr_arg {w : World} {v1 : Value} {m1 : Nat} (k : Int) (h1 : IsN w v1 m1) (hk : k < 0) (ht : m1 < Top) : Calls Try.prog 20 #[v1, .int .i64 k] w (Post w fun v _ => v = .tuple #[.slice none 0 0, .int .i64 2]) := by
  obtain ⟨a1, n1, c1, xs, rfl, h1, hn1, rfl⟩ := h1
  exact shr_neg a1 n1 c1 xs k hk w h1 ht
theorem gcd_lt {m n T : Nat} (h1 : m < T) (h2 : n < T) : Nat.gcd m n < T := by
  by_cases h : m = 0
  · subst h; simpa using h2
  · exact Nat.lt_of_le_of_lt (Nat.gcd_le_left _ (by omega)) h1
theorem gcd_ok {w : World} {v1 v2 : Value} {m1 m2 : Nat} (h1 : IsN w v1 m1) (h2 : IsN w v2 m2) (ht1 : m1 < Top) (ht2 : m2 < Top) : Calls Try.prog 12 #[v1, v2] w (Post w fun v w' => NOk w' v (Nat.gcd m1 m2)) := by
  obtain ⟨a1, n1, c1, xs, rfl, h1, hn1, rfl⟩ := h1
  obtain ⟨a2, n2, c2, ys, rfl, h2, hn2, rfl⟩ := h2
  refine (gcd_any a1 a2 n1 c1 n2 c2 xs ys w h1 h2 ht1 ht2).mono ?_
  rintro e w' ⟨v, rfl, hext, h⟩
  exact Post.mk hext (h.ok (gcd_lt ht1 ht2))
theorem IsRoot.le {a r : Nat} (h : IsRoot a r) : r ≤ a := by
  have := h.1
  rcases Nat.eq_zero_or_pos r with h0 | h0
  · omega
  · exact Nat.le_trans (Nat.le_mul_of_pos_left r h0) this
theorem root_ok {w : World} {v1 : Value} {m1 : Nat} (h1 : IsN w v1 m1) (ht1 : m1 < Top) : Calls Try.prog 13 #[v1] w (Post w fun v w' => ∃ r, IsRoot m1 r ∧ NOk w' v r) := by
  obtain ⟨a1, n1, c1, xs, rfl, h1, hn1, rfl⟩ := h1
  by_cases h0 : val xs = 0
  · refine (root_zero a1 n1 c1 xs w h1 h0).mono ?_
    rintro e w' ⟨v, rfl, hext, h⟩
    exact Post.mk hext ⟨0, by rw [h0]; exact ⟨by omega, by omega⟩, h.ok Top_pos⟩
  · refine (root_main a1 n1 c1 xs w h1 ht1 h0).mono ?_
    rintro e w' ⟨v, rfl, hext, r, hr, h⟩
    exact Post.mk hext ⟨r, hr, h.ok (Nat.lt_of_le_of_lt hr.le ht1)⟩
theorem text_n {w : World} {v1 : Value} {m1 : Nat} (h1 : IsN w v1 m1) (ht1 : m1 < Top) : Calls Try.prog 23 #[v1] w (Post w fun v _ => v = .string (txt (decT m1))) := by
  obtain ⟨a1, n1, c1, xs, rfl, h1, hn1, rfl⟩ := h1
  exact text_any a1 n1 c1 xs w h1 ht1
end Go.Proofs.Ytnecpkoibknacaa
