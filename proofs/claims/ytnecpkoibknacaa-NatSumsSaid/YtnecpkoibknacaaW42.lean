/- NatSums. -/
import Derived.Test.YtnecpkoibknacaaW41
namespace Go.Proofs.Ytnecpkoibknacaa
open Go.RowKit

theorem own_block_lt {w : World} {B : Nat} {v : Value} {L : List Nat} (h : Own w B v L) : (L = [] ∧ v = .slice none 0 0) ∨ ∃ g cap, v = .slice (some ⟨g, 0, none⟩) L.length cap ∧ B ≤ g ∧ L.length ≤ cap ∧ w.ownsRow B 48 1 (.slice (some ⟨g, 0, none⟩) L.length cap) L.length (lims L) := by
  rcases h.2 with ⟨h1, h2⟩ | ⟨g, cap, cur, h1, h2, h3, h4, h5⟩
  · exact .inl ⟨List.eq_nil_of_length_eq_zero h2, h1⟩
  · exact .inr ⟨g, cap, h1, h2, h4, by subst h1; exact h⟩
theorem cmpN_zero {m n : Nat} (h : n ≤ m) : cmpN m n = 0 ∨ cmpN m n = 1 := by
  unfold cmpN; rw [if_neg (by omega)]; split <;> simp

set_option maxRecDepth 100000 in
set_option maxHeartbeats 4000000 in
theorem sums_main (a1 : Option Addr) (n1 c1 : Nat) (xs : List Nat) (a2 : Option Addr) (n2 c2 : Nat) (ys : List Nat) (i : Int) (w : World) (hi0 : -9223372036854775808 ≤ i ∧ i ≤ 9223372036854775807) (h1 : Nums w a1 n1 c1 xs) (h2 : Nums w a2 n2 c2 ys) (s1 : n1 ≤ 6) (s2 : n2 ≤ 6) :
    Calls Try.prog 8 #[.slice a1 n1 c1, .slice a2 n2 c2, .int .i64 i] w (Post w fun v _ => v = .bool true) := by
  obtain ⟨i0, hi, hz0, hz1, hz2⟩ := info_parts info_u64
  have hg := great_no a1 a2 none n1 n2 0 c1 c2 0 w s1 s2 (by omega)
  have k1 := h1.cells
  have k2 := h2.cells
  have q1 := IsN.of h1 (by omega)
  have q2 := IsN.of h2 (by omega)
  have ha : Sm 6 (val xs) := by have := val_lt h1.lt; rw [h1.len] at this; exact Nat.lt_of_lt_of_le this (Nat.pow_le_pow_right B64_pos s1)
  have hb : Sm 6 (val ys) := by have := val_lt h2.lt; rw [h2.len] at this; exact Nat.lt_of_lt_of_le this (Nat.pow_le_pow_right B64_pos s2)
  have ta := ha.top (by omega)
  have tb := hb.top (by omega)
  have tab := (ha.add hb).top (by omega)
  have tm := (ha.mul hb).top (by omega)
  have hl1 := h1.len
  have hl2 := h2.len
  have o1 := oneCell_u64 xs
  have o2 := oneCell_u64 ys
  have HX := Lib.hid (And.intro hl1 h1.lt)
  have HY := Lib.hid (And.intro hl2 h2.lt)
  have HI := Lib.hid hi0
  have H1 := Lib.hid h1
  clear h1 h2 hl1 hl2 hi0
  generalize ha' : val xs = a at *
  generalize hb' : val ys = b at *
  have HA := Lib.hid ha'
  have HBv := Lib.hid hb'
  clear ha' hb'
  go_enter Try.func8, Try.ntmps8
  go_wp2_with fail
  refine hg.mono ?_
  rintro e w' ⟨rfl, rfl⟩
  clear hg
  go_wp2_with (first
    | (at_builtin; refine wpList_app w (Ext.refl _) rfl _ _ 23 rfl 48 i0 (.int .u64 0) 1 8 Try.underlying23 hi hz0 hz1 hz2 rfl (by decide) _ 0 [] rfl (World.ownsRow_nil _ _ _ _) a1 n1 c1 _ rfl (by rw [List.length_map, HX.out.1]; omega) k1 o1 (by omega) (by omega) ?_; intro vx wx hownx hextx _; clear k1 o1)
    | (at_builtin; refine wpList_app wx (Ext.refl _) rfl _ _ 23 rfl 48 i0 (.int .u64 0) 1 8 Try.underlying23 hi hz0 hz1 hz2 rfl (by decide) _ 0 [] rfl (World.ownsRow_nil _ _ _ _) a2 n2 c2 _ rfl (by rw [List.length_map, HY.out.1]; omega) (k2.ext hextx) o2 (by omega) (by omega) ?_; intro vy wy howny hexty _; clear k2 o2))
  rw [Nat.zero_add, List.nil_append, ← HX.out.1] at hownx
  rw [Nat.zero_add, List.nil_append, ← HY.out.1] at howny
  obtain ⟨ax, cx, rfl, hnx, hfx⟩ := Nums.of_own' hownx (by rw [HX.out.1]; omega) HX.out.2
  obtain ⟨ay, cy, rfl, hny, _⟩ := Nums.of_own' howny (by rw [HY.out.1]; omega) HY.out.2
  have hxsz : ∀ p, ax = some p → p.block < wx.heap.size := by
    intro p hp
    subst hp
    exact (World.ownsRow.lt hownx p.block rfl).2
  have px := IsN.of hnx (by rw [HX.out.1]; omega)
  have py := IsN.of hny (by rw [HY.out.1]; omega)
  rw [HX.out.1] at px hnx
  rw [HY.out.1] at py
  rw [HA.out] at px
  rw [HBv.out] at py
  have HNX := Lib.hid hnx
  have HXS := Lib.hid hxsz
  rw [HX.out.1, HY.out.1]
  clear hownx howny hnx hny hxsz hfx
  go_wp2_with fail
  refine (norm_o (px.ext (by repeat (first | exact Ext.refl _ | with_reducible assumption | (with_reducible refine Ext.alloc ?_ _) | (with_reducible refine Ext.drew ?_) | (with_reducible refine Ext.trans ?_ (by with_reducible assumption))))) ta).mono ?_
  rintro e w1 ⟨_, rfl, E1, nv, rfl, hnv⟩
  obtain ⟨an, cn, rfl, hnn, _⟩ := hnv.nums (by have := (fits_iff _).2 ta; omega) (lt_limbs a)
  have hnum : Num w1 (.slice an (limbs a).length cn) a := ⟨ta, _, _, _, rfl, hnn⟩
  have HL := Lib.hid (show ∃ K, (limbs a).length = K from ⟨_, rfl⟩)
  have HNV := Lib.hid hnv
  have hnl := (fits_iff _).2 ta
  generalize hK : (limbs a).length = K at *
  have HKK := Lib.hid hK
  clear hnv hnn HL hK
  go_wp2_with fail
  refine (add_ok (px.ext (by repeat (first | exact Ext.refl _ | with_reducible assumption | (with_reducible refine Ext.alloc ?_ _) | (with_reducible refine Ext.drew ?_) | (with_reducible refine Ext.trans ?_ (by with_reducible assumption))))) (py.ext (by repeat (first | exact Ext.refl _ | with_reducible assumption | (with_reducible refine Ext.alloc ?_ _) | (with_reducible refine Ext.drew ?_) | (with_reducible refine Ext.trans ?_ (by with_reducible assumption))))) tab).mono ?_
  rintro e w2 ⟨_, rfl, E2, sv, rfl, hsv⟩
  go_wp2_with fail
  refine (mul_ok (px.ext (by repeat (first | exact Ext.refl _ | with_reducible assumption | (with_reducible refine Ext.alloc ?_ _) | (with_reducible refine Ext.drew ?_) | (with_reducible refine Ext.trans ?_ (by with_reducible assumption))))) (py.ext (by repeat (first | exact Ext.refl _ | with_reducible assumption | (with_reducible refine Ext.alloc ?_ _) | (with_reducible refine Ext.drew ?_) | (with_reducible refine Ext.trans ?_ (by with_reducible assumption))))) ta tb tm).mono ?_
  rintro e w3 ⟨_, rfl, E3, mv, rfl, hmv⟩
  have hfin : ∀ (w9 : World), Ext w1 w9 → ∀ nn, nn = K → Hid (Own w9 wy.heap.size (.slice an K cn) (limbs a)) := fun w9 e9 nn _ => Lib.hid (HNV.out.ext e9)
  by_cases hle : b ≤ a
  · obtain ⟨cc, hcc⟩ : ∃ cc, cmpN a b = cc := ⟨_, rfl⟩
    have hc0 : 0 ≤ cc := by rw [← hcc]; rcases cmpN_zero hle with h | h <;> rw [h] <;> omega
    have HC := Lib.hid hcc
    have HLE := Lib.hid hle
    clear hcc hle
    go_wp2_with fail
    refine (sub_ok (px.ext (by repeat (first | exact Ext.refl _ | with_reducible assumption | (with_reducible refine Ext.alloc ?_ _) | (with_reducible refine Ext.drew ?_) | (with_reducible refine Ext.trans ?_ (by with_reducible assumption))))) (py.ext (by repeat (first | exact Ext.refl _ | with_reducible assumption | (with_reducible refine Ext.alloc ?_ _) | (with_reducible refine Ext.drew ?_) | (with_reducible refine Ext.trans ?_ (by with_reducible assumption))))) ta HLE.out).mono ?_
    rintro e w4 ⟨_, rfl, E4, dv, rfl, hdv⟩
    go_wp2_with fail
    refine (rnorm_n (q1.ext (by repeat (first | exact Ext.refl _ | with_reducible assumption | (with_reducible refine Ext.alloc ?_ _) | (with_reducible refine Ext.drew ?_) | (with_reducible refine Ext.trans ?_ (by with_reducible assumption))))) ta).mono ?_
    rintro e w5 ⟨rv, rfl, E5, hrv⟩
    go_wp2_with fail
    refine (same_n (hnum.ext (by repeat (first | exact Ext.refl _ | with_reducible assumption | (with_reducible refine Ext.alloc ?_ _) | (with_reducible refine Ext.drew ?_) | (with_reducible refine Ext.trans ?_ (by with_reducible assumption))))) hrv).mono ?_
    rintro e w6 ⟨_, rfl, E6, rfl⟩
    go_wp2_with fail
    refine (radd_n (q1.ext (by repeat (first | exact Ext.refl _ | with_reducible assumption | (with_reducible refine Ext.alloc ?_ _) | (with_reducible refine Ext.drew ?_) | (with_reducible refine Ext.trans ?_ (by with_reducible assumption))))) (q2.ext (by repeat (first | exact Ext.refl _ | with_reducible assumption | (with_reducible refine Ext.alloc ?_ _) | (with_reducible refine Ext.drew ?_) | (with_reducible refine Ext.trans ?_ (by with_reducible assumption))))) tab).mono ?_
    rintro e w7 ⟨rv2, rfl, E7, hrv2⟩
    go_wp2_with fail
    refine (same_n (hsv.ext (by repeat (first | exact Ext.refl _ | with_reducible assumption | (with_reducible refine Ext.alloc ?_ _) | (with_reducible refine Ext.drew ?_) | (with_reducible refine Ext.trans ?_ (by with_reducible assumption))))) hrv2).mono ?_
    rintro e w8 ⟨_, rfl, E8, rfl⟩
    go_wp2_with fail
    refine (rmul_n (q1.ext (by repeat (first | exact Ext.refl _ | with_reducible assumption | (with_reducible refine Ext.alloc ?_ _) | (with_reducible refine Ext.drew ?_) | (with_reducible refine Ext.trans ?_ (by with_reducible assumption))))) (q2.ext (by repeat (first | exact Ext.refl _ | with_reducible assumption | (with_reducible refine Ext.alloc ?_ _) | (with_reducible refine Ext.drew ?_) | (with_reducible refine Ext.trans ?_ (by with_reducible assumption))))) tm).mono ?_
    rintro e w9 ⟨rv3, rfl, E9, hrv3⟩
    go_wp2_with fail
    refine (same_n (hmv.ext (by repeat (first | exact Ext.refl _ | with_reducible assumption | (with_reducible refine Ext.alloc ?_ _) | (with_reducible refine Ext.drew ?_) | (with_reducible refine Ext.trans ?_ (by with_reducible assumption))))) hrv3).mono ?_
    rintro e w10 ⟨_, rfl, E10, rfl⟩
    go_wp2_with fail
    refine (rcmp_n (q1.ext (by repeat (first | exact Ext.refl _ | with_reducible assumption | (with_reducible refine Ext.alloc ?_ _) | (with_reducible refine Ext.drew ?_) | (with_reducible refine Ext.trans ?_ (by with_reducible assumption))))) (q2.ext (by repeat (first | exact Ext.refl _ | with_reducible assumption | (with_reducible refine Ext.alloc ?_ _) | (with_reducible refine Ext.drew ?_) | (with_reducible refine Ext.trans ?_ (by with_reducible assumption)))))).mono ?_
    rintro e w11 ⟨rfl, rfl⟩
    rw [HC.out]
    go_wp2_with fail
    refine (cmp_n (px.ext (by repeat (first | exact Ext.refl _ | with_reducible assumption | (with_reducible refine Ext.alloc ?_ _) | (with_reducible refine Ext.drew ?_) | (with_reducible refine Ext.trans ?_ (by with_reducible assumption))))) (py.ext (by repeat (first | exact Ext.refl _ | with_reducible assumption | (with_reducible refine Ext.alloc ?_ _) | (with_reducible refine Ext.drew ?_) | (with_reducible refine Ext.trans ?_ (by with_reducible assumption)))))).mono ?_
    rintro e w12 ⟨_, rfl, E12, rfl⟩
    rw [HC.out]
    go_wp2_with fail
    refine (rsub_n (q1.ext (by repeat (first | exact Ext.refl _ | with_reducible assumption | (with_reducible refine Ext.alloc ?_ _) | (with_reducible refine Ext.drew ?_) | (with_reducible refine Ext.trans ?_ (by with_reducible assumption))))) (q2.ext (by repeat (first | exact Ext.refl _ | with_reducible assumption | (with_reducible refine Ext.alloc ?_ _) | (with_reducible refine Ext.drew ?_) | (with_reducible refine Ext.trans ?_ (by with_reducible assumption))))) ta HLE.out).mono ?_
    rintro e w13 ⟨rv4, rfl, E13, hrv4⟩
    go_wp2_with fail
    refine (same_n (hdv.ext (by repeat (first | exact Ext.refl _ | with_reducible assumption | (with_reducible refine Ext.alloc ?_ _) | (with_reducible refine Ext.drew ?_) | (with_reducible refine Ext.trans ?_ (by with_reducible assumption))))) hrv4).mono ?_
    rintro e w14 ⟨_, rfl, E14, rfl⟩
    go_wp2_with fail
    refine (bits_n (q1.ext (by repeat (first | exact Ext.refl _ | with_reducible assumption | (with_reducible refine Ext.alloc ?_ _) | (with_reducible refine Ext.drew ?_) | (with_reducible refine Ext.trans ?_ (by with_reducible assumption)))))).mono ?_
    rintro e w15 ⟨_, rfl, E15, rfl⟩
    go_wp2_with fail
    refine (rBits_n (q1.ext (by repeat (first | exact Ext.refl _ | with_reducible assumption | (with_reducible refine Ext.alloc ?_ _) | (with_reducible refine Ext.drew ?_) | (with_reducible refine Ext.trans ?_ (by with_reducible assumption)))))).mono ?_
    rintro e w16 ⟨rfl, rfl⟩
    go_wp2_with fail
    refine (Bit_n i (q1.ext (by repeat (first | exact Ext.refl _ | with_reducible assumption | (with_reducible refine Ext.alloc ?_ _) | (with_reducible refine Ext.drew ?_) | (with_reducible refine Ext.trans ?_ (by with_reducible assumption))))) HI.out.2).mono ?_
    rintro e w17 ⟨rfl, rfl⟩
    go_wp2_with fail
    refine (rBit_n i (q1.ext (by repeat (first | exact Ext.refl _ | with_reducible assumption | (with_reducible refine Ext.alloc ?_ _) | (with_reducible refine Ext.drew ?_) | (with_reducible refine Ext.trans ?_ (by with_reducible assumption))))) HI.out.2).mono ?_
    rintro e w18 ⟨rfl, rfl⟩
    generalize blen a = bl at *
    generalize bitB a i = bb at *
    have hy0 : wx.heap.size ≤ wy.heap.size := hexty.size
    have hy1 : w.heap.size ≤ wx.heap.size := hextx.size
    have hrow : K = 0 ∨ ∃ g L, an = some ⟨g, 0, none⟩ ∧ wy.heap.size ≤ g ∧ L.length = K ∧ w15.ownsRow wy.heap.size 48 1 (.slice (some ⟨g, 0, none⟩) K cn) K (lims L) := by
      have hown := (hfin w15 (by repeat (first | exact Ext.refl _ | with_reducible assumption | (with_reducible refine Ext.alloc ?_ _) | (with_reducible refine Ext.drew ?_) | (with_reducible refine Ext.trans ?_ (by with_reducible assumption)))) K rfl).out
      rcases own_block_lt hown with ⟨hL, hv⟩ | ⟨g, cap, hv, hg, _, hr⟩
      · left; rw [← HKK.out, hL]; rfl
      · right
        rw [HKK.out] at hv hr
        obtain ⟨rfl, _, rfl⟩ : an = some ⟨g, 0, none⟩ ∧ K = K ∧ cn = cap := by cases hv; exact ⟨rfl, rfl, rfl⟩
        exact ⟨g, limbs a, rfl, hg, HKK.out, hr⟩
    clear hfin
    have EX : Ext wx w15 := (by repeat (first | exact Ext.refl _ | with_reducible assumption | (with_reducible refine Ext.alloc ?_ _) | (with_reducible refine Ext.drew ?_) | (with_reducible refine Ext.trans ?_ (by with_reducible assumption))))
    have EW : Ext w w15 := (by repeat (first | exact Ext.refl _ | with_reducible assumption | (with_reducible refine Ext.alloc ?_ _) | (with_reducible refine Ext.drew ?_) | (with_reducible refine Ext.trans ?_ (by with_reducible assumption))))
    go_wp2
    go_loopw [18] (fun iv wr => ∃ j : Nat, j ≤ K ∧ iv = .int .i64 j ∧ Ext w wr ∧ Ext wx wr ∧ (K = 0 ∨ ∃ g L, an = some ⟨g, 0, none⟩ ∧ wy.heap.size ≤ g ∧ L.length = K ∧ wr.ownsRow wy.heap.size 48 1 (.slice (some ⟨g, 0, none⟩) K cn) K (lims L))) (fun iv _ => K - (intOf iv).toNat)
    case atStart => exact ⟨0, Nat.zero_le _, rfl, EW, EX, hrow⟩
    case round =>
      clear EW EX hrow
      obtain ⟨j, hj, rfl, EW, EX, hrow⟩ := hrel
      by_cases hlt : j < K
      · rcases hrow with h0 | ⟨g, L, rfl, hg, hL, hr⟩
        · omega
        have f0 := hr.frozenAt j
        obtain ⟨u, c0⟩ : ∃ u : Nat, wr.cell? ⟨g, j, none⟩ = some (.int .u64 (u : Int)) := by
          rw [hr.cellAt j (by omega), lims, List.getElem?_map, List.getElem?_eq_getElem (by omega)]
          exact ⟨_, rfl⟩
        have HR := Lib.hid hr
        have HLL := Lib.hid hL
        clear hr hL
        go_wp2
        go_roundw
        case rel =>
          refine ⟨j + 1, by omega, by go_num, EW.set (p := ⟨g, j, none⟩) (by show w.heap.size ≤ g; omega) _, EX.set (p := ⟨g, j, none⟩) (by show wx.heap.size ≤ g; omega) _, .inr ⟨g, L.set j 7, rfl, hg, by rw [List.length_set]; exact HLL.out, ?_⟩⟩
          have := (HR.out.stored j (.int .u64 7)).1
          rwa [show (lims L).set j (.int .u64 7) = lims (L.set j 7) by simp [lims, List.map_set]] at this
        case measure => simp only [intOf]; omega
      · clear hrow
        go_wp2
        go_loopw [19] (fun iv wr => ∃ j : Nat, j ≤ n1 ∧ iv = .int .i64 j ∧ Ext w wr ∧ Ext wx wr) (fun iv _ => n1 - (intOf iv).toNat)
        case atStart => exact ⟨0, Nat.zero_le _, rfl, EW, EX⟩
        case round =>
          clear EW EX hlt hj
          obtain ⟨j, hj, rfl, EW, EX⟩ := hrel
          by_cases hlt : j < n1
          · obtain ⟨b1, o1, rfl, k1⟩ := (H1.out.ext EW).at hlt
            obtain ⟨b2, o2, rfl, k2⟩ := (HNX.out.ext EX).at hlt
            have hcx := HNX.out.cap
            have hc1 := H1.out.cap
            have hbd := H1.out.bd j
            generalize xs[j]?.getD 0 = x at *
            have hj0 : (0 : Int) ≤ j := by omega
            have hj1 : (j : Int) < n1 := by omega
            go_wp2
            go_quiet (fail)
            go_wp2
            go_roundw
            case rel => exact ⟨j + 1, by omega, by go_num, EW.drewN _, EX.drewN _⟩
            case measure => simp only [intOf]; omega
          · go_wp2_with fail
            refine (head_any _).mono ?_
            rintro e w20 ⟨_, rfl, E20, rfl⟩
            go_wp2
            go_ret
            exact Post.mk (EW.trans E20) rfl
  · obtain ⟨cc, hcc⟩ : ∃ cc, cmpN a b = cc := ⟨_, rfl⟩
    have hc0 : cc < 0 := by rw [← hcc, cmpN_lt (by omega)]; omega
    have HC := Lib.hid hcc
    have HLE := Lib.hid hle
    clear hcc hle
    go_wp2_with fail
    refine (sub_none (px.ext (by repeat (first | exact Ext.refl _ | with_reducible assumption | (with_reducible refine Ext.alloc ?_ _) | (with_reducible refine Ext.drew ?_) | (with_reducible refine Ext.trans ?_ (by with_reducible assumption))))) (py.ext (by repeat (first | exact Ext.refl _ | with_reducible assumption | (with_reducible refine Ext.alloc ?_ _) | (with_reducible refine Ext.drew ?_) | (with_reducible refine Ext.trans ?_ (by with_reducible assumption))))) ta tb (by have := HLE.out; omega)).mono ?_
    rintro e w4 ⟨_, rfl, E4, rfl⟩
    go_wp2_with fail
    refine (rnorm_n (q1.ext (by repeat (first | exact Ext.refl _ | with_reducible assumption | (with_reducible refine Ext.alloc ?_ _) | (with_reducible refine Ext.drew ?_) | (with_reducible refine Ext.trans ?_ (by with_reducible assumption))))) ta).mono ?_
    rintro e w5 ⟨rv, rfl, E5, hrv⟩
    go_wp2_with fail
    refine (same_n (hnum.ext (by repeat (first | exact Ext.refl _ | with_reducible assumption | (with_reducible refine Ext.alloc ?_ _) | (with_reducible refine Ext.drew ?_) | (with_reducible refine Ext.trans ?_ (by with_reducible assumption))))) hrv).mono ?_
    rintro e w6 ⟨_, rfl, E6, rfl⟩
    go_wp2_with fail
    refine (radd_n (q1.ext (by repeat (first | exact Ext.refl _ | with_reducible assumption | (with_reducible refine Ext.alloc ?_ _) | (with_reducible refine Ext.drew ?_) | (with_reducible refine Ext.trans ?_ (by with_reducible assumption))))) (q2.ext (by repeat (first | exact Ext.refl _ | with_reducible assumption | (with_reducible refine Ext.alloc ?_ _) | (with_reducible refine Ext.drew ?_) | (with_reducible refine Ext.trans ?_ (by with_reducible assumption))))) tab).mono ?_
    rintro e w7 ⟨rv2, rfl, E7, hrv2⟩
    go_wp2_with fail
    refine (same_n (hsv.ext (by repeat (first | exact Ext.refl _ | with_reducible assumption | (with_reducible refine Ext.alloc ?_ _) | (with_reducible refine Ext.drew ?_) | (with_reducible refine Ext.trans ?_ (by with_reducible assumption))))) hrv2).mono ?_
    rintro e w8 ⟨_, rfl, E8, rfl⟩
    go_wp2_with fail
    refine (rmul_n (q1.ext (by repeat (first | exact Ext.refl _ | with_reducible assumption | (with_reducible refine Ext.alloc ?_ _) | (with_reducible refine Ext.drew ?_) | (with_reducible refine Ext.trans ?_ (by with_reducible assumption))))) (q2.ext (by repeat (first | exact Ext.refl _ | with_reducible assumption | (with_reducible refine Ext.alloc ?_ _) | (with_reducible refine Ext.drew ?_) | (with_reducible refine Ext.trans ?_ (by with_reducible assumption))))) tm).mono ?_
    rintro e w9 ⟨rv3, rfl, E9, hrv3⟩
    go_wp2_with fail
    refine (same_n (hmv.ext (by repeat (first | exact Ext.refl _ | with_reducible assumption | (with_reducible refine Ext.alloc ?_ _) | (with_reducible refine Ext.drew ?_) | (with_reducible refine Ext.trans ?_ (by with_reducible assumption))))) hrv3).mono ?_
    rintro e w10 ⟨_, rfl, E10, rfl⟩
    go_wp2_with fail
    refine (rcmp_n (q1.ext (by repeat (first | exact Ext.refl _ | with_reducible assumption | (with_reducible refine Ext.alloc ?_ _) | (with_reducible refine Ext.drew ?_) | (with_reducible refine Ext.trans ?_ (by with_reducible assumption))))) (q2.ext (by repeat (first | exact Ext.refl _ | with_reducible assumption | (with_reducible refine Ext.alloc ?_ _) | (with_reducible refine Ext.drew ?_) | (with_reducible refine Ext.trans ?_ (by with_reducible assumption)))))).mono ?_
    rintro e w11 ⟨rfl, rfl⟩
    rw [HC.out]
    go_wp2_with fail
    refine (cmp_n (px.ext (by repeat (first | exact Ext.refl _ | with_reducible assumption | (with_reducible refine Ext.alloc ?_ _) | (with_reducible refine Ext.drew ?_) | (with_reducible refine Ext.trans ?_ (by with_reducible assumption))))) (py.ext (by repeat (first | exact Ext.refl _ | with_reducible assumption | (with_reducible refine Ext.alloc ?_ _) | (with_reducible refine Ext.drew ?_) | (with_reducible refine Ext.trans ?_ (by with_reducible assumption)))))).mono ?_
    rintro e w12 ⟨_, rfl, E12, rfl⟩
    rw [HC.out]
    go_wp2_with fail
    refine (bits_n (q1.ext (by repeat (first | exact Ext.refl _ | with_reducible assumption | (with_reducible refine Ext.alloc ?_ _) | (with_reducible refine Ext.drew ?_) | (with_reducible refine Ext.trans ?_ (by with_reducible assumption)))))).mono ?_
    rintro e w15 ⟨_, rfl, E15, rfl⟩
    go_wp2_with fail
    refine (rBits_n (q1.ext (by repeat (first | exact Ext.refl _ | with_reducible assumption | (with_reducible refine Ext.alloc ?_ _) | (with_reducible refine Ext.drew ?_) | (with_reducible refine Ext.trans ?_ (by with_reducible assumption)))))).mono ?_
    rintro e w16 ⟨rfl, rfl⟩
    go_wp2_with fail
    refine (Bit_n i (q1.ext (by repeat (first | exact Ext.refl _ | with_reducible assumption | (with_reducible refine Ext.alloc ?_ _) | (with_reducible refine Ext.drew ?_) | (with_reducible refine Ext.trans ?_ (by with_reducible assumption))))) HI.out.2).mono ?_
    rintro e w17 ⟨rfl, rfl⟩
    go_wp2_with fail
    refine (rBit_n i (q1.ext (by repeat (first | exact Ext.refl _ | with_reducible assumption | (with_reducible refine Ext.alloc ?_ _) | (with_reducible refine Ext.drew ?_) | (with_reducible refine Ext.trans ?_ (by with_reducible assumption))))) HI.out.2).mono ?_
    rintro e w18 ⟨rfl, rfl⟩
    generalize blen a = bl at *
    generalize bitB a i = bb at *
    have hy0 : wx.heap.size ≤ wy.heap.size := hexty.size
    have hy1 : w.heap.size ≤ wx.heap.size := hextx.size
    have hrow : K = 0 ∨ ∃ g L, an = some ⟨g, 0, none⟩ ∧ wy.heap.size ≤ g ∧ L.length = K ∧ w15.ownsRow wy.heap.size 48 1 (.slice (some ⟨g, 0, none⟩) K cn) K (lims L) := by
      have hown := (hfin w15 (by repeat (first | exact Ext.refl _ | with_reducible assumption | (with_reducible refine Ext.alloc ?_ _) | (with_reducible refine Ext.drew ?_) | (with_reducible refine Ext.trans ?_ (by with_reducible assumption)))) K rfl).out
      rcases own_block_lt hown with ⟨hL, hv⟩ | ⟨g, cap, hv, hg, _, hr⟩
      · left; rw [← HKK.out, hL]; rfl
      · right
        rw [HKK.out] at hv hr
        obtain ⟨rfl, _, rfl⟩ : an = some ⟨g, 0, none⟩ ∧ K = K ∧ cn = cap := by cases hv; exact ⟨rfl, rfl, rfl⟩
        exact ⟨g, limbs a, rfl, hg, HKK.out, hr⟩
    clear hfin
    have EX : Ext wx w15 := (by repeat (first | exact Ext.refl _ | with_reducible assumption | (with_reducible refine Ext.alloc ?_ _) | (with_reducible refine Ext.drew ?_) | (with_reducible refine Ext.trans ?_ (by with_reducible assumption))))
    have EW : Ext w w15 := (by repeat (first | exact Ext.refl _ | with_reducible assumption | (with_reducible refine Ext.alloc ?_ _) | (with_reducible refine Ext.drew ?_) | (with_reducible refine Ext.trans ?_ (by with_reducible assumption))))
    go_wp2
    go_loopw [18] (fun iv wr => ∃ j : Nat, j ≤ K ∧ iv = .int .i64 j ∧ Ext w wr ∧ Ext wx wr ∧ (K = 0 ∨ ∃ g L, an = some ⟨g, 0, none⟩ ∧ wy.heap.size ≤ g ∧ L.length = K ∧ wr.ownsRow wy.heap.size 48 1 (.slice (some ⟨g, 0, none⟩) K cn) K (lims L))) (fun iv _ => K - (intOf iv).toNat)
    case atStart => exact ⟨0, Nat.zero_le _, rfl, EW, EX, hrow⟩
    case round =>
      clear EW EX hrow
      obtain ⟨j, hj, rfl, EW, EX, hrow⟩ := hrel
      by_cases hlt : j < K
      · rcases hrow with h0 | ⟨g, L, rfl, hg, hL, hr⟩
        · omega
        have f0 := hr.frozenAt j
        obtain ⟨u, c0⟩ : ∃ u : Nat, wr.cell? ⟨g, j, none⟩ = some (.int .u64 (u : Int)) := by
          rw [hr.cellAt j (by omega), lims, List.getElem?_map, List.getElem?_eq_getElem (by omega)]
          exact ⟨_, rfl⟩
        have HR := Lib.hid hr
        have HLL := Lib.hid hL
        clear hr hL
        go_wp2
        go_roundw
        case rel =>
          refine ⟨j + 1, by omega, by go_num, EW.set (p := ⟨g, j, none⟩) (by show w.heap.size ≤ g; omega) _, EX.set (p := ⟨g, j, none⟩) (by show wx.heap.size ≤ g; omega) _, .inr ⟨g, L.set j 7, rfl, hg, by rw [List.length_set]; exact HLL.out, ?_⟩⟩
          have := (HR.out.stored j (.int .u64 7)).1
          rwa [show (lims L).set j (.int .u64 7) = lims (L.set j 7) by simp [lims, List.map_set]] at this
        case measure => simp only [intOf]; omega
      · clear hrow
        go_wp2
        go_loopw [19] (fun iv wr => ∃ j : Nat, j ≤ n1 ∧ iv = .int .i64 j ∧ Ext w wr ∧ Ext wx wr) (fun iv _ => n1 - (intOf iv).toNat)
        case atStart => exact ⟨0, Nat.zero_le _, rfl, EW, EX⟩
        case round =>
          clear EW EX hlt hj
          obtain ⟨j, hj, rfl, EW, EX⟩ := hrel
          by_cases hlt : j < n1
          · obtain ⟨b1, o1, rfl, k1⟩ := (H1.out.ext EW).at hlt
            obtain ⟨b2, o2, rfl, k2⟩ := (HNX.out.ext EX).at hlt
            have hcx := HNX.out.cap
            have hc1 := H1.out.cap
            have hbd := H1.out.bd j
            generalize xs[j]?.getD 0 = x at *
            have hj0 : (0 : Int) ≤ j := by omega
            have hj1 : (j : Int) < n1 := by omega
            go_wp2
            go_quiet (fail)
            go_wp2
            go_roundw
            case rel => exact ⟨j + 1, by omega, by go_num, EW.drewN _, EX.drewN _⟩
            case measure => simp only [intOf]; omega
          · go_wp2_with fail
            refine (head_any _).mono ?_
            rintro e w20 ⟨_, rfl, E20, rfl⟩
            go_wp2
            go_ret
            exact Post.mk (EW.trans E20) rfl

set_option maxRecDepth 100000 in
theorem sums_law (a1 : Option Addr) (n1 c1 : Nat) (z1 : List Int) (a2 : Option Addr) (n2 c2 : Nat) (z2 : List Int) (i : Int) (w : World) (h1 : Raw w a1 n1 c1 z1) (h2 : Raw w a2 n2 c2 z2) (hi : (Lit.int .i64 i).wf = true) :
    Calls Try.prog 8 #[.slice a1 n1 c1, .slice a2 n2 c2, .int .i64 i] w fun e w' => e = .returned (.bool true) ∧ Below w.heap.size w w' := by
  have b1 := h1.len
  have b2 := h2.len
  by_cases hs : n1 ≤ 6 ∧ n2 ≤ 6 ∧ 0 ≤ 6
  · obtain ⟨s1, s2, s3⟩ := hs
    refine (sums_main a1 n1 c1 _ a2 n2 c2 _ i w (bounds_i64 hi) (h1.nums (by omega)) (h2.nums (by omega)) s1 s2).mono ?_
    rintro e w' ⟨_, rfl, hext, rfl⟩
    exact ⟨rfl, hext⟩
  · have hg := great_yes a1 a2 none n1 n2 0 c1 c2 0 w (by omega) (by omega) (by omega) hs
    clear hs
    go_enter Try.func8, Try.ntmps8
    go_wp2_with fail
    refine hg.mono ?_
    rintro e w' ⟨rfl, rfl⟩
    go_wp2_with fail
    refine (head_any _).mono ?_
    rintro e w1 ⟨_, rfl, hext, rfl⟩
    go_wp2
    go_ret
    exact ⟨rfl, hext⟩
end Go.Proofs.Ytnecpkoibknacaa
