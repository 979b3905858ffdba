/- The reference's products. -/
import Derived.Test.YtnecpkoibknacaaW38
namespace Go.Proofs.Ytnecpkoibknacaa
open Go.RowKit

theorem digit_q {wr : World} {v : Value} {m : Nat} (i : Nat) (h : IsN wr v m) (hi : i ≤ 1000000) (q : Nat) :
    Calls Try.prog 53 #[v, .int .i64 i] (wr.drewN q) fun e w' => e = .returned (.int .u64 (dg m i)) ∧ w' = wr.drewN q := by
  refine (digit_n i (h.ext ((Ext.refl wr).drewN q)) hi).mono ?_
  rintro e w' ⟨rfl, rfl⟩
  exact ⟨rfl, rfl⟩

set_option maxRecDepth 100000 in
set_option maxHeartbeats 2000000 in
theorem rmul_n {w : World} {v1 v2 : Value} {m1 m2 : Nat} (h1 : IsN w v1 m1) (h2 : IsN w v2 m2) (ht : m1 * m2 < Top) :
    Calls Try.prog 36 #[v1, v2] w (Post w fun v w' => Num w' v (m1 * m2)) := by
  obtain ⟨i0, hi, hz0, hz1, hz2⟩ := info_parts info_u64
  obtain ⟨a1, l1, c1, rfl, L1, b1⟩ := h1.len
  obtain ⟨a2, l2, c2, rfl, L2, b2⟩ := h2.len
  obtain ⟨N, hN⟩ : ∃ N : Nat, 2 * l1 + 2 * l2 + 1 = N := ⟨_, rfl⟩
  have hN' : 2 * (l1 : Int) + 2 * (l2 : Int) + 1 = N := by omega
  have hN1 : N ≤ 20000 := by omega
  have HN := Lib.hid hN
  have HB1 := Lib.hid b1
  have HB2 := Lib.hid b2
  have HT := Lib.hid ht
  clear hN b1 b2 ht
  go_enter Try.func36, Try.ntmps36
  go_wp2_with (at_make; refine wpList_make_row _ rfl _ _ 22 rfl 48 i0 Try.underlying22 hi hz0 hz1 hz2 _ _ _ _ N rfl rfl (by omega) (by omega) (by omega) ?_; intro w1 hrow hext hsz)
  clear hN'
  go_loopw [6, 7, 8, 9] (fun i _ _ _ wr => ∃ (j : Nat) (R : List Nat), (j : Int) ≤ 2 * (l1 : Int) ∧ i = .int .i64 j ∧ Row wr w.heap.size 48 R ∧ Hid (MulR m1 m2 (2 * l2) N j 0 R 0) ∧ Ext w wr) (fun i _ _ _ _ => 2 * l1 - (intOf i).toNat)
  case atStart => exact ⟨0, _, by omega, rfl, hrow, Lib.hid (MulR.start _ _ _ _), hext⟩
  case round =>
    clear hrow hext hsz
    obtain ⟨j, R, hj, rfl, hrow, HM, hE⟩ := hrel
    by_cases hlt : (j : Int) < 2 * (l1 : Int)
    · go_wp2
      obtain ⟨wo, rfl⟩ : ∃ x, x = wr := ⟨_, rfl⟩
      go_loopw [7, 8, 9] (fun cv kv _ wr => ∃ (k c : Nat) (R : List Nat), (k : Int) ≤ 2 * (l2 : Int) + 1 ∧ kv = .int .i64 k ∧ cv = .int .u64 c ∧ Row wr w.heap.size 48 R ∧ Hid (MulR m1 m2 (2 * l2) N j k R c) ∧ Ext w wr) (fun _ kv _ _ => 2 * l2 + 1 - (intOf kv).toNat)
      case atStart => exact ⟨0, 0, R, by omega, rfl, rfl, hrow, HM, hE⟩
      case round =>
        clear hrow HM hE R
        obtain ⟨k, c, R, hk, rfl, rfl, hrow, HM, hE⟩ := hrel
        by_cases hlk : (k : Int) ≤ 2 * (l2 : Int)
        · obtain ⟨t, htt⟩ : ∃ t, j + k = t := ⟨_, rfl⟩
          have htN : t < N := by have := HN.out; omega
          have hRl := HM.out.len
          have cz := hrow.cell (i := t) (by omega)
          have fz := hrow.frozen t
          have hx := dg_lt m1 j
          have hy := dg_lt m2 k
          have hst := fun s hs => HM.out.step (s := s) (by omega) hs
          rw [htt] at hst
          have hz := HM.out.lt
          have hzz : R[t]?.getD 0 < B32 := by rw [List.getElem?_eq_getElem (by omega)]; exact hz _ (List.getElem_mem _)
          have d1 := digit_q j (h1.ext hE) (by omega)
          have d2 := digit_q k (h2.ext hE) (by omega)
          have hp := prod_lt hx hy
          have hcb := HM.out.c1
          generalize dg m1 j = x at *
          generalize dg m2 k = y at *
          generalize R[t]?.getD 0 = z at *
          obtain ⟨p, hpe⟩ : ∃ p, x * y = p := ⟨_, rfl⟩
          rw [hpe] at hp hst
          obtain ⟨s1, hs1⟩ : ∃ s1, z + p = s1 := ⟨_, rfl⟩
          obtain ⟨s, hs⟩ : ∃ s, s1 + c = s := ⟨_, rfl⟩
          obtain ⟨hsb, hok⟩ := hst s (by omega)
          obtain ⟨u, hu⟩ : ∃ u, s % B32 = u := ⟨_, rfl⟩
          obtain ⟨q, hq⟩ : ∃ q, s / B32 = q := ⟨_, rfl⟩
          rw [hu, hq] at hok
          have HOK := Lib.hid hok
          have w1 : IntKind.i64.wrap ((j : Int) + k) = t := by rw [IntWalk.i64_in _ (by omega)]; omega
          have w2 : IntKind.u64.wrap ((x : Int) * y) = p := by
            have e : (x : Int) * y = p := by rw [← hpe]; push_cast; rfl
            rw [e]; exact IntWalk.u64_in _ (by unfold B64 at hsb; omega)
          have w3 : IntKind.u64.wrap ((z : Int) + p) = s1 := by rw [IntWalk.u64_in _ (by unfold B64 at hsb; omega)]; omega
          have w4 : IntKind.u64.wrap ((s1 : Int) + c) = s := by rw [IntWalk.u64_in _ (by unfold B64 at hsb; omega)]; omega
          have hu' : (s : Int) % 4294967296 = u := by rw [← hu]; rfl
          have hq' : (s : Int) / 4294967296 = q := by rw [← hq]; rfl
          have hs64 : (s : Int) < 18446744073709551616 := by unfold B64 at hsb; omega
          have t0 : (0 : Int) ≤ (t : Int) := by omega
          have t1 : (t : Int) < N := by omega
          have hjk : (j : Int) + k = t := by omega
          have HJK := Lib.hid hjk
          have HRL := Lib.hid hRl
          clear hst hz hzz hp hcb hpe hs1 hs hsb hok hu hq hx hy htt hRl htN hjk hlt hj hk
          have HW := Lib.hid (And.intro w1 (And.intro w2 (And.intro w3 (And.intro w4 (And.intro hu' (And.intro hq' hs64))))))
          clear w1 w2 w3 w4 hu' hq' hs64
          go_wp2
          obtain ⟨w1, w2, w3, w4, hu', hq', hs64⟩ := HW.out
          go_quiet ((go_at_call 53; first | (with_reducible exact Calls.quiet_of_same (d1 _)) | (with_reducible exact Calls.quiet_of_same (d2 _))))
          have hjk := HJK.out
          clear d1 d2 w1
          clear w2 w3 w4
          go_wp2
          go_roundw
          case rel => exact ⟨k + 1, q, _, by omega, by go_num, rfl, (hrow.drewN nq).set t u, HOK, (hE.drewN nq).set (p := ⟨w.heap.size, t, none⟩) (Nat.le_refl _) _⟩
          case measure => simp only [intOf]; omega
        · obtain rfl : k = 2 * l2 + 1 := by omega
          have HM2 := Lib.hid (HM.out.next HB2.out)
          clear hk
          go_wp2
          go_roundw
          case rel => exact ⟨j + 1, R, by omega, by go_num, hrow, HM2, hE⟩
          case measure => simp only [intOf]; omega
    · obtain rfl : j = 2 * l1 := by omega
      have hdn := HM.out.done HB1.out
      have hRl := HM.out.len
      have hown := Own.of_row (B := w.heap.size) (n := N) hrow (Nat.le_refl _) hRl.symm (by omega)
      have HDN := Lib.hid (And.intro hdn hRl)
      clear hdn hRl hlt hj
      go_wp2_with fail
      refine (made_own hown HM.out.lt (by have := HDN.out.2; omega) (by rw [HDN.out.1]; exact HT.out)).mono ?_
      rintro e w2 ⟨v, rfl, E2, hv⟩
      rw [HDN.out.1] at hv
      go_wp2
      go_ret
      exact Post.mk (hE.trans E2) hv
end Go.Proofs.Ytnecpkoibknacaa
