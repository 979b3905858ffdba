/- The reference's differences and shifts. -/
import Derived.Test.YtnecpkoibknacaaW37
namespace Go.Proofs.Ytnecpkoibknacaa
open Go.RowKit

set_option maxRecDepth 100000 in
set_option maxHeartbeats 1000000 in
theorem rsub_n {w : World} {v1 v2 : Value} {m1 m2 : Nat} (h1 : IsN w v1 m1) (h2 : IsN w v2 m2) (ht : m1 < Top) (hle : m2 ≤ m1) :
    Calls Try.prog 38 #[v1, v2] w (Post w fun v w' => Num w' v (m1 - m2)) := by
  obtain ⟨i0, hi, hz0, hz1, hz2⟩ := info_parts info_u64
  obtain ⟨a1, N, c1, rfl, l1, b1⟩ := h1.len
  have HD := Lib.hid (And.intro b1 hle)
  have HT := Lib.hid ht
  clear b1 ht hle
  go_enter Try.func38, Try.ntmps38
  go_wp2
  go_loopw [5, 6, 7] (fun o cv i wr => ∃ (j c : Nat) (L : List Nat), (j : Int) ≤ 2 * (N : Int) ∧ i = .int .i64 j ∧ cv = .int .u64 c ∧ c ≤ 1 ∧ Own wr w.heap.size o L ∧ Hid (Borrow m1 m2 j L c) ∧ Ext w wr) (fun _ _ i _ => 2 * N - (intOf i).toNat)
  case atStart => exact ⟨0, 0, [], by omega, rfl, rfl, by omega, Own.nil _ _, Lib.hid (Borrow.start _ _), Ext.refl _⟩
  case round =>
    obtain ⟨j, c, L, hj, rfl, rfl, hc, hown, HC, hE⟩ := hrel
    by_cases hlt : (j : Int) < 2 * (N : Int)
    · have hx := dg_lt m1 j
      have hy := dg_lt m2 j
      have hst := fun d hd => HC.out.step (d := d) hd
      have d1 := digit_n j (h1.ext hE) (by omega)
      have d2 := digit_n j (h2.ext hE) (by omega)
      generalize dg m1 j = x at *
      generalize dg m2 j = y at *
      have hx' : (x : Int) < 4294967296 := by unfold B32 at hx; omega
      have hy' : (y : Int) < 4294967296 := by unfold B32 at hy; omega
      have hc' : (c : Int) ≤ 1 := by omega
      obtain ⟨s, hs⟩ : ∃ s, 4294967296 + x - y - c = s := ⟨_, rfl⟩
      have hs' : 4294967296 + (x : Int) - y - c = s := by omega
      have hsb : (s : Int) < 18446744073709551616 := by omega
      obtain ⟨hq1, hcar⟩ := hst s (by unfold B32 at *; omega)
      obtain ⟨r, hr⟩ : ∃ r, s % B32 = r := ⟨_, rfl⟩
      obtain ⟨q, hq⟩ : ∃ q, s / B32 = q := ⟨_, rfl⟩
      have hr' : (s : Int) % 4294967296 = r := by rw [← hr]; rfl
      have hq' : (s : Int) / 4294967296 = q := by rw [← hq]; rfl
      rw [hr, hq] at hcar
      rw [hq] at hq1
      have hq2 : (q : Int) ≤ 1 := by omega
      obtain ⟨cc, hcc⟩ : ∃ cc, 1 - q = cc := ⟨_, rfl⟩
      have hcc' : 1 - (q : Int) = cc := by omega
      rw [hcc] at hcar
      have hcc1 : cc ≤ 1 := by omega
      have HC2 := Lib.hid hcar
      have HL := Lib.hid HC.out.len
      clear hst hs hr hq hcar hx hy hcc hq1
      go_wp2_with fail
      refine d1.mono ?_
      rintro e w' ⟨rfl, rfl⟩
      go_wp2_with fail
      refine d2.mono ?_
      rintro e w' ⟨rfl, rfl⟩
      clear d1 d2
      go_wp2_with (at_builtin; refine wpList_app w (hE.alloc _) rfl _ _ 22 rfl 48 i0 (.int .u64 0) 1 8 Try.underlying22 hi hz0 hz1 hz2 rfl (by decide) _ L.length (lims L) rfl (hown.alloc _) (some ⟨wr.heap.size, 0, none⟩) 1 1 [.int .u64 (r : Int)] rfl rfl (.inr ⟨_, rfl, cell_one_new _ _ _⟩) (by simp [Value.oneCell']) (by have := HL.out; omega) (by have := HL.out; omega) ?_; intro v' w1 hown1 hext1 _)
      go_roundw
      case rel => exact ⟨j + 1, cc, L ++ [r], by omega, by go_num, rfl, hcc1, Own.of hown1, HC2, hext1⟩
      case measure => simp only [intOf]; omega
    · have HL := Lib.hid HC.out.len
      have hdn := HC.out.done (Nat.lt_of_lt_of_le HD.out.1 (Nat.pow_le_pow_right B32_pos (by omega))) HD.out.2
      have HDN := Lib.hid hdn
      clear hdn
      go_wp2_with fail
      refine (made_own hown HC.out.lt (by have := HL.out; omega) (by rw [HDN.out]; exact Nat.lt_of_le_of_lt (Nat.sub_le _ _) HT.out)).mono ?_
      rintro e w2 ⟨v, rfl, E2, hv⟩
      rw [HDN.out] at hv
      go_wp2
      go_ret
      exact Post.mk (hE.trans E2) hv

theorem Own.of_row {w : World} {b B n : Nat} {L : List Nat} (h : Row w b 48 L) (hB : B ≤ b) (hn : n = L.length) (hm : n ≤ 1000000) : Own w B (.slice (some ⟨b, 0, none⟩) n n) L := by
  subst hn
  refine ⟨by simp [lims], .inr ⟨b, L.length, _, rfl, hB, h, Nat.le_refl _, by unfold maxLen; omega, by simp [lims], by rw [Nat.mul_one]; exact List.take_of_length_le (by simp [lims])⟩⟩
theorem shl_bd {x r : Nat} (hx : x < B32) (hr : r < 32) : x * 2 ^ r + B32 ≤ B64 := by
  have h1 : (2 : Nat) ^ r ≤ 2 ^ 31 := Nat.pow_le_pow_right (by omega) (by omega)
  have h2 : x * 2 ^ r ≤ x * 2 ^ 31 := Nat.mul_le_mul_left _ h1
  unfold B32 B64 at *
  omega

set_option maxRecDepth 100000 in
set_option maxHeartbeats 1000000 in
theorem rshl_n {w : World} {v1 : Value} {m1 : Nat} (k : Nat) (h1 : IsN w v1 m1) (hk : k ≤ 1000000) (ht : m1 * 2 ^ k < Top) :
    Calls Try.prog 21 #[v1, .int .i64 k] w (Post w fun v w' => Num w' v (m1 * 2 ^ k)) := by
  obtain ⟨i0, hi, hz0, hz1, hz2⟩ := info_parts info_u64
  obtain ⟨a1, N, c1, rfl, l1, b1⟩ := h1.len
  obtain ⟨q, hq⟩ : ∃ q, k / 32 = q := ⟨_, rfl⟩
  obtain ⟨r, hr⟩ : ∃ r, k % 32 = r := ⟨_, rfl⟩
  have hq' : (k : Int) / 32 = q := by omega
  have hr' : (k : Int) % 32 = r := by omega
  have hr32 : r < 32 := by omega
  have hq32 : q ≤ 40000 := by omega
  have hsp := shl_split q r k (by omega)
  have hdn := shlT_done (q := q) b1 hr32
  rw [← hsp] at hdn
  have HD := Lib.hid hdn
  have HT := Lib.hid ht
  have hT0 : shlT m1 q r 0 = 0 := by simp [shlT, Nat.mod_one]
  have HT0 := Lib.hid hT0
  clear b1 ht hq hr hsp hdn hT0
  go_enter Try.func21, Try.ntmps21
  go_wp2_with (at_make; refine wpList_make_row _ rfl _ _ 22 rfl 48 i0 Try.underlying22 hi hz0 hz1 hz2 _ _ _ _ q rfl rfl (by omega) (by omega) (by omega) ?_; intro w1 hrow hext hsz)
  have hown0 : Own w1 w.heap.size (.slice (some ⟨w.heap.size, 0, none⟩) q q) (List.replicate q 0) := Own.of_row hrow (Nat.le_refl _) (by simp) (by omega)
  go_loopw [5, 6, 7] (fun o cv i wr => ∃ (j c : Nat) (L : List Nat), (j : Int) ≤ 2 * (N : Int) + 1 ∧ i = .int .i64 j ∧ cv = .int .u64 c ∧ c < B32 ∧ Own wr w.heap.size o L ∧ Hid (Carry L (q + j) c (shlT m1 q r j)) ∧ Ext w wr) (fun _ _ i _ => 2 * N + 1 - (intOf i).toNat)
  case atStart => exact ⟨0, 0, _, by omega, rfl, rfl, B32_pos, hown0, Lib.hid ⟨by simp, fun x hx => by rw [(List.mem_replicate.1 hx).2]; exact B32_pos, by rw [dval_zeros, HT0.out, Nat.mul_zero]⟩, hext⟩
  case round =>
    clear hrow hext hsz hown0
    obtain ⟨j, c, L, hj, rfl, rfl, hc, hown, HC, hE⟩ := hrel
    by_cases hlt : (j : Int) ≤ 2 * (N : Int)
    · have hx := dg_lt m1 j
      have hst := shlT_step m1 q r j
      have d1 := digit_n j (h1.ext hE) (by omega)
      generalize dg m1 j = x at *
      have hbd := shl_bd hx hr32
      obtain ⟨t, ht⟩ : ∃ t, x * 2 ^ r = t := ⟨_, rfl⟩
      rw [ht] at hst hbd
      have ht' : IntKind.u64.wrap ((x : Int) * 2 ^ r) = t := by
        have e : (x : Int) * 2 ^ r = t := by rw [← ht]; push_cast; rfl
        rw [e]; exact IntWalk.u64_in _ (by unfold B32 B64 at hbd; omega)
      have hx' : (x : Int) < 4294967296 := by unfold B32 at hx; omega
      have hc' : (c : Int) < 4294967296 := by unfold B32 at hc; omega
      have htb : (t : Int) ≤ 18446744069414584320 := by unfold B32 B64 at hbd; omega
      obtain ⟨s, hs⟩ : ∃ s, t + c = s := ⟨_, rfl⟩
      have hs' : (t : Int) + c = s := by omega
      have hsb : (s : Int) < 18446744073709551616 := by omega
      obtain ⟨u, hu⟩ : ∃ u, s % B32 = u := ⟨_, rfl⟩
      obtain ⟨y, hy⟩ : ∃ y, s / B32 = y := ⟨_, rfl⟩
      have hu' : (s : Int) % 4294967296 = u := by rw [← hu]; rfl
      have hy' : (s : Int) / 4294967296 = y := by rw [← hy]; rfl
      have hy1 : y < B32 := by rw [← hy]; unfold B32 at *; omega
      have hcar := HC.out.step t s hs.symm hst
      rw [hu, hy, Nat.add_assoc] at hcar
      have HC2 := Lib.hid hcar
      have HL := Lib.hid HC.out.len
      have HCC := Lib.hid hc
      clear hst ht hs hu hy hcar hx hbd hc
      go_wp2_with fail
      refine d1.mono ?_
      rintro e w' ⟨rfl, rfl⟩
      clear d1
      go_wp2_with (at_builtin; refine wpList_app w (hE.alloc _) rfl _ _ 22 rfl 48 i0 (.int .u64 0) 1 8 Try.underlying22 hi hz0 hz1 hz2 rfl (by decide) _ L.length (lims L) rfl (hown.alloc _) (some ⟨wr.heap.size, 0, none⟩) 1 1 [.int .u64 (u : Int)] rfl rfl (.inr ⟨_, rfl, cell_one_new _ _ _⟩) (by simp [Value.oneCell']) (by have := HL.out; omega) (by have := HL.out; omega) ?_; intro v' w1 hown1 hext1 _)
      go_roundw
      case rel => exact ⟨j + 1, y, L ++ [u], by omega, by go_num, rfl, hy1, Own.of hown1, HC2, hext1⟩
      case measure => simp only [intOf]; omega
    · obtain rfl : j = 2 * N + 1 := by omega
      have HL := Lib.hid HC.out.len
      have hdn := HC.out.done HD.out.2
      rw [HD.out.1] at hdn
      have HDN := Lib.hid hdn.1
      clear hdn
      go_wp2_with fail
      refine (made_own hown HC.out.lt (by have := HL.out; omega) (by rw [HDN.out]; exact HT.out)).mono ?_
      rintro e w2 ⟨v, rfl, E2, hv⟩
      rw [HDN.out] at hv
      go_wp2
      go_ret
      exact Post.mk (hE.trans E2) hv
set_option maxRecDepth 100000 in
set_option maxHeartbeats 1000000 in
theorem rshr_n {w : World} {v1 : Value} {m1 : Nat} (k : Nat) (h1 : IsN w v1 m1) (hk : k ≤ 1000000) (ht : m1 < Top) :
    Calls Try.prog 22 #[v1, .int .i64 k] w (Post w fun v w' => Num w' v (m1 / 2 ^ k)) := by
  obtain ⟨i0, hi, hz0, hz1, hz2⟩ := info_parts info_u64
  obtain ⟨a1, N, c1, rfl, l1, b1⟩ := h1.len
  obtain ⟨q, hq⟩ : ∃ q, k / 32 = q := ⟨_, rfl⟩
  obtain ⟨r, hr⟩ : ∃ r, k % 32 = r := ⟨_, rfl⟩
  have hq' : (k : Int) / 32 = q := by omega
  have hr' : (k : Int) % 32 = r := by omega
  have hr32 : r < 32 := by omega
  have hq32 : q ≤ 40000 := by omega
  have hsm := down_small (q := q) (r := r) b1
  have hkq : 32 * q + r = k := by omega
  rw [hkq] at hsm
  have hlt2 : m1 / 2 ^ k < Top := Nat.lt_of_le_of_lt (Nat.div_le_self _ _) ht
  have HK := Lib.hid hkq
  have HSM := Lib.hid hsm
  have HT := Lib.hid hlt2
  clear b1 ht hq hr hkq hsm hlt2
  go_enter Try.func22, Try.ntmps22
  go_wp2
  go_loopw [5, 6] (fun o i wr => ∃ (j d : Nat) (L : List Nat), (j : Int) = q + d ∧ i = .int .i64 j ∧ (d = 0 ∨ (j : Int) ≤ 2 * (N : Int)) ∧ Own wr w.heap.size o L ∧ Hid (Down (m1 / 2 ^ k) d L) ∧ Ext w wr) (fun _ i _ => 2 * N - (intOf i).toNat)
  case atStart => exact ⟨q, 0, [], by omega, rfl, .inl rfl, Own.nil _ _, Lib.hid (Down.start _), Ext.refl _⟩
  case round =>
    obtain ⟨j, d, L, hjd, rfl, hj, hown, HC, hE⟩ := hrel
    have HJ := Lib.hid (And.intro hjd hj)
    clear hjd hj
    by_cases hlt : (j : Int) < 2 * (N : Int)
    · have hjd : j = q + d := by have := HJ.out.1; omega
      have hx := dg_lt m1 j
      have hy := dg_lt m1 (j + 1)
      have hst := down_digit m1 q r j hr32 (by omega)
      rw [HK.out, show j - q = d by omega] at hst
      have d1 := digit_n j (h1.ext hE) (by omega)
      have d2 := digit_n (j + 1) (h1.ext hE) (by omega)
      rw [show (((j + 1 : Nat)) : Int) = (j : Int) + 1 from rfl] at d2
      generalize dg m1 j = x at *
      generalize dg m1 (j + 1) = y at *
      have hx' : (x : Int) < 4294967296 := by unfold B32 at hx; omega
      have hy' : (y : Int) < 4294967296 := by unfold B32 at hy; omega
      obtain ⟨s, hs⟩ : ∃ s, x + y * B32 = s := ⟨_, rfl⟩
      have hs' : (x : Int) + y * 4294967296 = s := by rw [← hs]; unfold B32; omega
      have hsb : (s : Int) < 18446744073709551616 := by omega
      rw [hs] at hst
      obtain ⟨t, ht⟩ : ∃ t, s / 2 ^ r = t := ⟨_, rfl⟩
      have ht' : (s : Int) / 2 ^ r = t := by rw [← ht]; push_cast; rfl
      have htb : (t : Int) < 18446744073709551616 := by
        have := Nat.div_le_self s (2 ^ r)
        omega
      rw [ht] at hst
      obtain ⟨u, hu⟩ : ∃ u, t % B32 = u := ⟨_, rfl⟩
      have hu' : (t : Int) % 4294967296 = u := by rw [← hu]; rfl
      rw [hu] at hst
      have HC2 := Lib.hid (HC.out.step hst)
      have HL := Lib.hid HC.out.len
      have hjq : (j : Int) = q + d := HJ.out.1
      have HJQ := Lib.hid hjq
      clear hst ht hs hu hx hy hjd hjq
      go_wp2_with fail
      refine d1.mono ?_
      rintro e w' ⟨rfl, rfl⟩
      go_wp2_with fail
      refine d2.mono ?_
      rintro e w' ⟨rfl, rfl⟩
      clear d1 d2
      go_wp2_with (at_builtin; refine wpList_app w (hE.alloc _) rfl _ _ 22 rfl 48 i0 (.int .u64 0) 1 8 Try.underlying22 hi hz0 hz1 hz2 rfl (by decide) _ L.length (lims L) rfl (hown.alloc _) (some ⟨wr.heap.size, 0, none⟩) 1 1 [.int .u64 (u : Int)] rfl rfl (.inr ⟨_, rfl, cell_one_new _ _ _⟩) (by simp [Value.oneCell']) (by have := HL.out; have := HJQ.out; omega) (by have := HL.out; have := HJQ.out; omega) ?_; intro v' w1 hown1 hext1 _)
      go_roundw
      case rel => exact ⟨j + 1, d + 1, L ++ [u], by have := HJQ.out; omega, by go_num, .inr (by omega), Own.of hown1, HC2, hext1⟩
      case measure => simp only [intOf]; omega
    · have HL := Lib.hid HC.out.len
      have hge : 2 * N - q ≤ d := by have := HJ.out.1; omega
      have hdn := HC.out.eq
      rw [mod_big (Nat.lt_of_lt_of_le HSM.out (Nat.pow_le_pow_right B32_pos hge))] at hdn
      have HDN := Lib.hid hdn
      have hd : d ≤ 60000 := by have := HJ.out; omega
      clear hdn hge
      go_wp2_with fail
      refine (made_own hown HC.out.lt (by have := HL.out; omega) (by rw [HDN.out]; exact HT.out)).mono ?_
      rintro e w2 ⟨v, rfl, E2, hv⟩
      rw [HDN.out] at hv
      go_wp2
      go_ret
      exact Post.mk (hE.trans E2) hv
end Go.Proofs.Ytnecpkoibknacaa
