/- The reference's comparing; numbers held against each other. -/
import Derived.Test.YtnecpkoibknacaaW39
namespace Go.Proofs.Ytnecpkoibknacaa
open Go.RowKit

theorem div_digit (m t : Nat) : m / B32 ^ t = B32 * (m / B32 ^ (t + 1)) + dg m t := by
  unfold dg
  rw [Nat.pow_succ, ← Nat.div_div_eq_div_mul, Nat.div_add_mod]
theorem cmp_digit {m1 m2 t : Nat} (h : m1 / B32 ^ (t + 1) = m2 / B32 ^ (t + 1)) (hd : dg m1 t < dg m2 t) : m1 < m2 := by
  have h1 := div_digit m1 t
  have h2 := div_digit m2 t
  rw [h] at h1
  have : m1 / B32 ^ t < m2 / B32 ^ t := by omega
  exact Nat.lt_of_div_lt_div this
theorem cmpN_lt {m1 m2 : Nat} (h : m1 < m2) : cmpN m1 m2 = -1 := by unfold cmpN; rw [if_pos h]
theorem cmpN_gt {m1 m2 : Nat} (h : m2 < m1) : cmpN m1 m2 = 1 := by unfold cmpN; rw [if_neg (by omega), if_pos h]

set_option maxRecDepth 100000 in
set_option maxHeartbeats 1000000 in
theorem rcmp_n {w : World} {v1 v2 : Value} {m1 m2 : Nat} (h1 : IsN w v1 m1) (h2 : IsN w v2 m2) :
    Calls Try.prog 37 #[v1, v2] w fun e w' => e = .returned (.int .i64 (cmpN m1 m2)) ∧ w = w' := by
  obtain ⟨a1, n1, c1, rfl, l1, b1⟩ := h1.len
  obtain ⟨a2, n2, c2, rfl, l2, b2⟩ := h2.len
  obtain ⟨N, hN⟩ : ∃ N : Nat, max n1 n2 = N := ⟨_, rfl⟩
  have hN' : max (n1 : Int) n2 = N := by omega
  have hN1 : N ≤ 4096 := by omega
  have k1 : m1 < B32 ^ (2 * N) := Nat.lt_of_lt_of_le b1 (Nat.pow_le_pow_right B32_pos (by omega))
  have k2 : m2 < B32 ^ (2 * N) := Nat.lt_of_lt_of_le b2 (Nat.pow_le_pow_right B32_pos (by omega))
  clear hN b1 b2
  have loop : ∀ (M : Int), (2 * (N : Int) - 1 = M) → ((M = -1 ∧ Hid (m1 = m2)) ∨ ∃ t : Nat, M = t ∧ Hid (m1 / B32 ^ (t + 1) = m2 / B32 ^ (t + 1))) →
      Calls Try.prog 37 #[.slice a1 n1 c1, .slice a2 n2 c2] w fun e w' => e = .returned (.int .i64 (cmpN m1 m2)) ∧ w = w' := by
    intro M hM hst
    have hMb : -1 ≤ M ∧ M ≤ 8192 := by omega
    have HM := Lib.hid (And.intro hMb hst)
    clear hMb hst k1 k2
    go_enter Try.func37, Try.ntmps37
    go_wp2
    clear hM
    go_loop [5] (fun i => ∃ M : Int, i = .int .i64 M ∧ Hid (-1 ≤ M ∧ M ≤ 8192) ∧ ((M = -1 ∧ Hid (m1 = m2)) ∨ ∃ t : Nat, M = t ∧ Hid (m1 / B32 ^ (t + 1) = m2 / B32 ^ (t + 1)))) (fun i => (intOf i + 1).toNat)
    case atStart => exact ⟨M, rfl, Lib.hid HM.out.1, HM.out.2⟩
    case round =>
      clear HM
      obtain ⟨M', rfl, HB, ⟨rfl, HE⟩ | ⟨t, rfl, HE⟩⟩ := hrel
      · go_wp2
        go_ret
        exact ⟨by rw [HE.out, cmpN_self]; rfl, rfl⟩
      · have ht : t ≤ 8192 := by have := HB.out.2; omega
        have d1 := digit_n t h1 (by omega)
        have d2 := digit_n t h2 (by omega)
        have e1 : ((t : Nat) : Int) - 1 = (if t = 0 then -1 else ((t - 1 : Nat) : Int)) := by split <;> omega
        have s1 := fun h => cmp_digit (m1 := m1) (m2 := m2) (t := t) HE.out h
        have s2 := fun h => cmp_digit (m1 := m2) (m2 := m1) (t := t) HE.out.symm h
        have s3 := div_digit m1 t
        have s4 := div_digit m2 t
        rw [HE.out] at s3
        generalize dg m1 t = x at *
        generalize dg m2 t = y at *
        have HE1 := Lib.hid e1
        have HS1 := Lib.hid s1
        have HS2 := Lib.hid s2
        have HS3 := Lib.hid (And.intro s3 s4)
        clear s1 s2 s3 s4 e1
        by_cases hxy : x < y
        · have hc := cmpN_lt (HS1.out hxy)
          have HC := Lib.hid hc
          clear hc
          go_wp2_with fail
          refine d1.mono ?_
          rintro e w' ⟨rfl, rfl⟩
          go_wp2_with fail
          refine d2.mono ?_
          rintro e w' ⟨rfl, rfl⟩
          go_wp2
          go_ret
          exact ⟨by rw [HC.out]; rfl, rfl⟩
        · by_cases hyx : y < x
          · have hc := cmpN_gt (HS2.out hyx)
            have HC := Lib.hid hc
            clear hc
            go_wp2_with fail
            refine d1.mono ?_
            rintro e w' ⟨rfl, rfl⟩
            go_wp2_with fail
            refine d2.mono ?_
            rintro e w' ⟨rfl, rfl⟩
            go_wp2_with fail
            refine d1.mono ?_
            rintro e w' ⟨rfl, rfl⟩
            go_wp2_with fail
            refine d2.mono ?_
            rintro e w' ⟨rfl, rfl⟩
            go_wp2
            go_ret
            exact ⟨by rw [HC.out]; rfl, rfl⟩
          · obtain rfl : x = y := by omega
            have hq : m1 / B32 ^ t = m2 / B32 ^ t := by rw [HS3.out.1, HS3.out.2]
            have HQ := Lib.hid hq
            clear hxy hyx hq
            go_wp2_with fail
            refine d1.mono ?_
            rintro e w' ⟨rfl, rfl⟩
            go_wp2_with fail
            refine d2.mono ?_
            rintro e w' ⟨rfl, rfl⟩
            go_wp2_with fail
            refine d1.mono ?_
            rintro e w' ⟨rfl, rfl⟩
            go_wp2_with fail
            refine d2.mono ?_
            rintro e w' ⟨rfl, rfl⟩
            go_wp2
            go_round
            case rel =>
              refine ⟨(t : Int) - 1, rfl, Lib.hid (by omega), ?_⟩
              by_cases h0 : t = 0
              · left
                have := HQ.out
                subst h0
                rw [Nat.pow_zero, Nat.div_one, Nat.div_one] at this
                exact ⟨rfl, Lib.hid this⟩
              · right
                exact ⟨t - 1, by omega, Lib.hid (by rw [show t - 1 + 1 = t by omega]; exact HQ.out)⟩
            case measure => simp only [intOf]; omega
  by_cases h0 : N = 0
  · subst h0
    refine loop (-1) (by omega) (.inl ⟨rfl, Lib.hid ?_⟩)
    rw [Nat.mul_zero, Nat.pow_zero] at k1 k2
    omega
  · refine loop (2 * (N : Int) - 1) rfl (.inr ⟨2 * N - 1, by omega, Lib.hid ?_⟩)
    rw [show 2 * N - 1 + 1 = 2 * N by omega, Nat.div_eq_of_lt k1, Nat.div_eq_of_lt k2]
theorem digits_n {w : World} {v : Value} {m : Nat} (h : IsN w v m) (hb : m < Top) :
    Calls Try.prog 52 #[v] w fun e w' => e = .returned (.int .i64 ((blen m + 31) / 32 : Nat)) ∧ w = w' := by
  have hbl := blen_top hb
  have hc := rBits_n h
  have e : ((blen m : Int) + 31) / 32 = (((blen m + 31) / 32 : Nat) : Int) := by omega
  generalize blen m = n at *
  have HE := Lib.hid e
  clear e
  go_enter Try.func52, Try.ntmps52
  go_wp2_with fail
  refine hc.mono ?_
  rintro e w' ⟨rfl, rfl⟩
  go_wp2
  go_ret
  exact ⟨by rw [← HE.out]; rfl, rfl⟩
theorem same_n {w : World} {v1 v2 : Value} {m : Nat} (h1 : Num w v1 m) (h2 : Num w v2 m) :
    Calls Try.prog 14 #[v1, v2] w (Post w fun v _ => v = .bool true) := by
  obtain ⟨_, a1, n1, c1, rfl, h1⟩ := h1
  obtain ⟨_, a2, n2, c2, rfl, h2⟩ := h2
  obtain rfl : n1 = n2 := by rw [← h1.len, ← h2.len]
  refine same_any a1 a2 n1 c1 c2 _ w h1 h2 ?_
  by_cases h0 : n1 = 0
  · exact .inl h0
  · right
    obtain ⟨xs, t, e, ht, _⟩ := limbs_last (n := m) (fun h => h0 (by rw [← h1.len, h, limbs_zero]; rfl))
    have hl := h1.len
    rw [e] at hl ⊢
    rw [List.length_append, List.length_singleton] at hl
    rw [← hl, Nat.add_sub_cancel, List.getElem?_append_right (Nat.le_refl _)]
    simpa using ht
end Go.Proofs.Ytnecpkoibknacaa
