/- The laws' arguments; great; sums and products of small numbers. -/
import Derived.OpenShut
import Derived.Test.YtnecpkoibknacaaW30
namespace Go.Proofs.Ytnecpkoibknacaa
set_option linter.unusedVariables false
open Go.RowKit

/-- A slice of limbs as a law gets it. -/
def Raw (w : World) (a : Option Addr) (len cap : Nat) (zs : List Int) : Prop :=
  (a = none ∧ len = 0 ∧ cap = 0 ∧ zs = []) ∨
  ∃ x, a = some x ∧ len ≤ cap ∧ cap ≤ maxLen ∧ zs.length = cap ∧ (∀ i, i < zs.length → w.cell? (x.add i) = some (.int .u64 (zs.getD i 0))) ∧ ∀ n ∈ zs, (Lit.int .u64 n).wf = true
theorem Raw.len {w : World} {a : Option Addr} {len cap : Nat} {zs : List Int} (h : Raw w a len cap zs) : len ≤ cap ∧ cap ≤ 9223372036854775807 := by
  rcases h with ⟨_, rfl, rfl, _⟩ | ⟨x, _, h1, h2, _⟩
  · exact ⟨Nat.le_refl _, Nat.zero_le _⟩
  · exact ⟨h1, by unfold maxLen at h2; omega⟩
/-- The limbs that a law's argument reads as. -/
def rawL (len : Nat) (zs : List Int) : List Nat := (zs.take len).map Int.toNat
theorem wf_u64 {n : Int} (h : (Lit.int .u64 n).wf = true) : 0 ≤ n ∧ n < 18446744073709551616 := by
  have := bounds_u64 h
  omega
theorem Raw.nums {w : World} {a : Option Addr} {len cap : Nat} {zs : List Int} (h : Raw w a len cap zs) (hl : len ≤ 65535) : Nums w a len cap (rawL len zs) := by
  rcases h with ⟨rfl, rfl, rfl, rfl⟩ | ⟨x, rfl, h1, h2, h3, h4, h5⟩
  · exact Nums.nil _ _ _
  · have hlen : (rawL len zs).length = len := by simp [rawL]; omega
    refine ⟨hlen, by omega, h1, fun y hy => ?_, ?_⟩
    · obtain ⟨n, hn, rfl⟩ := List.mem_map.1 hy
      have := wf_u64 (h5 n (List.mem_of_mem_take hn))
      unfold B64; omega
    · by_cases h0 : len = 0
      · exact .inl h0
      · obtain ⟨b, off, rfl, hc⟩ := ints_at h4 (by omega)
        refine .inr ⟨b, off, rfl, fun i hi => ?_⟩
        rw [hc i (by omega)]
        have e1 : zs[i]? = some zs[i] := List.getElem?_eq_getElem (by omega)
        have e2 : (rawL len zs)[i]?.getD 0 = zs[i].toNat := by
          rw [rawL, List.getElem?_map, List.getElem?_take, if_pos hi, e1]; rfl
        rw [e2, List.getD_eq_getElem?_getD, e1]
        have := wf_u64 (h5 zs[i] (List.getElem_mem _))
        simp only [Option.getD_some]
        congr 2
        omega
theorem Raw.is {w : World} {a : Option Addr} {len cap : Nat} {zs : List Int} (h : Raw w a len cap zs) (hl : len ≤ 6) : ∃ m, m < B64 ^ 6 ∧ IsN w (.slice a len cap) m := by
  have hn := h.nums (by omega)
  refine ⟨_, ?_, IsN.of hn (by omega)⟩
  have := val_lt hn.lt
  rw [hn.len] at this
  exact Nat.lt_of_lt_of_le this (Nat.pow_le_pow_right B64_pos hl)

theorem great_any (a1 a2 a3 : Option Addr) (n1 n2 n3 c1 c2 c3 : Nat) (w : World) (b1 : n1 ≤ 9223372036854775807) (b2 : n2 ≤ 9223372036854775807) (b3 : n3 ≤ 9223372036854775807) :
    Calls Try.prog 9 #[.slice a1 n1 c1, .slice a2 n2 c2, .slice a3 n3 c3] w fun e w' => e = .returned (.bool (decide ((6 : Int) < n1) || decide ((6 : Int) < n2) || decide ((6 : Int) < n3))) ∧ w = w' := by
  by_cases h1 : 6 < n1
  · go_enter Try.func9, Try.ntmps9
    go_wp2
    go_ret
    exact ⟨by simp, rfl⟩
  · by_cases h2 : 6 < n2
    · go_enter Try.func9, Try.ntmps9
      go_wp2
      go_ret
      exact ⟨by simp, rfl⟩
    · go_enter Try.func9, Try.ntmps9
      go_wp2
      go_ret
      exact ⟨by simp, rfl⟩
theorem great_no (a1 a2 a3 : Option Addr) (n1 n2 n3 c1 c2 c3 : Nat) (w : World) (h1 : n1 ≤ 6) (h2 : n2 ≤ 6) (h3 : n3 ≤ 6) :
    Calls Try.prog 9 #[.slice a1 n1 c1, .slice a2 n2 c2, .slice a3 n3 c3] w fun e w' => e = .returned (.bool false) ∧ w = w' := by
  refine (great_any a1 a2 a3 n1 n2 n3 c1 c2 c3 w (by omega) (by omega) (by omega)).mono ?_
  rintro e w' ⟨rfl, rfl⟩
  exact ⟨by rw [decide_eq_false (by omega), decide_eq_false (by omega), decide_eq_false (by omega)]; rfl, rfl⟩
theorem great_yes (a1 a2 a3 : Option Addr) (n1 n2 n3 c1 c2 c3 : Nat) (w : World) (b1 : n1 ≤ 9223372036854775807) (b2 : n2 ≤ 9223372036854775807) (b3 : n3 ≤ 9223372036854775807) (h : ¬ (n1 ≤ 6 ∧ n2 ≤ 6 ∧ n3 ≤ 6)) :
    Calls Try.prog 9 #[.slice a1 n1 c1, .slice a2 n2 c2, .slice a3 n3 c3] w fun e w' => e = .returned (.bool true) ∧ w = w' := by
  refine (great_any a1 a2 a3 n1 n2 n3 c1 c2 c3 w b1 b2 b3).mono ?_
  rintro e w' ⟨rfl, rfl⟩
  refine ⟨?_, rfl⟩
  congr 2
  simp
  omega

/-- A number of at most k limbs. -/
def Sm (k m : Nat) : Prop := m < B64 ^ k
theorem Sm.add {j k m n : Nat} (h1 : Sm j m) (h2 : Sm k n) : Sm (j + k + 1) (m + n) := by
  unfold Sm at *
  have a1 := Nat.lt_of_lt_of_le h1 (Nat.pow_le_pow_right B64_pos (show j ≤ j + k by omega))
  have a2 := Nat.lt_of_lt_of_le h2 (Nat.pow_le_pow_right B64_pos (show k ≤ j + k by omega))
  have : B64 ^ (j + k) * 2 ≤ B64 ^ (j + k) * B64 := Nat.mul_le_mul_left _ (by unfold B64; omega)
  rw [Nat.pow_succ]; omega
theorem Sm.mul {j k m n : Nat} (h1 : Sm j m) (h2 : Sm k n) : Sm (j + k) (m * n) := by
  unfold Sm at *
  rw [Nat.pow_add]
  exact Nat.mul_lt_mul_of_lt_of_le h1 (Nat.le_of_lt h2) (Nat.pow_pos B64_pos)
theorem Sm.le {j m n : Nat} (h : Sm j m) (e : n ≤ m) : Sm j n := Nat.lt_of_le_of_lt e h
theorem Sm.top {k m : Nat} (h : Sm k m) (hk : k ≤ 2048) : m < Top := top_le h hk
theorem cmpN_self (m : Nat) : cmpN m m = 0 := by unfold cmpN; rw [if_neg (by omega), if_neg (by omega)]
theorem cmp_eq {w : World} {v1 v2 : Value} {m1 m2 : Nat} (h1 : IsN w v1 m1) (h2 : IsN w v2 m2) (e : m1 = m2) : Calls Try.prog 30 #[v1, v2] w (Post w fun v _ => v = .int .i64 0) := by
  refine (cmp_n h1 h2).mono ?_
  rintro _ w' ⟨v, rfl, hext, rfl⟩
  subst e
  exact Post.mk hext (by rw [cmpN_self])
theorem cmp_below {w : World} {v1 v2 : Value} {m1 m2 : Nat} (h1 : IsN w v1 m1) (h2 : IsN w v2 m2) (e : m1 < m2) : Calls Try.prog 30 #[v1, v2] w (Post w fun v _ => v = .int .i64 (-1)) := by
  refine (cmp_n h1 h2).mono ?_
  rintro _ w' ⟨v, rfl, hext, rfl⟩
  exact Post.mk hext (by unfold cmpN; rw [if_pos e])
theorem cmp_above {w : World} {v1 v2 : Value} {m1 m2 : Nat} (h1 : IsN w v1 m1) (h2 : IsN w v2 m2) (e : m2 < m1) : Calls Try.prog 30 #[v1, v2] w (Post w fun v _ => v = .int .i64 1) := by
  refine (cmp_n h1 h2).mono ?_
  rintro _ w' ⟨v, rfl, hext, rfl⟩
  exact Post.mk hext (by unfold cmpN; rw [if_neg (by omega), if_pos e])
end Go.Proofs.Ytnecpkoibknacaa
