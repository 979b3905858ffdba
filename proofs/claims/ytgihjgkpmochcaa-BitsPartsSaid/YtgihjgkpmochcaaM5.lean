/- Parts of the proof: contracts of the functions that the law reaches, and the arithmetic that they rest on; no condition beyond those that each theorem states. -/
import Derived.OpenShut
import Derived.Test.YtgihjgkpmochcaaM4

namespace Go.Proofs.Ytgihjgkpmochcaa
open Go.RowKit

theorem Nums.two {w : World} {b x y c : Nat} (h0 : w.cell? ⟨b, 0, none⟩ = some (.int .u64 x)) (h1 : w.cell? ⟨b, 1, none⟩ = some (.int .u64 y)) (hx : x < B64) (hy : y < B64) (hc : 2 ≤ c) : Nums w (some ⟨b, 0, none⟩) 2 c [x, y] :=
  ⟨rfl, by omega, hc, by simp [hx, hy], .inr ⟨b, 0, rfl, fun i hi => by
    match i, hi with
    | 0, _ => exact h0
    | 1, _ => exact h1⟩⟩
theorem IsN.two {w : World} {b x y c : Nat} (h0 : w.cell? ⟨b, 0, none⟩ = some (.int .u64 x)) (h1 : w.cell? ⟨b, 1, none⟩ = some (.int .u64 y)) (hx : x < B64) (hy : y < B64) (hc : 2 ≤ c) : IsN w (.slice (some ⟨b, 0, none⟩) 2 c) (val [x, y]) :=
  ⟨_, _, _, _, rfl, Nums.two h0 h1 hx hy hc, by omega, rfl⟩
theorem Num.one {w : World} {v : Value} {m x : Nat} (h : Num w v m) (e : limbs m = [x]) : ∃ b off c, v = .slice (some ⟨b, off, none⟩) 1 c ∧ w.cell? ⟨b, off, none⟩ = some (.int .u64 (x : Int)) := by
  obtain ⟨ht, a, n, c, rfl, h⟩ := h
  rw [e] at h
  obtain rfl := h.len
  rcases h.at_ with h0 | ⟨b, off, rfl, hc⟩
  · cases h0
  · exact ⟨b, off, c, rfl, hc 0 (by simp)⟩
theorem Num.two {w : World} {v : Value} {m x y : Nat} (h : Num w v m) (e : limbs m = [x, y]) : ∃ b off c, v = .slice (some ⟨b, off, none⟩) 2 c ∧ w.cell? ⟨b, off, none⟩ = some (.int .u64 (x : Int)) ∧ w.cell? ⟨b, off + 1, none⟩ = some (.int .u64 (y : Int)) := by
  obtain ⟨ht, a, n, c, rfl, h⟩ := h
  rw [e] at h
  obtain rfl := h.len
  rcases h.at_ with h0 | ⟨b, off, rfl, hc⟩
  · cases h0
  · exact ⟨b, off, c, rfl, hc 0 (by simp), hc 1 (by simp)⟩

theorem limbs_one {x : Nat} (h : x < B64) (h0 : x ≠ 0) : limbs x = [x] := by
  have := limbs_val (xs := [x]) (by simpa using h) (.inr (by simpa using h0))
  rwa [val_one] at this
theorem limbs_two {x y : Nat} (hx : x < B64) (hy : y < B64) (h0 : y ≠ 0) : limbs (x + B64 * y) = [x, y] := by
  have := limbs_val (xs := [x, y]) (by simp [hx, hy]) (.inr (by simpa using h0))
  rwa [show val [x, y] = x + B64 * y by simp [val]] at this
theorem head_mul : limbs (18446744073709551615 * 18446744073709551615) = [1, 18446744073709551614] := by
  rw [show 18446744073709551615 * 18446744073709551615 = 1 + B64 * 18446744073709551614 by unfold B64; omega]
  exact limbs_two (by unfold B64; omega) (by unfold B64; omega) (by omega)
theorem val_zero_one : val [0, 1] = 18446744073709551616 := by simp [val, B64]
theorem head_text : decT 18446744073709551616 = [49, 56, 52, 52, 54, 55, 52, 52, 48, 55, 51, 55, 48, 57, 53, 53, 49, 54, 49, 54] := by
  unfold decT
  rw [if_neg (by omega)]
  iterate 20 rw [rdig_pos (by omega)]
  rw [rdig]
  simp
theorem top_of {m k : Nat} (h : m < B64 ^ k) (hk : k ≤ 2048) : m < Top := top_le h hk
theorem head_root : IsRoot 99 9 := ⟨by omega, by omega⟩
theorem head_gcd : Nat.gcd 12 18 = 6 := by decide
def s0018 : ByteArray := ⟨#[48, 48, 49, 56]⟩
theorem head_digits : Digits s0018 := ⟨by decide, by decide⟩
theorem head_num : numOf (bts s0018) = 18 := by decide

theorem head_small {m : Nat} (h : m < 18446744073709551616) : m < Top := Nat.lt_of_lt_of_le h Top_big
theorem head_t1 : 18446744073709551615 * 18446744073709551615 < Top := top_of (k := 2) (by unfold B64; omega) (by omega)
theorem head_t2 : val [0, 1] < Top := top_of (k := 2) (by rw [val_zero_one]; unfold B64; omega) (by omega)
theorem head_q : val [0, 1] / 10 = 1844674407370955161 := by rw [val_zero_one]
theorem head_r : val [0, 1] % 10 = 6 := by rw [val_zero_one]
theorem head_str : (txt [49, 56, 52, 52, 54, 55, 52, 52, 48, 55, 51, 55, 48, 57, 53, 53, 49, 54, 49, 54]).toList = [49, 56, 52, 52, 54, 55, 52, 52, 48, 55, 51, 55, 48, 57, 53, 53, 49, 54, 49, 54] := by
  rw [ByteArray.toList_eq]; rfl

end Go.Proofs.Ytgihjgkpmochcaa

namespace Go.Proofs.Ytgihjgkpmochcaa
set_option linter.unusedVariables false
open Go.RowKit

/-- A slice of limbs as a law gets it. -/
def Raw (w : World) (a : Option Addr) (len cap : Nat) (zs : List Int) : Prop :=
  (a = none ∧ len = 0 ∧ cap = 0 ∧ zs = []) ∨
  ∃ x, a = some x ∧ len ≤ cap ∧ cap ≤ maxLen ∧ zs.length = cap ∧ (∀ i, i < zs.length → w.cell? (x.add i) = some (.int .u64 (zs.getD i 0))) ∧ ∀ n ∈ zs, (Lit.int .u64 n).wf = true
theorem Raw.len {w : World} {a : Option Addr} {len cap : Nat} {zs : List Int} (h : Raw w a len cap zs) : len ≤ cap ∧ cap ≤ 9223372036854775807 := by
  rcases h with ⟨_, rfl, rfl, _⟩ | ⟨x, _, h1, h2, _⟩
  · exact ⟨Nat.le_refl _, Nat.zero_le _⟩
  · exact ⟨h1, by unfold maxLen at h2; omega⟩
/-- The limbs that a law's argument reads as. -/
def rawL (len : Nat) (zs : List Int) : List Nat := (zs.take len).map Int.toNat
theorem wf_u64 {n : Int} (h : (Lit.int .u64 n).wf = true) : 0 ≤ n ∧ n < 18446744073709551616 := by
  have := bounds_u64 h
  omega
theorem Raw.nums {w : World} {a : Option Addr} {len cap : Nat} {zs : List Int} (h : Raw w a len cap zs) (hl : len ≤ 65535) : Nums w a len cap (rawL len zs) := by
  rcases h with ⟨rfl, rfl, rfl, rfl⟩ | ⟨x, rfl, h1, h2, h3, h4, h5⟩
  · exact Nums.nil _ _ _
  · have hlen : (rawL len zs).length = len := by simp [rawL]; omega
    refine ⟨hlen, by omega, h1, fun y hy => ?_, ?_⟩
    · obtain ⟨n, hn, rfl⟩ := List.mem_map.1 hy
      have := wf_u64 (h5 n (List.mem_of_mem_take hn))
      unfold B64; omega
    · by_cases h0 : len = 0
      · exact .inl h0
      · obtain ⟨b, off, rfl, hc⟩ := ints_at h4 (by omega)
        refine .inr ⟨b, off, rfl, fun i hi => ?_⟩
        rw [hc i (by omega)]
        have e1 : zs[i]? = some zs[i] := List.getElem?_eq_getElem (by omega)
        have e2 : (rawL len zs)[i]?.getD 0 = zs[i].toNat := by
          rw [rawL, List.getElem?_map, List.getElem?_take, if_pos hi, e1]; rfl
        rw [e2, List.getD_eq_getElem?_getD, e1]
        have := wf_u64 (h5 zs[i] (List.getElem_mem _))
        simp only [Option.getD_some]
        congr 2
        omega
theorem Raw.is {w : World} {a : Option Addr} {len cap : Nat} {zs : List Int} (h : Raw w a len cap zs) (hl : len ≤ 6) : ∃ m, m < B64 ^ 6 ∧ IsN w (.slice a len cap) m := by
  have hn := h.nums (by omega)
  refine ⟨_, ?_, IsN.of hn (by omega)⟩
  have := val_lt hn.lt
  rw [hn.len] at this
  exact Nat.lt_of_lt_of_le this (Nat.pow_le_pow_right B64_pos hl)

/-- A number of at most k limbs. -/
def Sm (k m : Nat) : Prop := m < B64 ^ k
theorem Sm.add {j k m n : Nat} (h1 : Sm j m) (h2 : Sm k n) : Sm (j + k + 1) (m + n) := by
  unfold Sm at *
  have a1 := Nat.lt_of_lt_of_le h1 (Nat.pow_le_pow_right B64_pos (show j ≤ j + k by omega))
  have a2 := Nat.lt_of_lt_of_le h2 (Nat.pow_le_pow_right B64_pos (show k ≤ j + k by omega))
  have : B64 ^ (j + k) * 2 ≤ B64 ^ (j + k) * B64 := Nat.mul_le_mul_left _ (by unfold B64; omega)
  rw [Nat.pow_succ]; omega
theorem Sm.mul {j k m n : Nat} (h1 : Sm j m) (h2 : Sm k n) : Sm (j + k) (m * n) := by
  unfold Sm at *
  rw [Nat.pow_add]
  exact Nat.mul_lt_mul_of_lt_of_le h1 (Nat.le_of_lt h2) (Nat.pow_pos B64_pos)
theorem Sm.le {j m n : Nat} (h : Sm j m) (e : n ≤ m) : Sm j n := Nat.lt_of_le_of_lt e h
theorem Sm.top {k m : Nat} (h : Sm k m) (hk : k ≤ 2048) : m < Top := top_le h hk
theorem cmpN_self (m : Nat) : cmpN m m = 0 := by unfold cmpN; rw [if_neg (by omega), if_neg (by omega)]
theorem cmp_eq {w : World} {v1 v2 : Value} {m1 m2 : Nat} (h1 : IsN w v1 m1) (h2 : IsN w v2 m2) (e : m1 = m2) : Calls Try.prog 43 #[v1, v2] w (Post w fun v _ => v = .int .i64 0) := by
  refine (cmp_n h1 h2).mono ?_
  rintro _ w' ⟨v, rfl, hext, rfl⟩
  subst e
  exact Post.mk hext (by rw [cmpN_self])
theorem cmp_below {w : World} {v1 v2 : Value} {m1 m2 : Nat} (h1 : IsN w v1 m1) (h2 : IsN w v2 m2) (e : m1 < m2) : Calls Try.prog 43 #[v1, v2] w (Post w fun v _ => v = .int .i64 (-1)) := by
  refine (cmp_n h1 h2).mono ?_
  rintro _ w' ⟨v, rfl, hext, rfl⟩
  exact Post.mk hext (by unfold cmpN; rw [if_pos e])
theorem cmp_above {w : World} {v1 v2 : Value} {m1 m2 : Nat} (h1 : IsN w v1 m1) (h2 : IsN w v2 m2) (e : m2 < m1) : Calls Try.prog 43 #[v1, v2] w (Post w fun v _ => v = .int .i64 1) := by
  refine (cmp_n h1 h2).mono ?_
  rintro _ w' ⟨v, rfl, hext, rfl⟩
  exact Post.mk hext (by unfold cmpN; rw [if_neg (by omega), if_pos e])
end Go.Proofs.Ytgihjgkpmochcaa

namespace Go.Proofs.Ytgihjgkpmochcaa
open Go.RowKit

theorem shr_long {w : World} {v1 : Value} {m1 : Nat} (k : Int) (h1 : IsN w v1 m1) (ht : ¬ m1 < Top) : Calls Try.prog 91 #[v1, .int .i64 k] w (Post w fun v _ => v = .tuple #[.slice none 0 0, .int .i64 3]) := by
  obtain ⟨a, n, c, xs, rfl, h, hn, rfl⟩ := h1
  go_enter Try.func91, Try.ntmps91
  go_wp2_with fail
  refine (normal_any _ _ _ _ _ h).mono ?_
  rintro e w1 ⟨v, rfl, E1, a', n', c', rfl, hn1⟩
  have hlong : [limbs (val xs)].any isLong = true := by rw [any_one]; exact isLong_true (by rw [val_limbs]; exact ht)
  have HL := Lib.hid hlong
  clear hlong
  go_wp2_with fail
  refine (long_any _ _ _ [limbs (val xs)] _ (NumsL.one (by simp) (hn1.ext (Ext.of_alloc _ _)))).mono ?_
  rintro e w2 ⟨v, rfl, h2, rfl⟩
  have E2 : Ext w1 w2 := (by repeat (first | with_reducible exact Ext.refl _ | with_reducible assumption | (with_reducible refine Ext.alloc ?_ _) | (with_reducible refine Ext.drew ?_) | (with_reducible refine Ext.drewN ?_ _) | (with_reducible refine Ext.set ?_ (by first | (simp; done) | (simp; omega)) _) | (with_reducible refine Ext.trans ?_ (by with_reducible assumption))))
  rw [HL.out]
  go_wp2
  go_ret2
  exact Post.mk (by repeat (first | with_reducible exact Ext.refl _ | with_reducible assumption | (with_reducible refine Ext.alloc ?_ _) | (with_reducible refine Ext.drew ?_) | (with_reducible refine Ext.drewN ?_ _) | (with_reducible refine Ext.set ?_ (by first | (simp; done) | (simp; omega)) _) | (with_reducible refine Ext.trans ?_ (by with_reducible assumption)))) rfl
theorem gcd_long {w : World} {v1 v2 : Value} {m1 m2 : Nat} (h1 : IsN w v1 m1) (h2 : IsN w v2 m2) (ht : ¬ m1 < Top) : Calls Try.prog 76 #[v1, v2] w (Post w fun v _ => v = .tuple #[.slice none 0 0, .int .i64 3]) := by
  obtain ⟨a1, n1, c1, xs, rfl, h1, hn1, rfl⟩ := h1
  obtain ⟨a2, n2, c2, ys, rfl, h2, hn2, rfl⟩ := h2
  have hno : [xs, ys].any isLong = true := by rw [any_two, isLong_true ht]; rfl
  have HNO := Lib.hid hno
  clear hno
  go_enter Try.func76, Try.ntmps76
  go_wp2_with fail
  refine (long_any _ _ _ [xs, ys] _ (NumsL.two (by simp) (by simp) (h1.ext (Ext.of_alloc _ _)) (h2.ext (Ext.of_alloc _ _)))).mono ?_
  rintro e w2 ⟨v, rfl, E2, rfl⟩
  rw [HNO.out]
  go_wp2
  go_ret2
  exact Post.mk (by repeat (first | with_reducible exact Ext.refl _ | with_reducible assumption | (with_reducible refine Ext.alloc ?_ _) | (with_reducible refine Ext.drew ?_) | (with_reducible refine Ext.drewN ?_ _) | (with_reducible refine Ext.set ?_ (by first | (simp; done) | (simp; omega)) _) | (with_reducible refine Ext.trans ?_ (by with_reducible assumption)))) rfl
theorem div_toolong {w : World} {v1 v2 : Value} {m1 m2 : Nat} (h1 : IsN w v1 m1) (h2 : IsN w v2 m2) (ht : ¬ m1 < Top) : Calls Try.prog 77 #[v1, v2] w (Post w fun v _ => v = .tuple #[.slice none 0 0, .slice none 0 0, .int .i64 3]) := by
  obtain ⟨a1, n1, c1, xs, rfl, h1, hn1, rfl⟩ := h1
  obtain ⟨a2, n2, c2, ys, rfl, h2, hn2, rfl⟩ := h2
  exact div_long a1 a2 n1 c1 n2 c2 xs ys w h1 h2 (fun h => ht h.1)
theorem norm_long {w : World} {v : Value} {m : Nat} (h : IsN w v m) (ht : ¬ m < Top) : Calls Try.prog 23 #[v] w (Post w fun v _ => v = .tuple #[.slice none 0 0, .int .i64 3]) := by
  obtain ⟨a, n, c, xs, rfl, h, hn, rfl⟩ := h
  refine (norm_any a n c xs w h).mono ?_
  rintro e w' ⟨v, rfl, hext, h⟩
  rw [fit_none ht] at h
  exact Post.mk hext h
theorem add_long {w : World} {v1 v2 : Value} {m1 m2 : Nat} (h1 : IsN w v1 m1) (h2 : IsN w v2 m2) (ht : ¬ m1 + m2 < Top) : Calls Try.prog 52 #[v1, v2] w (Post w fun v _ => v = .tuple #[.slice none 0 0, .int .i64 3]) := by
  refine (add_n h1 h2).mono ?_
  rintro e w' ⟨v, rfl, hext, h⟩
  rw [fit_none ht] at h
  exact Post.mk hext h
theorem sub_long {w : World} {v1 v2 : Value} {m1 m2 : Nat} (h1 : IsN w v1 m1) (h2 : IsN w v2 m2) (ht : ¬ m1 < Top) : Calls Try.prog 41 #[v1, v2] w (Post w fun v _ => v = .tuple #[.slice none 0 0, .int .i64 3]) := by
  obtain ⟨a1, n1, c1, xs, rfl, h1, hn1, rfl⟩ := h1
  obtain ⟨a2, n2, c2, ys, rfl, h2, hn2, rfl⟩ := h2
  refine (sub_any a1 a2 n1 c1 n2 c2 xs ys w h1 h2).mono ?_
  rintro e w' ⟨v, rfl, hext, h⟩
  rw [if_neg (fun h => ht h.1)] at h
  exact Post.mk hext h
theorem Num.zero {w : World} {v : Value} {m : Nat} (h : Num w v m) (e : m = 0) : ∃ a c, v = .slice a 0 c := by
  obtain ⟨_, a, n, c, rfl, h⟩ := h
  subst e
  rw [limbs_zero] at h
  obtain rfl : 0 = n := h.len
  exact ⟨a, c, rfl⟩
theorem cmp_le_n {w : World} {v1 v2 : Value} {m1 m2 : Nat} (h1 : IsN w v1 m1) (h2 : IsN w v2 m2) (e : m1 ≤ m2) : Calls Try.prog 43 #[v1, v2] w (Post w fun v _ => ∃ c : Int, c ≤ 0 ∧ v = .int .i64 c) := by
  refine (cmp_n h1 h2).mono ?_
  rintro _ w' ⟨v, rfl, hext, rfl⟩
  refine Post.mk hext ⟨_, ?_, rfl⟩
  unfold cmpN
  split
  · omega
  · rw [if_neg (by omega)]; omega
end Go.Proofs.Ytgihjgkpmochcaa
