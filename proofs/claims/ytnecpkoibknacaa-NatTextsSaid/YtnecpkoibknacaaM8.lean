/- Parts of the proof: contracts of the functions that the law reaches, and the arithmetic that they rest on; no condition beyond those that each theorem states. -/
import Derived.Deep.RegionWith
import Derived.Test.YtnecpkoibknacaaM5
import Derived.Test.YtnecpkoibknacaaM7

namespace Go.Proofs.Ytnecpkoibknacaa
open Go.RowKit

/-- The digits told so far, and the number that is left. -/
def TextOk (N A : Nat) (D : List Nat) : Prop := D ++ rdig A = rdig N
theorem TextOk.step {N A : Nat} {D : List Nat} (h : TextOk N A D) (hA : A ≠ 0) : TextOk N (A / 10) (D ++ [48 + A % 10]) := by
  unfold TextOk at *
  rw [← h, rdig_pos hA, List.append_assoc]; rfl
theorem TextOk.lt {N A : Nat} {D : List Nat} (h : TextOk N A D) : ∀ x ∈ D, x < 256 := fun x hx => by
  have := rdig_lt N x (by rw [← h]; exact List.mem_append_left _ hx)
  omega

theorem txt_list (l : List Nat) : (txt l).toList = l.map UInt8.ofNat := by rw [ByteArray.toList_eq]; rfl
theorem txt_empty {l : List Nat} (h : l ≠ []) : (txt l).toList.isEmpty = false := by
  rw [txt_list]; cases l with
  | nil => exact absurd rfl h
  | cons => rfl

theorem cell_one_new' (w : World) (v : Value) (t : TypeId) : (w.alloc (.cells #[v] t)).cell? ⟨w.heap.size, 0 + 0, none⟩ = some v := by simp
theorem size_txt (l : List Nat) : (txt l).size = l.length := by simp [txt, ByteArray.size]
theorem txt_app (l r : List Nat) : txt l ++ txt r = txt (l ++ r) := by
  apply ByteArray.ext
  simp [txt]
theorem TextOk.len {N A : Nat} {D : List Nat} (h : TextOk N A D) (hs : N < Top) : D.length ≤ 131072 := by
  have h1 : D.length ≤ (rdig N).length := by rw [← h, List.length_append]; omega
  exact Nat.le_trans h1 (Nat.le_trans (rdig_len (lt_blen _)) (blen_top hs))
theorem run_byte (w : World) (d : Nat) (hd : d < 10) :
    (convert 62 9 (.slice (some ⟨w.heap.size, 0, none⟩) 1 1)).run Try.prog (w.alloc (.cells #[.int .u8 (48 + (d : Int))] 5)) = .ok (.string (txt [48 + d])) (w.alloc (.cells #[.int .u8 (48 + (d : Int))] 5)) := by
  have := run_convert_bytes_back (P := Try.prog) (w.alloc (.cells #[.int .u8 (48 + (d : Int))] 5)) 62 9 5 ⟨w.heap.size, 0, none⟩ 1 [UInt8.ofNat (48 + d)] Try.underlying62 Try.underlying5 Try.underlying9 (fun j hj => by
    obtain rfl : j = 0 := by have : [UInt8.ofNat (48 + d)].length = 1 := rfl; omega
    rw [addr_add, cell_one_new' w]
    simp only [List.getElem_cons_zero, UInt8.toNat_ofNat']
    congr 2
    omega)
  exact this

set_option maxRecDepth 100000 in
set_option maxHeartbeats 1000000 in
theorem rtext_n {w : World} {v : Value} {N : Nat} (h : IsN w v N) (hs : Sm 2040 N) :
    Calls Try.prog 26 #[v] w (Post w fun v _ => v = .string (txt (decT N))) := by
  have ht := hs.top (by omega)
  go_enter Try.func26, Try.ntmps26
  go_wp2_with fail
  refine (rnorm_n h ht).mono ?_
  rintro e w1 ⟨x1, rfl, E1, hx1⟩
  obtain ⟨a1, n1, c1, rfl, hn1, hb1, hx1⟩ := hx1.slice
  have HN1 := Lib.hid (And.intro hn1 hb1)
  clear hn1 hb1
  go_wp2
  go_loopg [0, 3] N (fun g av sv wr => ∃ (D : List Nat) (a : Option Addr) (n c : Nat), av = .slice a n c ∧ n ≤ 2048 ∧ Hid (n = 0 ↔ g = 0) ∧ Num wr (.slice a n c) g ∧ sv = .string (txt D.reverse) ∧ Hid (TextOk N g D ∧ Sm 2040 g) ∧ Ext w wr)
  case atStart => exact ⟨[], a1, n1, c1, rfl, HN1.out.2, Lib.hid HN1.out.1, hx1, rfl, Lib.hid ⟨rfl, hs⟩, E1⟩
  case round =>
    clear hx1 HN1 E1
    obtain ⟨D, a, n, c, rfl, hb, HN, hA, rfl, HT, hE⟩ := hrel
    by_cases h0 : gk = 0
    · subst h0
      obtain rfl : n = 0 := HN.out.2 rfl
      have hD := HT.out.1
      unfold TextOk at hD
      rw [rdig_zero, List.append_nil] at hD
      subst hD
      by_cases hN0 : N = 0
      · have hs0 : (txt (rdig N).reverse).toList.isEmpty = true := by rw [hN0, rdig_zero]; rw [txt_list]; rfl
        have HN0 := Lib.hid hN0
        clear hN0
        go_wp2
        go_ret
        refine Post.mk hE ?_
        unfold decT
        rw [if_pos HN0.out]
        rfl
      · have hs0 := txt_empty (l := (rdig N).reverse) (by rw [rdig_pos hN0]; simp)
        have HN0 := Lib.hid hN0
        clear hN0
        go_wp2
        go_ret
        refine Post.mk hE ?_
        unfold decT
        rw [if_neg HN0.out]
        rfl
    · have hn0 : 0 < n := by have := mt HN.out.1 h0; omega
      have HG0 := Lib.hid h0
      clear h0
      go_wp2_with fail
      refine (rdiv_n (hA.is.ext (by repeat (first | exact Ext.refl _ | with_reducible assumption | (with_reducible refine Ext.alloc ?_ _) | (with_reducible refine Ext.drew ?_) | (with_reducible refine Ext.trans ?_ (by with_reducible assumption))))) (IsN.one (x := 10) (by simp) (by unfold B64; omega) (by omega)) HT.out.2 (Sm.up (j := 1) (by unfold Sm; rw [Nat.pow_one]; unfold B64; omega) (by omega)) (by omega)).mono ?_
      rintro e w3 ⟨_, rfl, h3, q, r, rfl, hq, hr⟩
      obtain ⟨aq, nq, cq, rfl, hnq, hbq, hq⟩ := hq.slice
      by_cases hr0 : gk % 10 = 0
      · obtain ⟨ar, cr, rfl⟩ := hr.zero hr0
        have HD := Lib.hid hr0
        have HNQ := Lib.hid hnq
        clear hnq hr0
        have hconv := run_byte w3 0 (by omega)
        rw [show (48 : Int) + ((0 : Nat) : Int) = 48 from rfl] at hconv
        have hsz : ¬ 9223372036854775807 < (txt [48 + 0]).size + (txt D.reverse).size := by
          have := HT.out.1.len ht
          rw [size_txt, size_txt, List.length_reverse]
          simp only [List.length_singleton]
          omega
        have HST := Lib.hid (HT.out.1.step HG0.out)
        have E3 : Ext wr w3 := (by repeat (first | exact Ext.refl _ | with_reducible assumption | (with_reducible refine Ext.alloc ?_ _) | (with_reducible refine Ext.drew ?_) | (with_reducible refine Ext.trans ?_ (by with_reducible assumption))))
        clear h3
        go_wp2
        go_roundg (gk / 10)
        case rel => exact ⟨D ++ [48], aq, nq, cq, rfl, hbq, HNQ, hq.ext (Ext.of_alloc _ _), by rw [txt_app]; simp, Lib.hid ⟨by have := HST.out; rw [HD.out] at this; exact this, HT.out.2.le (Nat.div_le_self _ _)⟩, hE.trans (E3.trans (Ext.of_alloc _ _))⟩
        case measure => have := HG0.out; omega
      · obtain ⟨br, orr, cr, rfl, cr0⟩ := hr.one (limbs_one (by unfold B64; omega) hr0)
        obtain ⟨d, hd⟩ : ∃ d, gk % 10 = d := ⟨_, rfl⟩
        rw [hd] at cr0 hr
        have hd10 : d < 10 := by omega
        have HD := Lib.hid hd
        have HNQ := Lib.hid hnq
        clear hnq hr0 hd
        have hconv := run_byte w3 d hd10
        have hsz : ¬ 9223372036854775807 < (txt [48 + d]).size + (txt D.reverse).size := by
          have := HT.out.1.len ht
          rw [size_txt, size_txt, List.length_reverse]
          simp only [List.length_singleton]
          omega
        have HST := Lib.hid (HT.out.1.step HG0.out)
        have E3 : Ext wr w3 := (by repeat (first | exact Ext.refl _ | with_reducible assumption | (with_reducible refine Ext.alloc ?_ _) | (with_reducible refine Ext.drew ?_) | (with_reducible refine Ext.trans ?_ (by with_reducible assumption))))
        clear h3
        go_wp2
        go_roundg (gk / 10)
        case rel => exact ⟨D ++ [48 + d], aq, nq, cq, rfl, hbq, HNQ, hq.ext (Ext.of_alloc _ _), by rw [txt_app]; simp, Lib.hid ⟨by rw [← HD.out]; exact HST.out, HT.out.2.le (Nat.div_le_self _ _)⟩, hE.trans (E3.trans (Ext.of_alloc _ _))⟩
        case measure => have := HG0.out; omega
end Go.Proofs.Ytnecpkoibknacaa

namespace Go.Proofs.Ytnecpkoibknacaa
open Go.RowKit

/-- What the reference's Parse tells of a short text. -/
def RParse (s : ByteArray) (w : World) (v : Value) : Prop :=
  (Digits s → ∃ x, v = .tuple #[x, .int .i64 0] ∧ Num w x (numOf (bts s))) ∧ (¬ Digits s → v = .tuple #[.slice none 0 0, .int .i64 5])
theorem numOf_lt {l : List Nat} (h : ∀ c ∈ l, c ≤ 57) : numOf l < 10 ^ l.length := by
  induction l using snoc_ind with
  | h0 => simp [numOf]
  | h1 l c ih =>
    have h1 := ih fun x hx => h x (by simp [hx])
    have h2 := h c (by simp)
    rw [numOf_snoc, List.length_append, List.length_singleton, Nat.pow_succ]
    omega
theorem ten_top {k : Nat} (h : k ≤ 30000) : 10 ^ k < Top := by
  have h1 : 10 ^ k ≤ 2 ^ (4 * k) := by rw [Nat.pow_mul]; exact Nat.pow_le_pow_left (by omega) k
  exact Nat.lt_of_le_of_lt h1 (pow_top (by omega))
theorem bts_get {s : ByteArray} {i : Nat} (hi : i < s.size) : (bts s)[i]? = some s[i].toNat := by
  have h2 : s.data.toList[i]? = some s[i] := by rw [List.getElem?_eq_getElem (by simpa using hi)]; rfl
  rw [bts, List.getElem?_map, h2]; rfl
theorem bts_take {s : ByteArray} {i c : Nat} (hi : i < s.size) (hc : s[i].toNat = c) : (bts s).take (i + 1) = (bts s).take i ++ [c] := by
  rw [List.take_add_one, bts_get hi, hc]; rfl
/-- The first digits. -/
def DigTo (s : ByteArray) (i : Nat) : Prop := ∀ c ∈ (bts s).take i, 48 ≤ c ∧ c ≤ 57
theorem DigTo.step {s : ByteArray} {i c : Nat} (h : DigTo s i) (hi : i < s.size) (hc : s[i].toNat = c) (h1 : 48 ≤ c) (h2 : c ≤ 57) : DigTo s (i + 1) := by
  intro x hx
  rw [bts_take hi hc] at hx
  rcases List.mem_append.1 hx with hx | hx
  · exact h x hx
  · rw [List.mem_singleton.1 hx]; exact ⟨h1, h2⟩
theorem DigTo.bound {s : ByteArray} {i : Nat} (h : DigTo s i) (hi : i ≤ s.size) : numOf ((bts s).take i) < 10 ^ i := by
  have := numOf_lt fun c hc => (h c hc).2
  rwa [List.length_take, length_bts, Nat.min_eq_left hi] at this
theorem DigTo.all {s : ByteArray} (h : DigTo s s.size) (h0 : 0 < s.size) : Digits s := by
  refine ⟨h0, ?_⟩
  rw [List.any_eq_false]
  intro c hc
  have := h c (by rw [List.take_of_length_le (by rw [length_bts]; exact Nat.le_refl _)]; exact hc)
  simp; omega
theorem digits_no {s : ByteArray} {i c : Nat} (hi : i < s.size) (hc : s[i].toNat = c) (hbad : c < 48 ∨ 57 < c) : ¬ Digits s := by
  intro h
  have h2 := h.2
  rw [List.any_eq_false] at h2
  have := h2 c (List.mem_of_getElem? (by rw [bts_get hi, hc]))
  simp at this
  omega

set_option maxRecDepth 100000 in
set_option maxHeartbeats 2000000 in
theorem rparse_n (s : ByteArray) (w : World) (hs : s.size ≤ 20000) :
    Calls Try.prog 25 #[.string s] w (Post w fun v w' => RParse s w' v) := by
  by_cases h0 : s.size = 0
  · have hemp : s.toList.isEmpty = true := by
      rw [ByteArray.toList_eq]
      have : s.data.toList = [] := List.eq_nil_of_length_eq_zero (by simpa using h0)
      rw [this]; rfl
    have hs' : s.size ≤ 10 := by omega
    have HS := Lib.hid h0
    clear h0 hs
    go_enter Try.func25, Try.ntmps25
    go_wp2
    go_ret2
    exact Post.mk (Ext.refl _) ⟨fun h => by have := h.1; have := HS.out; omega, fun _ => rfl⟩
  · have h1 : 0 < s.size := by omega
    have hemp : s.toList.isEmpty = false := isEmpty_of_size h1
    clear h0
    go_enter Try.func25, Try.ntmps25
    go_wp2
    go_loopw [4, 5] (fun ov iv wr => ∃ k : Nat, k ≤ s.size ∧ iv = .int .i64 k ∧ Num wr ov (numOf ((bts s).take k)) ∧ Hid (DigTo s k) ∧ Ext w wr) (fun _ iv _ => s.size - (intOf iv).toNat)
    case atStart => exact ⟨0, Nat.zero_le _, rfl, Num.nil _, Lib.hid (fun c hc => by simp at hc), Ext.refl _⟩
    case round =>
      obtain ⟨k, hk, rfl, ho, HD, hE⟩ := hrel
      by_cases hlt : k < s.size
      · obtain ⟨u, hget⟩ : ∃ u : UInt8, s[k] = u := ⟨_, rfl⟩
        obtain ⟨x, hx⟩ : ∃ x : Nat, u.toNat = x := ⟨_, rfl⟩
        have hxb : x < 256 := by rw [← hx]; exact u.toNat_lt
        have HX := Lib.hid (show s[k].toNat = x by rw [hget]; exact hx)
        by_cases hbad : x < 48 ∨ 57 < x
        · have HB := Lib.hid (digits_no hlt HX.out hbad)
          rcases hbad with hb | hb
          all_goals
            go_wp2
            go_ret2
            exact Post.mk hE ⟨fun h => absurd h HB.out, fun _ => rfl⟩
        · have hx1 : (48 : Int) ≤ x := by omega
          have hx2 : (x : Int) ≤ 57 := by omega
          have hst := HD.out.step hlt HX.out (by omega) (by omega)
          have hbd := hst.bound (by omega)
          rw [bts_take hlt HX.out, numOf_snoc] at hbd
          have htop := Nat.lt_trans hbd (ten_top (by omega))
          have HT := Lib.hid htop
          have HST := Lib.hid hst
          obtain ⟨y, hy⟩ : ∃ y, x - 48 = y := ⟨_, rfl⟩
          rw [hy] at HT
          have hy' : (x : Int) - 48 = y := by omega
          have hyb : y < 10 := by omega
          have HY := Lib.hid hy
          have hw1 : IntKind.u8.wrap ((x : Int) - 48) = y := by rw [IntWalk.u8_in _ (by omega)]; exact hy'
          have hw2 : IntKind.u64.wrap (y : Int) = y := wrap_u64 (by unfold B64; omega)
          have HYY := Lib.hid hy'
          have ho2 := ho.is
          have hten : 10 < Top := head_small (by omega)
          clear hst hbd htop hbad hy hy'
          have hk0 : (0 : Int) ≤ k := by omega
          have hk1 : (k : Int) < s.size := by omega
          go_wp2
          go_region_with (first
            | (go_at_call 36; refine (rmul_n (ho2.ext (by repeat (first | exact Ext.refl _ | with_reducible assumption | (with_reducible refine Ext.alloc ?_ _) | (with_reducible refine Ext.drew ?_) | (with_reducible refine Ext.trans ?_ (by with_reducible assumption))))) (IsN.one (x := 10) (by simp) (by unfold B64; omega) (by omega)) (Nat.lt_of_le_of_lt (Nat.le_add_right _ _) HT.out)).mono ?_; rintro e wM ⟨pv, rfl, hM, hp⟩)
            | (go_at_call 35; refine (radd_n (hp.is.ext (by repeat (first | exact Ext.refl _ | with_reducible assumption | (with_reducible refine Ext.alloc ?_ _) | (with_reducible refine Ext.drew ?_) | (with_reducible refine Ext.trans ?_ (by with_reducible assumption))))) (IsN.one (x := y) (by first | simp | exact hM.cell (by simp)) (by unfold B64; omega) (by omega)) HT.out).mono ?_; rintro e wA ⟨sv, rfl, hA, hsv⟩))
          all_goals
            have EA : Ext wr wA := (by repeat (first | exact Ext.refl _ | with_reducible assumption | (with_reducible refine Ext.alloc ?_ _) | (with_reducible refine Ext.drew ?_) | (with_reducible refine Ext.trans ?_ (by with_reducible assumption))))
            have hnum : Num wA sv (numOf ((bts s).take (k + 1))) := by rw [bts_take hlt HX.out, numOf_snoc, HY.out]; exact hsv
            clear hA hM hp hsv
            go_wp2
            go_roundw
            case rel => exact ⟨k + 1, by omega, by go_num, hnum, HST, hE.trans EA⟩
            case measure => simp only [intOf]; omega
      · obtain rfl : k = s.size := by omega
        rw [List.take_of_length_le (by rw [length_bts]; exact Nat.le_refl _)] at ho
        have HA := Lib.hid (HD.out.all h1)
        go_wp2
        go_ret2
        exact Post.mk hE ⟨fun _ => ⟨_, rfl, ho⟩, fun h => absurd HA.out h⟩
end Go.Proofs.Ytnecpkoibknacaa
