/- Parse, of digits. -/
import Derived.Laws.IdiomStrings
import Derived.Test.YtnecpkoibknacaaW26
namespace Go.Proofs.Ytnecpkoibknacaa
open Go.RowKit

/-- The number that bytes of digits tell. -/
def numOf (l : List Nat) : Nat := l.foldl (fun a c => a * 10 + (c - 48)) 0
theorem numOf_snoc (l : List Nat) (c : Nat) : numOf (l ++ [c]) = numOf l * 10 + (c - 48) := by simp [numOf]
/-- A string's bytes as numbers. -/
def bts (s : ByteArray) : List Nat := s.data.toList.map (·.toNat)
theorem length_bts (s : ByteArray) : (bts s).length = s.size := by simp [bts]

/-- A string turned to bytes. -/
theorem run_bytes {P : Program} (w : World) (src dst e : TypeId) (s : ByteArray) (hs : P.underlying src = some .string) (hd : P.underlying dst = some (.slice e)) (he : P.underlying e = some (.int .u8)) :
    ∃ C W, (convert src dst (.string s)).run P w = .ok (.slice (some ⟨w.heap.size, 0, none⟩) s.size C) W ∧ Ext w W ∧ ∀ i, i < s.size → W.cell? ⟨w.heap.size, i, none⟩ = some (.int .u8 (((bts s)[i]?.getD 0 : Nat) : Int)) := by
  refine ⟨_, _, run_bytes_of_string (P := P) w src dst e s hs hd he, ((Ext.refl w).drew).alloc _, fun i hi => ?_⟩
  have := World.cell?_alloc_mark w.drew (bytesRow s (grownCap w s.size 0 e)) e ((bytesRow s (grownCap w s.size 0 e)).size, (bytesRow s (grownCap w s.size 0 e)).size + 1) i
  refine this.trans ?_
  rw [bytesRow_at s _ i hi]
  simp [bts]
  rw [Array.getElem?_eq_getElem hi]
  rfl

/-- What is kept while a group of digits is read. -/
def ReadOk (L : List Nat) (i t nn b : Nat) : Prop := b = 10 ^ t ∧ nn < 10 ^ t ∧ numOf (L.take (i + t)) = numOf (L.take i) * 10 ^ t + nn
theorem ReadOk.start (L : List Nat) (i : Nat) : ReadOk L i 0 0 1 := ⟨rfl, by simp, by simp⟩
theorem ReadOk.step {L : List Nat} {i t nn b c : Nat} (h : ReadOk L i t nn b) (hi : i + t < L.length) (hc : L[i + t]?.getD 0 = c) (h1 : 48 ≤ c) (h2 : c ≤ 57) : ReadOk L i (t + 1) (nn * 10 + (c - 48)) (b * 10) := by
  obtain ⟨hb, hn, hv⟩ := h
  refine ⟨by rw [hb, Nat.pow_succ], by rw [Nat.pow_succ]; omega, ?_⟩
  rw [← Nat.add_assoc, List.take_add_one, List.getElem?_eq_getElem hi]
  rw [List.getElem?_eq_getElem hi] at hc
  rw [show L[i + t] = c from hc]
  show numOf (_ ++ [c]) = _
  rw [numOf_snoc, hv, Nat.pow_succ, Nat.add_mul, Nat.mul_assoc, Nat.add_assoc]

theorem numOf_append_le (l r : List Nat) : numOf l ≤ numOf (l ++ r) := by
  induction r using snoc_ind with
  | h0 => simp
  | h1 r c ih => rw [← List.append_assoc, numOf_snoc]; omega
theorem numOf_take_le (L : List Nat) (k : Nat) : numOf (L.take k) ≤ numOf L := by
  conv => rhs; rw [← List.take_append_drop k L]
  exact numOf_append_le _ _
theorem isEmpty_of_size {s : ByteArray} (h : 0 < s.size) : s.toList.isEmpty = false := by
  rw [ByteArray.toList_eq]
  cases hl : s.data.toList with
  | nil =>
    have : s.data.toList.length = 0 := by rw [hl]; rfl
    simp at this
    rw [this] at h
    exact absurd h (by decide)
  | cons => rfl
/-- The byte at a place, as a number, is a digit. -/
theorem digit_bd {s : ByteArray} (hd : (bts s).any (fun x => decide (x < 48 ∨ 57 < x)) = false) {i : Nat} (hi : i < s.size) : 48 ≤ s[i].toNat ∧ s[i].toNat ≤ 57 ∧ (bts s)[i]?.getD 0 = s[i].toNat := by
  have e : (bts s)[i]? = some s[i].toNat := by
    have h2 : s.data.toList[i]? = some s[i] := by
      rw [List.getElem?_eq_getElem (by simpa using hi)]; rfl
    rw [bts, List.getElem?_map, h2]; rfl
  rw [List.any_eq_false] at hd
  have := hd _ (List.mem_of_getElem? e)
  simp at this
  refine ⟨by omega, by omega, by rw [e]; rfl⟩
theorem pow18 {t : Nat} (h : t < 18) : 10 ^ t < 1000000000000000000 := Nat.lt_of_lt_of_le (Nat.pow_lt_pow_right (by omega) h) (by omega)
theorem pow18_le {t : Nat} (h : t ≤ 18) : 10 ^ t ≤ 1000000000000000000 := Nat.le_trans (Nat.pow_le_pow_right (by omega) h) (by omega)
theorem fit_some {m : Nat} (h : m < Top) : fit m = some m := by unfold fit; exact if_pos h
theorem fit_none {m : Nat} (h : ¬ m < Top) : fit m = none := by unfold fit; exact if_neg h
theorem few_of_top {w : World} {a : Option Addr} {n c m : Nat} (h : Nums w a n c (limbs m)) (hm : m < Top) : n ≤ 2048 := by
  rw [← h.len]; exact (fits_iff m).2 hm

set_option maxRecDepth 100000 in
set_option maxHeartbeats 2000000 in
theorem parse_main (s : ByteArray) (w : World) (h0 : 0 < s.size) (hl : s.size ≤ 40000) (hd : (bts s).any (fun x => decide (x < 48 ∨ 57 < x)) = false) :
    Calls Try.prog 24 #[.string s] w (Post w fun v w' => NRes w' v (fit (numOf (bts s)))) := by
  obtain ⟨C, W, hconv, hE, hcells⟩ := run_bytes (P := Try.prog) w 9 62 5 s Try.underlying9 Try.underlying62 Try.underlying5
  have hemp : s.toList.isEmpty = false := isEmpty_of_size h0
  have hb : ∀ x ∈ bts s, x < 256 := by
    intro x hx
    obtain ⟨u, _, rfl⟩ := List.mem_map.1 hx
    exact u.toNat_lt
  have hct := contains_bytes w.heap.size s.size C (bts s) (length_bts s) (by omega) hb W hcells
  rw [hd] at hct
  have HD := Lib.hid hd
  clear hd hcells hb
  go_enter Try.func24, Try.ntmps24
  go_wp2_with (go_at_call 57; refine hct.mono ?_; rintro e w' ⟨rfl, rfl⟩)
  go_loopg [4, 5] s.size (fun g s4 s5 wr => ∃ (a : Option Addr) (n c i : Nat), s4 = .slice a n c ∧ s5 = .int .i64 i ∧ i + g = s.size ∧ Nums wr a n c (limbs (numOf ((bts s).take i))) ∧ Hid (numOf ((bts s).take i) < Top) ∧ Ext w wr)
  case atStart => exact ⟨none, 0, 0, 0, rfl, rfl, by omega, by simp [numOf, limbs_zero]; exact Nums.nil _ _ _, Lib.hid (by simp [numOf]; exact Top_pos), hE⟩
  case round =>
    obtain ⟨a, n, c, i, rfl, rfl, hig, hn, HF, hE1⟩ := hrel
    by_cases h00 : gk = 0
    · obtain rfl : i = s.size := by omega
      have HF' := HF.out
      rw [List.take_of_length_le (by rw [length_bts]; exact Nat.le_refl _)] at hn HF'
      have HF2 := Lib.hid HF'
      clear HF'
      clear h00 hig hct hconv
      go_wp2
      go_ret2
      rw [fit_some HF2.out]
      exact Post.mk hE1 ⟨_, _, _, rfl, hn⟩
    · have hi : i < s.size := by omega
      go_wp2
      have hstart := ReadOk.start (bts s) i
      obtain ⟨wo, rfl⟩ : ∃ x, x = wr := ⟨_, rfl⟩
      obtain ⟨go, rfl⟩ : ∃ x, x = gk := ⟨_, rfl⟩
      go_loopg [5, 6, 7] go (fun g s5 s6 s7 wx => ∃ (i' t nn b : Nat), s5 = .int .i64 i' ∧ s6 = .int .u64 nn ∧ s7 = .int .u64 b ∧ i' + g = s.size ∧ Hid (i' = i + t) ∧ t ≤ 18 ∧ wo = wx ∧ Hid (ReadOk (bts s) i t nn b))
      case atStart => exact ⟨i, 0, 0, 1, rfl, rfl, rfl, hig, Lib.hid rfl, by omega, rfl, Lib.hid hstart⟩
      case round =>
        clear hstart
        obtain ⟨i', t, nn, b, rfl, rfl, rfl, hig', HIT, ht, rfl, HR⟩ := hrel
        by_cases hgo : i' < s.size ∧ t < 18
        · obtain ⟨hlt, htl⟩ := hgo
          have hb9 := pow18 htl
          rw [← HR.out.1] at hb9
          have hb10 : (b : Int) < 1000000000000000000 := by omega
          have hn10 := Nat.lt_of_lt_of_le HR.out.2.1 (pow18_le ht)
          have hn9 : (nn : Int) < 1000000000000000000 := by omega
          obtain ⟨hx1, hx2, hx3⟩ := digit_bd HD.out hlt
          have HX3 := Lib.hid hx3
          clear hb9 hn10 hx3
          obtain ⟨u, hget⟩ : ∃ u : UInt8, s[i'] = u := ⟨_, rfl⟩
          rw [hget] at hx1 hx2 HX3
          obtain ⟨x, hx⟩ : ∃ x : Nat, u.toNat = x := ⟨_, rfl⟩
          rw [hx] at hx1 hx2 HX3
          have hx1' : (48 : Int) ≤ x := by omega
          have hx2' : (x : Int) ≤ 57 := by omega
          go_wp2
          obtain ⟨gn, rfl⟩ : ∃ q, gk = q + 1 := ⟨gk - 1, by omega⟩
          go_roundg gn
          case rel => exact ⟨i' + 1, t + 1, nn * 10 + (x - 48), b * 10, by go_num, by congr 1; omega, by go_num, by omega, Lib.hid (by rw [HIT.out]; rfl), by omega, rfl, Lib.hid (HR.out.step (by rw [← HIT.out, length_bts]; exact hlt) (by rw [← HIT.out]; exact HX3.out) hx1 hx2)⟩
          case measure => omega
        · have hstop : (i' < s.size → t = 18) := by omega
          have ht0 : 0 < t := by
            have := HIT.out
            omega
          have hb9 : 0 < b ∧ b ≤ 1000000000000000000 := by rw [HR.out.1]; exact ⟨Nat.pow_pos (by omega), pow18_le ht⟩
          have hn9 := Nat.lt_of_lt_of_le HR.out.2.1 (pow18_le ht)
          have hv : val (limbs (numOf ((bts s).take i))) * val [b] + nn = numOf ((bts s).take i') := by
            rw [HIT.out, HR.out.2.2, val_limbs, val_one, HR.out.1]
          have hv1 : val (limbs (numOf ((bts s).take i))) < Top := by rw [val_limbs]; exact HF.out
          have hvb : val [b] < Top := by rw [val_one]; exact Nat.lt_of_lt_of_le (by unfold B64; omega) Top_big
          have hle := numOf_take_le (bts s) i'
          have HV := Lib.hid hv
          have HT := Lib.hid (And.intro hv1 hvb)
          have hbb : b < B64 := by unfold B64; omega
          have hnb : nn < B64 := by unfold B64; omega
          have HB := Lib.hid (And.intro hbb hnb)
          have hb1 : (b : Int) ≤ 1000000000000000000 := by omega
          have hn1 : (nn : Int) < 1000000000000000000 := by omega
          have hgk : gk < go := by have := HIT.out; omega
          have hcase : ¬ i' < s.size ∨ (i' < s.size ∧ ¬ (b : Int) < 1000000000000000000) := by
            by_cases hlt : i' < s.size
            · right; have := HR.out.1; rw [hstop hlt] at this; omega
            · left; exact hlt
          generalize hA : limbs (numOf ((bts s).take i)) = A at *
          have HLE := Lib.hid hle
          clear hv hv1 hvb hgo hb9 hn9 hbb hnb hA hstop hle
          rcases hcase with hlt | ⟨hlt, hbn⟩
          all_goals
            by_cases hp : val A * val [b] < Top
            · have HP := Lib.hid hp
              clear hp
              by_cases hq : numOf ((bts s).take i') < Top
              · have HQ := Lib.hid hq
                clear hq
                go_wp2_with (first
                  | (go_at_call 29; refine (mul_any _ _ _ _ _ _ A [b] _ (hn.ext (Ext.of_alloc _ _)) (Nums.one (by simp) HB.out.1 (by omega)) HT.out.1 HT.out.2).mono ?_; rintro e w2 ⟨v, rfl, hext2, hres⟩; rw [fit_some HP.out] at hres; obtain ⟨am, nm, cm, rfl, hm⟩ := hres)
                  | (go_at_call 28; refine (add_any _ _ _ _ _ _ _ [nn] _ (hm.ext (Ext.of_alloc _ _)) (Nums.one (by simp) HB.out.2 (by omega)) (by have := few_of_top hm HP.out; omega) (by omega)).mono ?_; rintro e w3 ⟨v, rfl, hext3, hres⟩; rw [val_limbs, val_one nn, HV.out, fit_some HQ.out] at hres; obtain ⟨a3, n3, c3, rfl, hs⟩ := hres))
                go_roundg gk
                case rel => exact ⟨_, _, _, i', rfl, rfl, hig', hs, HQ, hE1.trans (((Ext.of_alloc _ _).trans hext2).trans ((Ext.of_alloc _ _).trans hext3))⟩
                case measure => exact hgk
              · have HQ := Lib.hid hq
                clear hq
                go_wp2_with (first
                  | (go_at_call 29; refine (mul_any _ _ _ _ _ _ A [b] _ (hn.ext (Ext.of_alloc _ _)) (Nums.one (by simp) HB.out.1 (by omega)) HT.out.1 HT.out.2).mono ?_; rintro e w2 ⟨v, rfl, hext2, hres⟩; rw [fit_some HP.out] at hres; obtain ⟨am, nm, cm, rfl, hm⟩ := hres)
                  | (go_at_call 28; refine (add_any _ _ _ _ _ _ _ [nn] _ (hm.ext (Ext.of_alloc _ _)) (Nums.one (by simp) HB.out.2 (by omega)) (by have := few_of_top hm HP.out; omega) (by omega)).mono ?_; rintro e w3 ⟨v, rfl, hext3, hres⟩; rw [val_limbs, val_one nn, HV.out, fit_none HQ.out] at hres; obtain rfl := hres))
                go_ret2
                rw [fit_none (fun h => HQ.out (Nat.lt_of_le_of_lt HLE.out h))]
                exact Post.mk (hE1.trans (((Ext.of_alloc _ _).trans hext2).trans ((Ext.of_alloc _ _).trans hext3))) rfl
            · have HP := Lib.hid hp
              clear hp
              go_wp2_with (go_at_call 29; refine (mul_any _ _ _ _ _ _ A [b] _ (hn.ext (Ext.of_alloc _ _)) (Nums.one (by simp) HB.out.1 (by omega)) HT.out.1 HT.out.2).mono ?_; rintro e w2 ⟨v, rfl, hext2, hres⟩; rw [fit_none HP.out] at hres; obtain rfl := hres)
              go_ret2
              rw [fit_none (fun h => HP.out (Nat.lt_of_le_of_lt (by have := HV.out; have := HLE.out; omega) h))]
              exact Post.mk (hE1.trans ((Ext.of_alloc _ _).trans hext2)) rfl
end Go.Proofs.Ytnecpkoibknacaa
