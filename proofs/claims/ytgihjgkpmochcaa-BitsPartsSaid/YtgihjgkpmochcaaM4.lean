/- Parts of the proof: contracts of the functions that the law reaches, and the arithmetic that they rest on; no condition beyond those that each theorem states. -/
import Derived.Laws.OwnMore
import Derived.ArgAppend
import Derived.Laws.IdiomStrings
import Derived.Test.YtgihjgkpmochcaaM1
import Derived.Test.YtgihjgkpmochcaaM3

namespace Go.Proofs.Ytgihjgkpmochcaa
open Go.RowKit

theorem top_le {K n : Nat} (h : n < B64 ^ K) (hK : K ≤ 2048) : n < Top := (fits_iff n).1 (Nat.le_trans (length_limbs_le h) hK)
theorem pow_len {K e : Nat} (he : e < 64 * K) : (limbs (2 ^ e)).length ≤ K := by
  apply length_limbs_le
  rw [B64_pow]
  exact Nat.pow_lt_pow_right (by omega) he
theorem pow_top {e : Nat} (he : e ≤ 131071) : 2 ^ e < Top := (fits_iff _).1 (pow_len (by omega))
theorem blen_len {K a : Nat} (h : (limbs a).length ≤ K) : blen a ≤ 64 * K := by
  have h2 := lt_of_length_limbs h
  rw [B64_pow] at h2
  exact (blen_iff a _).1 h2
theorem root_sum {x q e : Nat} (he : e ≤ 65536) (hx : x ≤ 2 ^ e) (hq : q ≤ x + 2) : x + q < Top := by
  have h1 : x + q ≤ 2 * 2 ^ e + 2 := by omega
  have h2 : 2 * 2 ^ e + 2 ≤ 2 ^ (e + 2) := by
    have := Nat.two_pow_pos e
    rw [Nat.pow_add]; omega
  have h3 := pow_top (e := e + 2) (by omega)
  omega
theorem blen_top {a : Nat} (h : a < Top) : blen a ≤ 131072 := blen_len ((fits_iff a).2 h)
theorem cmp_ge {x y : Nat} : cmpN x y ≥ 0 ↔ y ≤ x := by
  unfold cmpN
  constructor
  · intro h; by_cases h1 : x < y
    · rw [if_pos h1] at h; omega
    · omega
  · intro h; rw [if_neg (by omega)]; split <;> omega

end Go.Proofs.Ytgihjgkpmochcaa

namespace Go.Proofs.Ytgihjgkpmochcaa
open Go.RowKit

/-- Bytes as cells. -/
def bys (l : List Nat) : List Value := l.map fun (x : Nat) => Value.int .u8 (x : Int)
theorem length_bys (l : List Nat) : (bys l).length = l.length := by simp [bys]
theorem bys_get {l : List Nat} {j : Nat} (hj : j < l.length) : (bys l)[j]? = some (.int .u8 ((l[j]?.getD 0 : Nat) : Int)) := by
  simp [bys, List.getElem?_eq_getElem hj]
theorem bys_set (l : List Nat) (j x : Nat) : (bys l).set j (.int .u8 (x : Int)) = bys (l.set j x) := by simp [bys, List.map_set]

/-- i pairs are swapped. -/
def RevOk (xs : List Nat) (i : Nat) (L : List Nat) : Prop := L.length = xs.length ∧ ∀ t, t < xs.length → L[t]?.getD 0 = if t < i ∨ xs.length - i ≤ t then xs[xs.length - 1 - t]?.getD 0 else xs[t]?.getD 0
theorem RevOk.start (xs : List Nat) : RevOk xs 0 xs := ⟨rfl, fun t ht => by rw [if_neg (by omega)]⟩
theorem RevOk.step {xs : List Nat} {i : Nat} {L : List Nat} (h : RevOk xs i L) (hi : i < xs.length - 1 - i) :
    RevOk xs (i + 1) ((L.set i (L[xs.length - 1 - i]?.getD 0)).set (xs.length - 1 - i) (L[i]?.getD 0)) := by
  obtain ⟨hl, h⟩ := h
  refine ⟨by simp [hl], fun t ht => ?_⟩
  rw [getD_set, getD_set, List.length_set, hl]
  by_cases h1 : xs.length - 1 - i = t
  · rw [if_pos ⟨h1, by omega⟩, if_pos (by omega), h i (by omega), if_neg (by omega)]
    congr 2; omega
  · rw [if_neg (by omega)]
    by_cases h2 : i = t
    · subst h2
      rw [if_pos ⟨rfl, by omega⟩, if_pos (by omega), h _ (by omega), if_neg (by omega)]
    · rw [if_neg (by omega), h t ht]
      by_cases h3 : t < i ∨ xs.length - i ≤ t
      · rw [if_pos h3, if_pos (by omega)]
      · rw [if_neg h3, if_neg (by omega)]
theorem RevOk.done {xs : List Nat} {i : Nat} {L : List Nat} (h : RevOk xs i L) (hi : ¬ i < xs.length - 1 - i) : L = xs.reverse := by
  obtain ⟨hl, h⟩ := h
  apply List.ext_getElem?
  intro t
  by_cases ht : t < xs.length
  · have h1 := h t ht
    rw [List.getElem?_eq_getElem (by omega), List.getElem?_eq_getElem (by simpa using ht)]
    rw [List.getElem?_eq_getElem (by omega : t < L.length)] at h1
    rw [List.getElem_reverse]
    have e : ∀ a, a < xs.length → xs[a]?.getD 0 = xs[a]! := fun a ha => by simp [ha]
    by_cases h2 : t < i ∨ xs.length - i ≤ t
    · rw [if_pos h2, List.getElem?_eq_getElem (by omega : xs.length - 1 - t < xs.length)] at h1
      exact congrArg some h1
    · rw [if_neg h2, List.getElem?_eq_getElem ht] at h1
      have : t = xs.length - 1 - t := by omega
      simp only [Option.getD_some] at h1
      rw [h1]
      congr 1
      congr 1
  · rw [List.getElem?_eq_none (by omega), List.getElem?_eq_none (by simp; omega)]

theorem Only.drew {b : Nat} {w w' : World} (h : Only b w w') : Only b w w'.drew := ⟨fun a ha hb => (h.1 a ha hb).drew, h.2⟩

set_option maxRecDepth 100000 in
set_option maxHeartbeats 1000000 in
theorem reverse_any (g cap base : Nat) (xs : List Nat) (hf : xs.length ≤ 1000000) (w : World) (h : w.ownsRow base 5 1 (.slice (some ⟨g, 0, none⟩) xs.length cap) xs.length (bys xs)) :
    Calls Try.prog 37 #[.slice (some ⟨g, 0, none⟩) xs.length cap] w fun e w' => e = .returned (.tuple #[]) ∧ Only g w w' ∧ w'.ownsRow base 5 1 (.slice (some ⟨g, 0, none⟩) xs.length cap) xs.length (bys xs.reverse) := by
  go_enter Try.func37, Try.ntmps37
  go_wp2
  go_loopw [2, 3] (fun i j wr => ∃ (k : Nat) (L : List Nat), k ≤ xs.length ∧ i = .int .i64 k ∧ j = .int .i64 ((xs.length : Int) - 1 - k) ∧ Only g w wr ∧ wr.ownsRow base 5 1 (.slice (some ⟨g, 0, none⟩) xs.length cap) xs.length (bys L) ∧ Hid (RevOk xs k L))
    (fun i _ _ => xs.length - (intOf i).toNat)
  case atStart => exact ⟨0, xs, Nat.zero_le _, rfl, by simp, Only.refl _ _, h, Lib.hid (RevOk.start xs)⟩
  case round =>
    obtain ⟨k, L, hk, rfl, rfl, ho, hr, HL⟩ := hrel
    by_cases hlt : k < xs.length - 1 - k
    · obtain ⟨j, hj⟩ : ∃ j, xs.length - 1 - k = j := ⟨_, rfl⟩
      have hL := HL.out.1
      have ej : (xs.length : Int) - 1 - k = j := by omega
      have c1 := hr.cellAt k (by omega)
      rw [bys_get (by omega)] at c1
      have c2 := hr.cellAt j (by omega)
      rw [bys_get (by omega)] at c2
      have f1 := hr.frozenAt k
      have f2 := hr.frozenAt j
      have hst := HL.out.step hlt
      rw [hj] at hst
      generalize L[k]?.getD 0 = x at *
      generalize L[j]?.getD 0 = y at *
      have HST := Lib.hid hst
      have hjl : j < xs.length := by omega
      have hkj : k < j := by omega
      have HJ := Lib.hid hj
      clear hst hj h
      rw [ej]
      go_wp2
      go_region_with (fail)
      all_goals
        go_wp2
        go_roundw
        case rel =>
          have h1 := hr.stored k (.int .u8 (y : Int))
          have h2 := h1.1.stored j (.int .u8 (x : Int))
          rw [bys_set, bys_set] at h2
          exact ⟨k + 1, _, by omega, by go_num, by congr 1; omega, (ho.trans ((Only.set wr g k _).trans (Only.set _ g j _))).drew, h2.1, HST⟩
        case measure => simp only [intOf]; omega
    · have hL := HL.out.done hlt
      subst hL
      go_wp2
      go_end0
      exact ⟨rfl, ho, hr⟩
end Go.Proofs.Ytgihjgkpmochcaa

namespace Go.Proofs.Ytgihjgkpmochcaa
open Go.RowKit

theorem info_u8 : (Try.prog.info? 5).map (fun i => (i.zero, i.size, i.bytes)) = some (some (.int .u8 0), 1, 1) := by kernel_rfl

/-- Bytes that the call itself has laid; none yet, or a row. -/
def Out (w : World) (base : Nat) (v : Value) (D : List Nat) : Prop := (D = [] ∧ v = .slice none 0 0) ∨ (D ≠ [] ∧ ∃ g cap, v = .slice (some ⟨g, 0, none⟩) D.length cap ∧ w.ownsRow base 5 1 (.slice (some ⟨g, 0, none⟩) D.length cap) D.length (bys D))

theorem Out.ext {w w' : World} {base : Nat} {v : Value} {D : List Nat} (h : Out w base v D) (e : Ext w w') : Out w' base v D := by
  rcases h with h | ⟨h0, g, cap, rfl, hr⟩
  · exact .inl h
  · refine .inr ⟨h0, g, cap, rfl, ⟨hr.1, ?_⟩⟩
    rcases hr.2 with ⟨h, _⟩ | ⟨g', cap', cur, h, h1, h2, h3⟩
    · cases h
    · exact .inr ⟨g', cap', cur, h, h1, e.block h2, h3⟩
theorem own_cap {w : World} {base e g n cap : Nat} {xs : List Value} (h : w.ownsRow base e 1 (.slice (some ⟨g, 0, none⟩) n cap) n xs) : n ≤ cap := by
  rcases h.2 with ⟨h, _⟩ | ⟨g', cap', cur, h, _, _, h3, _⟩
  · cases h
  · cases h; exact h3
theorem Out.of_own {w : World} {B base : Nat} {v : Value} {D : List Nat} {x : Nat} (h : w.ownsRow B 5 1 v (D.length + 1) (bys D ++ [.int .u8 (x : Int)])) (hb : base ≤ B) : Out w base v (D ++ [x]) := by
  have e : (D ++ [x]).length = D.length + 1 := by simp
  have e2 : bys (D ++ [x]) = bys D ++ [.int .u8 (x : Int)] := by simp [bys]
  refine .inr ⟨by simp, ?_⟩
  rw [e, e2]
  rcases h.2 with ⟨_, h0⟩ | ⟨g, cap, cur, rfl, h1, h2⟩
  · omega
  · exact ⟨g, cap, rfl, h.1, .inr ⟨g, cap, cur, rfl, Nat.le_trans hb h1, h2⟩⟩

theorem run_text {P : Program} {w : World} {src dst e base g n cap : Nat} {L : List Nat} (hs : P.underlying src = some (.slice e)) (he : P.underlying e = some (.int .u8)) (hd : P.underlying dst = some .string)
    (h : w.ownsRow base e 1 (.slice (some ⟨g, 0, none⟩) n cap) n (bys L)) (hL : ∀ x ∈ L, x < 256) (hn : L.length = n) :
    (convert src dst (.slice (some ⟨g, 0, none⟩) n cap)).run P w = .ok (.string (txt L)) w := by
  have := run_convert_bytes_back (P := P) w src dst e ⟨g, 0, none⟩ cap (L.map UInt8.ofNat) hs he hd (fun j hj => by
    rw [List.length_map] at hj
    rw [addr_add, Nat.zero_add, h.cellAt j (by omega), bys_get hj, List.getElem_map, List.getElem?_eq_getElem hj]
    have := hL L[j] (List.getElem_mem hj)
    simp only [Option.getD_some, UInt8.toNat_ofNat']
    rw [Nat.mod_eq_of_lt (by omega)])
  rw [List.length_map, hn] at this
  exact this

set_option maxRecDepth 100000 in
set_option maxHeartbeats 2000000 in
theorem text_main (a : Option Addr) (n c : Nat) (xs : List Nat) (w : World) (h : Nums w a n c xs) (hf : val xs < Top) (h0 : val xs ≠ 0) :
    Calls Try.prog 16 #[.slice a n c] w (Post w fun v _ => v = .string (txt (rdig (val xs)).reverse)) := by
  obtain ⟨i0, hi, hz0, hz1, hz2⟩ := info_parts info_u8
  have hno : [xs].any isLong = false := by rw [any_one]; exact isLong_false hf
  have hl := length_limbs_pos h0
  have hN : (rdig (val xs)).length ≤ 131072 := Nat.le_trans (rdig_len (lt_blen _)) (blen_top hf)
  obtain ⟨N, hNe⟩ : ∃ N, val xs = N := ⟨_, rfl⟩
  rw [hNe] at hl hN h0 ⊢
  have hlb : (((limbs N).length : Int) == 0) = false := by rw [beq_eq_false_iff_ne]; omega
  have HN := Lib.hid hNe
  have HNO := Lib.hid hno
  have H0 := Lib.hid h0
  clear hNe hno hf h0
  go_enter Try.func16, Try.ntmps16
  go_wp2_with (first
    | (go_at_call 34; refine (long_any _ _ _ [xs] _ (NumsL.one (by simp) (h.ext (Ext.of_alloc _ _)))).mono ?_; rintro e w2 ⟨v, rfl, hext2, rfl⟩; rw [HNO.out]; have hn2 := h.ext ((Ext.of_alloc _ _).trans hext2); have hE2 := (Ext.of_alloc w _).trans hext2; clear h hext2)
    | (go_at_call 35; refine (normal_any _ _ _ _ _ hn2).mono ?_; rintro e w3 ⟨v, rfl, hext3, a', n', c', rfl, hn⟩; rw [HN.out] at hn; obtain rfl := hn.len))
  clear hn2
  have hE3 := hE2.trans hext3
  clear hE2 hext3
  go_loopg [0, 3] N (fun A s0 s3 wr => ∃ (a : Option Addr) (n c : Nat) (D : List Nat), s0 = .slice a n c ∧ Nums wr a n c (limbs A) ∧ Out wr w.heap.size s3 D ∧ Hid (D ++ rdig A = rdig N) ∧ Ext w wr)
  case atStart => exact ⟨_, _, _, [], rfl, hn, .inl ⟨rfl, rfl⟩, Lib.hid rfl, hE3⟩
  case round =>
    clear hn hE3
    obtain ⟨a1, n1, c1, D, rfl, hn, hO, HD, hE⟩ := hrel
    by_cases hA : gk = 0
    · have hD := HD.out
      rw [hA, rdig_zero, List.append_nil] at hD
      rcases hO with ⟨h1, _⟩ | ⟨_, g, cap, rfl, hown⟩
      · rw [h1, rdig_pos H0.out] at hD
        cases hD
      · have hlen : D.length ≤ 131072 := by rw [hD]; exact hN
        have hm : n1 = 0 := by rw [← hn.len, hA, limbs_zero]; rfl
        subst hm
        have hlt : ∀ x ∈ D.reverse, x < 256 := fun x hx => by
          rw [List.mem_reverse, hD] at hx
          have := rdig_lt N x hx
          omega
        have HLT := Lib.hid hlt
        have HDD := Lib.hid hD
        clear hlt hD hA
        have hgb : w.heap.size ≤ g := (hown.lt g rfl).1
        go_wp2_with (go_at_call 37; refine (reverse_any g cap w.heap.size D (by omega) _ hown).mono ?_; rintro e wR ⟨rfl, honly, hown'⟩; have hconv := run_text (P := Try.prog) (src := 62) (dst := 9) Try.underlying62 Try.underlying5 Try.underlying9 hown' HLT.out (by simp))
        go_ret
        rw [← HDD.out]
        exact Post.mk (honly.1 w hE hgb) rfl
    · have hm : 0 < n1 := by rw [← hn.len]; exact length_limbs_pos hA
      have HA := Lib.hid hA
      clear hA
      go_wp2_with (go_at_call 36; refine (small_any _ _ _ _ 10000000000000000000 (by omega) (by unfold B64; omega) _ hn).mono ?_; rintro e wS ⟨v, rfl, hextS, a2, n2, c2, rfl, hq⟩)
      rw [val_limbs] at hq
      obtain ⟨Q, hQ⟩ : ∃ Q, gk / 10000000000000000000 = Q := ⟨_, rfl⟩
      have hG0 : GroupOk N Q (gk % 10000000000000000000) 19 D := by rw [← hQ]; exact GroupOk.start HD.out
      have hQlt : Q < gk := by have := HA.out; omega
      rw [hQ] at hq
      obtain ⟨A, rfl⟩ : ∃ A, A = gk := ⟨_, rfl⟩
      have hES := hE.trans hextS
      have hOS := hO.ext hextS
      have hqn : n2 = 0 ↔ Q = 0 := by
        rw [← hq.len, List.length_eq_zero_iff]; exact limbs_eq_nil
      have HQN := Lib.hid hqn
      clear hqn hQ hextS hE hO hn
      go_loopg [3, 4, 5] 19 (fun k s3 s4 s5 wx => ∃ (D : List Nat) (r i : Nat), s4 = .int .u64 r ∧ s5 = .int .i64 i ∧ i + k = 19 ∧ Out wx w.heap.size s3 D ∧ Hid (GroupOk N Q r k D) ∧ Ext wS wx)
      case atStart => exact ⟨D, A % 10000000000000000000, 0, by congr 1; rw [val_limbs]; omega, rfl, rfl, hOS, Lib.hid hG0, Ext.refl _⟩
      case round =>
        clear hG0 hOS HD D
        obtain ⟨D, r, i, rfl, rfl, hik, hO, HG, hE⟩ := hrel
        by_cases hk : gk = 0
        · have hi19 : i = 19 := by omega
          have HD2 := Lib.hid (HG.out.done (.inl hk))
          clear hk hik
          subst hi19
          go_wp2
          go_roundg Q
          case rel => exact ⟨_, _, _, D, rfl, hq.ext hE, hO, HD2, hES.trans hE⟩
          case measure => exact hQlt
        · by_cases hr0 : r = 0
          · by_cases hQ0 : Q = 0
            · have HD2 := Lib.hid (HG.out.done (.inr ⟨hr0, hQ0⟩))
              have hn20 := HQN.out.2 hQ0
              have HQ0 := Lib.hid hQ0
              clear hQ0
              subst hr0
              subst hn20
              go_wp2
              go_roundg Q
              case rel => exact ⟨_, _, _, D, rfl, hq.ext hE, hO, HD2, hES.trans hE⟩
              case measure => exact hQlt
            · have hQp : 0 < Q := by omega
              have hn2 : 0 < n2 := by have := mt HQN.out.1 hQ0; omega
              have hi19 : i < 19 := by omega
              obtain ⟨gk, rfl⟩ : ∃ t, gk = t + 1 := ⟨gk - 1, by omega⟩
              clear hQ0
              have hDl := HG.out.len
              have hst := HG.out.step (.inr hQp)
              subst hr0
              have hst2 : GroupOk N Q 0 gk (D ++ [48]) := hst
              have HST := Lib.hid hst2
              clear hst hst2 HG
              rcases hO with ⟨hD, rfl⟩ | ⟨hD, g, cap, rfl, hown⟩
              · subst hD
                go_wp2_with (at_builtin; refine wpList_append_grows _ rfl _ _ 62 rfl 5 i0 (.int .u8 0) 1 1 Try.underlying62 hi hz0 hz1 hz2 rfl (by decide) none 0 0 [] rfl (fun _ => ⟨rfl, rfl⟩) rfl (fun b h => by cases h) ⟨wr.heap.size, 0, none⟩ 1 1 [.int .u8 48] rfl rfl (cell_one_new _ _ _) (by simp [Value.oneCell']) (by omega) (by unfold maxLen; omega) (by omega) ?_; intro v' wG hown' hgrow)
                go_roundg gk
                case rel =>
                  rw [List.nil_append] at HST
                  exact ⟨[48], 0, i + 1, rfl, by go_num, by omega, Out.of_own (D := []) hown' (by have h1 := hE.size; have h2 := hES.size; simp; omega), HST, (hE.alloc _).grown hgrow (fun k e => by cases e)⟩
                case measure => omega
              · have hcap := own_cap hown
                have hpos : 0 < D.length := List.length_pos_iff.2 hD
                have HO := Lib.hid hown
                clear hown
                go_wp2_with (at_builtin; refine wpList_append_grows _ rfl _ _ 62 rfl 5 i0 (.int .u8 0) 1 1 Try.underlying62 hi hz0 hz1 hz2 rfl (by decide) (some ⟨g, 0, none⟩) D.length D.length (bys D) rfl (fun h => by cases h) (by simp [length_bys]) (fun b h j u hu => by cases h; exact (HO.out.alloc _).cells rfl j u hu) ⟨wr.heap.size, 0, none⟩ 1 1 [.int .u8 48] rfl rfl (cell_one_new _ _ _) (by simp [Value.oneCell']) (by omega) (by unfold maxLen; omega) (by omega) ?_; intro v' wG hown' hgrow)
                go_roundg gk
                case rel =>
                  exact ⟨D ++ [48], 0, i + 1, rfl, by go_num, by omega, Out.of_own hown' (by have h1 := hE.size; have h2 := hES.size; simp; omega), HST, (hE.alloc _).grown hgrow (fun k e => by cases e)⟩
                case measure => omega
          · have hrp : 0 < r := by omega
            have hi19 : i < 19 := by omega
            obtain ⟨gk, rfl⟩ : ∃ t, gk = t + 1 := ⟨gk - 1, by omega⟩
            have hDl := HG.out.len
            have hst := HG.out.step (.inl hrp)
            obtain ⟨d, hd⟩ : ∃ d, r % 10 = d := ⟨_, rfl⟩
            rw [hd] at hst
            have hst2 : GroupOk N Q (r / 10) gk (D ++ [48 + d]) := hst
            have HST := Lib.hid hst2
            have ed : (r : Int) % 10 = d := by omega
            have hd10 : d < 10 := by omega
            have hr64 : r < 18446744073709551616 := Nat.lt_of_lt_of_le HG.out.2 (Nat.le_trans (Nat.pow_le_pow_right (by omega) (show gk + 1 ≤ 19 by omega)) (by omega))
            have ex : (48 : Int) + d = ((48 + d : Nat) : Int) := by omega
            have HEX := Lib.hid ex
            have HDD := Lib.hid hd
            clear hst hst2 hd ex HG hr0
            rcases hO with ⟨hD, rfl⟩ | ⟨hD, g, cap, rfl, hown⟩
            · subst hD
              go_wp2_with (at_builtin; refine wpList_append_grows _ rfl _ _ 62 rfl 5 i0 (.int .u8 0) 1 1 Try.underlying62 hi hz0 hz1 hz2 rfl (by decide) none 0 0 [] rfl (fun _ => ⟨rfl, rfl⟩) rfl (fun b h => by cases h) ⟨wr.heap.size, 0, none⟩ 1 1 [.int .u8 (48 + (d : Int))] rfl rfl (cell_one_new _ _ _) (by simp [Value.oneCell']) (by omega) (by unfold maxLen; omega) (by omega) ?_; intro v' wG hown' hgrow)
              go_roundg gk
              case rel =>
                rw [List.nil_append] at HST
                rw [HEX.out] at hown'
                exact ⟨[48 + d], r / 10, i + 1, by congr 1 <;> omega, by go_num, by omega, Out.of_own (D := []) hown' (by have h1 := hE.size; have h2 := hES.size; simp; omega), HST, (hE.alloc _).grown hgrow (fun k e => by cases e)⟩
              case measure => omega
            · have hcap := own_cap hown
              have hpos : 0 < D.length := List.length_pos_iff.2 hD
              have HO := Lib.hid hown
              clear hown
              go_wp2_with (at_builtin; refine wpList_append_grows _ rfl _ _ 62 rfl 5 i0 (.int .u8 0) 1 1 Try.underlying62 hi hz0 hz1 hz2 rfl (by decide) (some ⟨g, 0, none⟩) D.length D.length (bys D) rfl (fun h => by cases h) (by simp [length_bys]) (fun b h j u hu => by cases h; exact (HO.out.alloc _).cells rfl j u hu) ⟨wr.heap.size, 0, none⟩ 1 1 [.int .u8 (48 + (d : Int))] rfl rfl (cell_one_new _ _ _) (by simp [Value.oneCell']) (by omega) (by unfold maxLen; omega) (by omega) ?_; intro v' wG hown' hgrow)
              go_roundg gk
              case rel =>
                rw [HEX.out] at hown'
                exact ⟨D ++ [48 + d], r / 10, i + 1, by congr 1 <;> omega, by go_num, by omega, Out.of_own hown' (by have h1 := hE.size; have h2 := hES.size; simp; omega), HST, (hE.alloc _).grown hgrow (fun k e => by cases e)⟩
              case measure => omega
end Go.Proofs.Ytgihjgkpmochcaa

namespace Go.Proofs.Ytgihjgkpmochcaa
open Go.RowKit

theorem text_zero (a : Option Addr) (n c : Nat) (xs : List Nat) (w : World) (h : Nums w a n c xs) (h0 : val xs = 0) :
    Calls Try.prog 16 #[.slice a n c] w (Post w fun v _ => v = .string (txt [48])) := by
  have hno : [xs].any isLong = false := by rw [any_one]; exact isLong_false (by rw [h0]; exact Top_pos)
  have HNO := Lib.hid hno
  have H0 := Lib.hid h0
  clear hno h0
  go_enter Try.func16, Try.ntmps16
  go_wp2_with (first
    | (go_at_call 34; refine (long_any _ _ _ [xs] _ (NumsL.one (by simp) (h.ext (Ext.of_alloc _ _)))).mono ?_; rintro e w2 ⟨v, rfl, hext2, rfl⟩; rw [HNO.out]; have hn2 := h.ext ((Ext.of_alloc _ _).trans hext2); have hE2 := (Ext.of_alloc w _).trans hext2; clear h hext2)
    | (go_at_call 35; refine (normal_any _ _ _ _ _ hn2).mono ?_; rintro e w3 ⟨v, rfl, hext3, a', n', c', rfl, hn⟩; rw [H0.out, limbs_zero] at hn; obtain rfl : n' = 0 := hn.len.symm))
  go_ret
  exact Post.mk (hE2.trans hext3) rfl
theorem text_any (a : Option Addr) (n c : Nat) (xs : List Nat) (w : World) (h : Nums w a n c xs) (hf : val xs < Top) :
    Calls Try.prog 16 #[.slice a n c] w (Post w fun v _ => v = .string (txt (decT (val xs)))) := by
  unfold decT
  by_cases h0 : val xs = 0
  · rw [if_pos h0]; exact text_zero a n c xs w h h0
  · rw [if_neg h0]; exact text_main a n c xs w h hf h0

/-- Where the first byte stands that is no digit. -/
def firstBad : List Nat → Nat → Int
  | [], _ => -1
  | x :: l, k => if x < 48 ∨ 57 < x then (k : Int) else firstBad l (k + 1)
theorem firstBad_drop (L : List Nat) (k : Nat) (hk : k < L.length) : firstBad (L.drop k) k = if L[k]?.getD 0 < 48 ∨ 57 < L[k]?.getD 0 then (k : Int) else firstBad (L.drop (k + 1)) (k + 1) := by
  rw [List.drop_eq_getElem_cons hk, firstBad, List.getElem?_eq_getElem hk]
  rfl
theorem firstBad_iff (L : List Nat) (k : Nat) : 0 ≤ firstBad L k ↔ L.any (fun x => decide (x < 48 ∨ 57 < x)) = true := by
  induction L generalizing k with
  | nil => simp [firstBad]
  | cons x L ih =>
    rw [firstBad, List.any_cons]
    by_cases h : x < 48 ∨ 57 < x
    · rw [if_pos h]; simp [h]
    · rw [if_neg h, ih]; simp [h]
end Go.Proofs.Ytgihjgkpmochcaa

namespace Go.Proofs.Ytgihjgkpmochcaa
open Go.RowKit

end Go.Proofs.Ytgihjgkpmochcaa

namespace Go.Proofs.Ytgihjgkpmochcaa
open Go.RowKit

/-- The number that bytes of digits tell. -/
def numOf (l : List Nat) : Nat := l.foldl (fun a c => a * 10 + (c - 48)) 0
theorem numOf_snoc (l : List Nat) (c : Nat) : numOf (l ++ [c]) = numOf l * 10 + (c - 48) := by simp [numOf]
/-- A string's bytes as numbers. -/
def bts (s : ByteArray) : List Nat := s.data.toList.map (·.toNat)
theorem length_bts (s : ByteArray) : (bts s).length = s.size := by simp [bts]

/-- A string turned to bytes. -/
theorem run_bytes {P : Program} (w : World) (src dst e : TypeId) (s : ByteArray) (hs : P.underlying src = some .string) (hd : P.underlying dst = some (.slice e)) (he : P.underlying e = some (.int .u8)) :
    ∃ C W, (convert src dst (.string s)).run P w = .ok (.slice (some ⟨w.heap.size, 0, none⟩) s.size C) W ∧ Ext w W ∧ ∀ i, i < s.size → W.cell? ⟨w.heap.size, i, none⟩ = some (.int .u8 (((bts s)[i]?.getD 0 : Nat) : Int)) := by
  refine ⟨_, _, run_bytes_of_string (P := P) w src dst e s hs hd he, ((Ext.refl w).drew).alloc _, fun i hi => ?_⟩
  have := World.cell?_alloc_mark w.drew (bytesRow s (grownCap w s.size 0 e)) e ((bytesRow s (grownCap w s.size 0 e)).size, (bytesRow s (grownCap w s.size 0 e)).size + 1) i
  refine this.trans ?_
  rw [bytesRow_at s _ i hi]
  simp [bts]
  rw [Array.getElem?_eq_getElem hi]
  rfl

/-- What is kept while a group of digits is read. -/
def ReadOk (L : List Nat) (i t nn b : Nat) : Prop := b = 10 ^ t ∧ nn < 10 ^ t ∧ numOf (L.take (i + t)) = numOf (L.take i) * 10 ^ t + nn
theorem ReadOk.start (L : List Nat) (i : Nat) : ReadOk L i 0 0 1 := ⟨rfl, by simp, by simp⟩
theorem ReadOk.step {L : List Nat} {i t nn b c : Nat} (h : ReadOk L i t nn b) (hi : i + t < L.length) (hc : L[i + t]?.getD 0 = c) (h1 : 48 ≤ c) (h2 : c ≤ 57) : ReadOk L i (t + 1) (nn * 10 + (c - 48)) (b * 10) := by
  obtain ⟨hb, hn, hv⟩ := h
  refine ⟨by rw [hb, Nat.pow_succ], by rw [Nat.pow_succ]; omega, ?_⟩
  rw [← Nat.add_assoc, List.take_add_one, List.getElem?_eq_getElem hi]
  rw [List.getElem?_eq_getElem hi] at hc
  rw [show L[i + t] = c from hc]
  show numOf (_ ++ [c]) = _
  rw [numOf_snoc, hv, Nat.pow_succ, Nat.add_mul, Nat.mul_assoc, Nat.add_assoc]

theorem numOf_append_le (l r : List Nat) : numOf l ≤ numOf (l ++ r) := by
  induction r using snoc_ind with
  | h0 => simp
  | h1 r c ih => rw [← List.append_assoc, numOf_snoc]; omega
theorem numOf_take_le (L : List Nat) (k : Nat) : numOf (L.take k) ≤ numOf L := by
  conv => rhs; rw [← List.take_append_drop k L]
  exact numOf_append_le _ _
theorem isEmpty_of_size {s : ByteArray} (h : 0 < s.size) : s.toList.isEmpty = false := by
  rw [ByteArray.toList_eq]
  cases hl : s.data.toList with
  | nil =>
    have : s.data.toList.length = 0 := by rw [hl]; rfl
    simp at this
    rw [this] at h
    exact absurd h (by decide)
  | cons => rfl
/-- The byte at a place, as a number, is a digit. -/
theorem digit_bd {s : ByteArray} (hd : (bts s).any (fun x => decide (x < 48 ∨ 57 < x)) = false) {i : Nat} (hi : i < s.size) : 48 ≤ s[i].toNat ∧ s[i].toNat ≤ 57 ∧ (bts s)[i]?.getD 0 = s[i].toNat := by
  have e : (bts s)[i]? = some s[i].toNat := by
    have h2 : s.data.toList[i]? = some s[i] := by
      rw [List.getElem?_eq_getElem (by simpa using hi)]; rfl
    rw [bts, List.getElem?_map, h2]; rfl
  rw [List.any_eq_false] at hd
  have := hd _ (List.mem_of_getElem? e)
  simp at this
  refine ⟨by omega, by omega, by rw [e]; rfl⟩
theorem pow18 {t : Nat} (h : t < 18) : 10 ^ t < 1000000000000000000 := Nat.lt_of_lt_of_le (Nat.pow_lt_pow_right (by omega) h) (by omega)
theorem pow18_le {t : Nat} (h : t ≤ 18) : 10 ^ t ≤ 1000000000000000000 := Nat.le_trans (Nat.pow_le_pow_right (by omega) h) (by omega)
theorem fit_some {m : Nat} (h : m < Top) : fit m = some m := by unfold fit; exact if_pos h
theorem fit_none {m : Nat} (h : ¬ m < Top) : fit m = none := by unfold fit; exact if_neg h
theorem few_of_top {w : World} {a : Option Addr} {n c m : Nat} (h : Nums w a n c (limbs m)) (hm : m < Top) : n ≤ 2048 := by
  rw [← h.len]; exact (fits_iff m).2 hm

end Go.Proofs.Ytgihjgkpmochcaa

namespace Go.Proofs.Ytgihjgkpmochcaa
open Go.RowKit

/-- Is a text digits, and some? -/
def Digits (s : ByteArray) : Prop := 0 < s.size ∧ (bts s).any (fun x => decide (x < 48 ∨ 57 < x)) = false
/-- What Parse tells. -/
def ParseRes (s : ByteArray) (w : World) (v : Value) : Prop :=
  (40000 < s.size → v = .tuple #[.slice none 0 0, .int .i64 3]) ∧
  (s.size ≤ 40000 → ¬ Digits s → v = .tuple #[.slice none 0 0, .int .i64 5]) ∧
  (s.size ≤ 40000 → Digits s → NRes w v (fit (numOf (bts s))))
end Go.Proofs.Ytgihjgkpmochcaa

namespace Go.Proofs.Ytgihjgkpmochcaa
open Go.RowKit

/-- The value reads as limbs that come to m. -/
def IsN (w : World) (v : Value) (m : Nat) : Prop := ∃ a n c xs, v = .slice a n c ∧ Nums w a n c xs ∧ n ≤ 4096 ∧ val xs = m
/-- The value is the number m, normal. -/
def Num (w : World) (v : Value) (m : Nat) : Prop := m < Top ∧ ∃ a n c, v = .slice a n c ∧ Nums w a n c (limbs m)
theorem IsN.ext {w w' : World} {v : Value} {m : Nat} (h : IsN w v m) (e : Ext w w') : IsN w' v m := by
  obtain ⟨a, n, c, xs, rfl, h, hn, hv⟩ := h
  exact ⟨a, n, c, xs, rfl, h.ext e, hn, hv⟩
theorem Num.ext {w w' : World} {v : Value} {m : Nat} (h : Num w v m) (e : Ext w w') : Num w' v m := by
  obtain ⟨ht, a, n, c, rfl, h⟩ := h
  exact ⟨ht, a, n, c, rfl, h.ext e⟩
theorem Num.is {w : World} {v : Value} {m : Nat} (h : Num w v m) : IsN w v m := by
  obtain ⟨ht, a, n, c, rfl, h⟩ := h
  exact ⟨a, n, c, _, rfl, h, by have := few_of_top h ht; omega, val_limbs m⟩
theorem Num.lt {w : World} {v : Value} {m : Nat} (h : Num w v m) : m < Top := h.1
theorem Num.nil (w : World) : Num w (.slice none 0 0) 0 := ⟨Top_pos, none, 0, 0, rfl, by rw [limbs_zero]; exact Nums.nil _ _ _⟩
theorem Num.at {w : World} {v : Value} {m n : Nat} (h : Num w v m) (e : m = n) : Num w v n := e ▸ h
theorem IsN.at {w : World} {v : Value} {m n : Nat} (h : IsN w v m) (e : m = n) : IsN w v n := e ▸ h
theorem IsN.of {w : World} {a : Option Addr} {n c : Nat} {xs : List Nat} (h : Nums w a n c xs) (hn : n ≤ 4096) : IsN w (.slice a n c) (val xs) := ⟨a, n, c, xs, rfl, h, hn, rfl⟩
theorem IsN.one {w : World} {b x c : Nat} (h : w.cell? ⟨b, 0, none⟩ = some (.int .u64 x)) (hx : x < B64) (hc : 1 ≤ c) : IsN w (.slice (some ⟨b, 0, none⟩) 1 c) x :=
  ⟨_, _, _, _, rfl, Nums.one h hx hc, by omega, val_one x⟩
/-- A number and no error. -/
def NOk (w : World) (v : Value) (m : Nat) : Prop := ∃ x, v = .tuple #[x, .int .i64 0] ∧ Num w x m
theorem NRes.ok {w : World} {v : Value} {m : Nat} (h : NRes w v (some m)) (ht : m < Top) : NOk w v m := by
  obtain ⟨a, n, c, rfl, h⟩ := h
  exact ⟨_, rfl, ht, a, n, c, rfl, h⟩
theorem NRes.fit_ok {w : World} {v : Value} {m : Nat} (h : NRes w v (fit m)) (ht : m < Top) : NOk w v m := by
  rw [fit_some ht] at h; exact h.ok ht

theorem of_n {x : Nat} (hx : x < B64) (w : World) : Calls Try.prog 13 #[.int .u64 x] w (Post w fun v w' => Num w' v x) := by
  refine (of_any x hx w).mono ?_
  rintro e w' ⟨v, rfl, hext, a, n, c, rfl, hn⟩
  exact Post.mk hext ⟨Nat.lt_of_lt_of_le hx Top_big, a, n, c, rfl, hn⟩
theorem norm_n {w : World} {v : Value} {m : Nat} (h : IsN w v m) (ht : m < Top) : Calls Try.prog 23 #[v] w (Post w fun v w' => NOk w' v m) := by
  obtain ⟨a, n, c, xs, rfl, h, hn, rfl⟩ := h
  refine (norm_any a n c xs w h).mono ?_
  rintro e w' ⟨v, rfl, hext, h⟩
  exact Post.mk hext (h.fit_ok ht)
theorem bits_n {w : World} {v : Value} {m : Nat} (h : IsN w v m) : Calls Try.prog 42 #[v] w (Post w fun v _ => v = .int .i64 (blen m)) := by
  obtain ⟨a, n, c, xs, rfl, h, hn, rfl⟩ := h
  exact bits_any a n c xs w h
theorem cmp_n {w : World} {v1 v2 : Value} {m1 m2 : Nat} (h1 : IsN w v1 m1) (h2 : IsN w v2 m2) : Calls Try.prog 43 #[v1, v2] w (Post w fun v _ => v = .int .i64 (cmpN m1 m2)) := by
  obtain ⟨a1, n1, c1, xs, rfl, h1, hn1, rfl⟩ := h1
  obtain ⟨a2, n2, c2, ys, rfl, h2, hn2, rfl⟩ := h2
  exact cmp_any a1 a2 n1 c1 n2 c2 xs ys w h1 h2
theorem add_n {w : World} {v1 v2 : Value} {m1 m2 : Nat} (h1 : IsN w v1 m1) (h2 : IsN w v2 m2) : Calls Try.prog 52 #[v1, v2] w (Post w fun v w' => NRes w' v (fit (m1 + m2))) := by
  obtain ⟨a1, n1, c1, xs, rfl, h1, hn1, rfl⟩ := h1
  obtain ⟨a2, n2, c2, ys, rfl, h2, hn2, rfl⟩ := h2
  exact add_any a1 a2 n1 c1 n2 c2 xs ys w h1 h2 (by omega) (by omega)
theorem add_ok {w : World} {v1 v2 : Value} {m1 m2 : Nat} (h1 : IsN w v1 m1) (h2 : IsN w v2 m2) (ht : m1 + m2 < Top) : Calls Try.prog 52 #[v1, v2] w (Post w fun v w' => NOk w' v (m1 + m2)) := by
  refine (add_n h1 h2).mono ?_
  rintro e w' ⟨v, rfl, hext, h⟩
  exact Post.mk hext (h.fit_ok ht)
theorem sub_ok {w : World} {v1 v2 : Value} {m1 m2 : Nat} (h1 : IsN w v1 m1) (h2 : IsN w v2 m2) (ht : m1 < Top) (hle : m2 ≤ m1) : Calls Try.prog 41 #[v1, v2] w (Post w fun v w' => NOk w' v (m1 - m2)) := by
  obtain ⟨a1, n1, c1, xs, rfl, h1, hn1, rfl⟩ := h1
  obtain ⟨a2, n2, c2, ys, rfl, h2, hn2, rfl⟩ := h2
  refine (sub_any a1 a2 n1 c1 n2 c2 xs ys w h1 h2).mono ?_
  rintro e w' ⟨v, rfl, hext, h⟩
  rw [if_pos ⟨ht, by omega⟩, if_pos hle] at h
  exact Post.mk hext (h.ok (by omega))
theorem sub_none {w : World} {v1 v2 : Value} {m1 m2 : Nat} (h1 : IsN w v1 m1) (h2 : IsN w v2 m2) (ht1 : m1 < Top) (ht2 : m2 < Top) (hlt : m1 < m2) : Calls Try.prog 41 #[v1, v2] w (Post w fun v _ => v = .tuple #[.slice none 0 0, .int .i64 7]) := by
  obtain ⟨a1, n1, c1, xs, rfl, h1, hn1, rfl⟩ := h1
  obtain ⟨a2, n2, c2, ys, rfl, h2, hn2, rfl⟩ := h2
  refine (sub_any a1 a2 n1 c1 n2 c2 xs ys w h1 h2).mono ?_
  rintro e w' ⟨v, rfl, hext, h⟩
  rw [if_pos ⟨ht1, ht2⟩, if_neg (by omega)] at h
  exact Post.mk hext h
theorem mul_n {w : World} {v1 v2 : Value} {m1 m2 : Nat} (h1 : IsN w v1 m1) (h2 : IsN w v2 m2) (ht1 : m1 < Top) (ht2 : m2 < Top) : Calls Try.prog 92 #[v1, v2] w (Post w fun v w' => NRes w' v (fit (m1 * m2))) := by
  obtain ⟨a1, n1, c1, xs, rfl, h1, hn1, rfl⟩ := h1
  obtain ⟨a2, n2, c2, ys, rfl, h2, hn2, rfl⟩ := h2
  exact mul_any a1 a2 n1 c1 n2 c2 xs ys w h1 h2 ht1 ht2
theorem mul_ok {w : World} {v1 v2 : Value} {m1 m2 : Nat} (h1 : IsN w v1 m1) (h2 : IsN w v2 m2) (ht1 : m1 < Top) (ht2 : m2 < Top) (ht : m1 * m2 < Top) : Calls Try.prog 92 #[v1, v2] w (Post w fun v w' => NOk w' v (m1 * m2)) := by
  refine (mul_n h1 h2 ht1 ht2).mono ?_
  rintro e w' ⟨v, rfl, hext, h⟩
  exact Post.mk hext (h.fit_ok ht)
/-- A quotient and a rest, and no error. -/
def DOk (w : World) (v : Value) (Q R : Nat) : Prop := ∃ q r, v = .tuple #[q, r, .int .i64 0] ∧ Num w q Q ∧ Num w r R
theorem div_ok {w : World} {v1 v2 : Value} {m1 m2 : Nat} (h1 : IsN w v1 m1) (h2 : IsN w v2 m2) (ht1 : m1 < Top) (ht2 : m2 < Top) (h0 : m2 ≠ 0) : Calls Try.prog 77 #[v1, v2] w (Post w fun v w' => DOk w' v (m1 / m2) (m1 % m2)) := by
  obtain ⟨a1, n1, c1, xs, rfl, h1, hn1, rfl⟩ := h1
  obtain ⟨a2, n2, c2, ys, rfl, h2, hn2, rfl⟩ := h2
  refine (div_any a1 a2 n1 c1 n2 c2 xs ys w h1 h2 ht1 ht2 h0).mono ?_
  rintro e w' ⟨v, rfl, hext, aq, nq, cq, ar, nr, cr, rfl, hq, hr⟩
  exact Post.mk hext ⟨_, _, rfl, ⟨Nat.lt_of_le_of_lt (Nat.div_le_self _ _) ht1, _, _, _, rfl, hq⟩, ⟨Nat.lt_of_le_of_lt (Nat.mod_le _ _) ht1, _, _, _, rfl, hr⟩⟩
theorem div_arg {w : World} {v1 v2 : Value} {m1 : Nat} (h1 : IsN w v1 m1) (h2 : IsN w v2 0) (ht1 : m1 < Top) : Calls Try.prog 77 #[v1, v2] w (Post w fun v _ => v = .tuple #[.slice none 0 0, .slice none 0 0, .int .i64 2]) := by
  obtain ⟨a1, n1, c1, xs, rfl, h1, hn1, rfl⟩ := h1
  obtain ⟨a2, n2, c2, ys, rfl, h2, hn2, h0⟩ := h2
  exact div_zero a1 a2 n1 c1 n2 c2 xs ys w h1 h2 ht1 h0
theorem shr_ok {w : World} {v1 : Value} {m1 : Nat} (k : Nat) (h1 : IsN w v1 m1) (ht : m1 < Top) (hk : k ≤ 4611686018427387904) : Calls Try.prog 91 #[v1, .int .i64 k] w (Post w fun v w' => NOk w' v (m1 / 2 ^ k)) := by
  obtain ⟨a1, n1, c1, xs, rfl, h1, hn1, rfl⟩ := h1
  refine (shr_any a1 n1 c1 xs k w h1 ht hk).mono ?_
  rintro e w' ⟨v, rfl, hext, h⟩
  exact Post.mk hext (h.ok (Nat.lt_of_le_of_lt (Nat.div_le_self _ _) ht))
theorem shr_arg {w : World} {v1 : Value} {m1 : Nat} (k : Int) (h1 : IsN w v1 m1) (hk : k < 0) (ht : m1 < Top) : Calls Try.prog 91 #[v1, .int .i64 k] w (Post w fun v _ => v = .tuple #[.slice none 0 0, .int .i64 2]) := by
  obtain ⟨a1, n1, c1, xs, rfl, h1, hn1, rfl⟩ := h1
  exact shr_neg a1 n1 c1 xs k hk w h1 ht
theorem gcd_lt {m n T : Nat} (h1 : m < T) (h2 : n < T) : Nat.gcd m n < T := by
  by_cases h : m = 0
  · subst h; simpa using h2
  · exact Nat.lt_of_le_of_lt (Nat.gcd_le_left _ (by omega)) h1
theorem gcd_ok {w : World} {v1 v2 : Value} {m1 m2 : Nat} (h1 : IsN w v1 m1) (h2 : IsN w v2 m2) (ht1 : m1 < Top) (ht2 : m2 < Top) : Calls Try.prog 76 #[v1, v2] w (Post w fun v w' => NOk w' v (Nat.gcd m1 m2)) := by
  obtain ⟨a1, n1, c1, xs, rfl, h1, hn1, rfl⟩ := h1
  obtain ⟨a2, n2, c2, ys, rfl, h2, hn2, rfl⟩ := h2
  refine (gcd_any a1 a2 n1 c1 n2 c2 xs ys w h1 h2 ht1 ht2).mono ?_
  rintro e w' ⟨v, rfl, hext, h⟩
  exact Post.mk hext (h.ok (gcd_lt ht1 ht2))
theorem IsRoot.le {a r : Nat} (h : IsRoot a r) : r ≤ a := by
  have := h.1
  rcases Nat.eq_zero_or_pos r with h0 | h0
  · omega
  · exact Nat.le_trans (Nat.le_mul_of_pos_left r h0) this
theorem text_n {w : World} {v1 : Value} {m1 : Nat} (h1 : IsN w v1 m1) (ht1 : m1 < Top) : Calls Try.prog 16 #[v1] w (Post w fun v _ => v = .string (txt (decT m1))) := by
  obtain ⟨a1, n1, c1, xs, rfl, h1, hn1, rfl⟩ := h1
  exact text_any a1 n1 c1 xs w h1 ht1
end Go.Proofs.Ytgihjgkpmochcaa
