/- Text. -/
import Derived.ArgAppend
import Derived.Test.YtnecpkoibknacaaPlainJ
import Derived.Test.YtnecpkoibknacaaW23
namespace Go.Proofs.Ytnecpkoibknacaa
open Go.RowKit

theorem info_u8 : (Try.prog.info? 5).map (fun i => (i.zero, i.size, i.bytes)) = some (some (.int .u8 0), 1, 1) := by kernel_rfl

/-- Bytes that the call itself has laid; none yet, or a row. -/
def Out (w : World) (base : Nat) (v : Value) (D : List Nat) : Prop := (D = [] ∧ v = .slice none 0 0) ∨ (D ≠ [] ∧ ∃ g cap, v = .slice (some ⟨g, 0, none⟩) D.length cap ∧ w.ownsRow base 5 1 (.slice (some ⟨g, 0, none⟩) D.length cap) D.length (bys D))

theorem Out.ext {w w' : World} {base : Nat} {v : Value} {D : List Nat} (h : Out w base v D) (e : Ext w w') : Out w' base v D := by
  rcases h with h | ⟨h0, g, cap, rfl, hr⟩
  · exact .inl h
  · refine .inr ⟨h0, g, cap, rfl, ⟨hr.1, ?_⟩⟩
    rcases hr.2 with ⟨h, _⟩ | ⟨g', cap', cur, h, h1, h2, h3⟩
    · cases h
    · exact .inr ⟨g', cap', cur, h, h1, e.block h2, h3⟩
theorem own_cap {w : World} {base e g n cap : Nat} {xs : List Value} (h : w.ownsRow base e 1 (.slice (some ⟨g, 0, none⟩) n cap) n xs) : n ≤ cap := by
  rcases h.2 with ⟨h, _⟩ | ⟨g', cap', cur, h, _, _, h3, _⟩
  · cases h
  · cases h; exact h3
theorem Out.of_own {w : World} {B base : Nat} {v : Value} {D : List Nat} {x : Nat} (h : w.ownsRow B 5 1 v (D.length + 1) (bys D ++ [.int .u8 (x : Int)])) (hb : base ≤ B) : Out w base v (D ++ [x]) := by
  have e : (D ++ [x]).length = D.length + 1 := by simp
  have e2 : bys (D ++ [x]) = bys D ++ [.int .u8 (x : Int)] := by simp [bys]
  refine .inr ⟨by simp, ?_⟩
  rw [e, e2]
  rcases h.2 with ⟨_, h0⟩ | ⟨g, cap, cur, rfl, h1, h2⟩
  · omega
  · exact ⟨g, cap, rfl, h.1, .inr ⟨g, cap, cur, rfl, Nat.le_trans hb h1, h2⟩⟩

theorem run_text {P : Program} {w : World} {src dst e base g n cap : Nat} {L : List Nat} (hs : P.underlying src = some (.slice e)) (he : P.underlying e = some (.int .u8)) (hd : P.underlying dst = some .string)
    (h : w.ownsRow base e 1 (.slice (some ⟨g, 0, none⟩) n cap) n (bys L)) (hL : ∀ x ∈ L, x < 256) (hn : L.length = n) :
    (convert src dst (.slice (some ⟨g, 0, none⟩) n cap)).run P w = .ok (.string (txt L)) w := by
  have := run_convert_bytes_back (P := P) w src dst e ⟨g, 0, none⟩ cap (L.map UInt8.ofNat) hs he hd (fun j hj => by
    rw [List.length_map] at hj
    rw [addr_add, Nat.zero_add, h.cellAt j (by omega), bys_get hj, List.getElem_map, List.getElem?_eq_getElem hj]
    have := hL L[j] (List.getElem_mem hj)
    simp only [Option.getD_some, UInt8.toNat_ofNat']
    rw [Nat.mod_eq_of_lt (by omega)])
  rw [List.length_map, hn] at this
  exact this

set_option maxRecDepth 100000 in
set_option maxHeartbeats 2000000 in
theorem text_main (a : Option Addr) (n c : Nat) (xs : List Nat) (w : World) (h : Nums w a n c xs) (hf : val xs < Top) (h0 : val xs ≠ 0) :
    Calls Try.prog 23 #[.slice a n c] w (Post w fun v _ => v = .string (txt (rdig (val xs)).reverse)) := by
  obtain ⟨i0, hi, hz0, hz1, hz2⟩ := info_parts info_u8
  have hno : [xs].any isLong = false := by rw [any_one]; exact isLong_false hf
  have hl := length_limbs_pos h0
  have hN : (rdig (val xs)).length ≤ 131072 := Nat.le_trans (rdig_len (lt_blen _)) (blen_top hf)
  obtain ⟨N, hNe⟩ : ∃ N, val xs = N := ⟨_, rfl⟩
  rw [hNe] at hl hN h0 ⊢
  have hlb : (((limbs N).length : Int) == 0) = false := by rw [beq_eq_false_iff_ne]; omega
  have HN := Lib.hid hNe
  have HNO := Lib.hid hno
  have H0 := Lib.hid h0
  clear hNe hno hf h0
  go_enter Try.func23, Try.ntmps23
  go_wp2_with (first
    | (go_at_call 42; refine (long_any _ _ _ [xs] _ (NumsL.one (by simp) (h.ext (Ext.of_alloc _ _)))).mono ?_; rintro e w2 ⟨v, rfl, hext2, rfl⟩; rw [HNO.out]; have hn2 := h.ext ((Ext.of_alloc _ _).trans hext2); have hE2 := (Ext.of_alloc w _).trans hext2; clear h hext2)
    | (go_at_call 41; refine (normal_any _ _ _ _ _ hn2).mono ?_; rintro e w3 ⟨v, rfl, hext3, a', n', c', rfl, hn⟩; rw [HN.out] at hn; obtain rfl := hn.len))
  clear hn2
  have hE3 := hE2.trans hext3
  clear hE2 hext3
  go_loopg [0, 3] N (fun A s0 s3 wr => ∃ (a : Option Addr) (n c : Nat) (D : List Nat), s0 = .slice a n c ∧ Nums wr a n c (limbs A) ∧ Out wr w.heap.size s3 D ∧ Hid (D ++ rdig A = rdig N) ∧ Ext w wr)
  case atStart => exact ⟨_, _, _, [], rfl, hn, .inl ⟨rfl, rfl⟩, Lib.hid rfl, hE3⟩
  case round =>
    clear hn hE3
    obtain ⟨a1, n1, c1, D, rfl, hn, hO, HD, hE⟩ := hrel
    by_cases hA : gk = 0
    · have hD := HD.out
      rw [hA, rdig_zero, List.append_nil] at hD
      rcases hO with ⟨h1, _⟩ | ⟨_, g, cap, rfl, hown⟩
      · rw [h1, rdig_pos H0.out] at hD
        cases hD
      · have hlen : D.length ≤ 131072 := by rw [hD]; exact hN
        have hm : n1 = 0 := by rw [← hn.len, hA, limbs_zero]; rfl
        subst hm
        have hlt : ∀ x ∈ D.reverse, x < 256 := fun x hx => by
          rw [List.mem_reverse, hD] at hx
          have := rdig_lt N x hx
          omega
        have HLT := Lib.hid hlt
        have HDD := Lib.hid hD
        clear hlt hD hA
        have hgb : w.heap.size ≤ g := (hown.lt g rfl).1
        go_wp2_with (go_at_call 56; refine (reverse_any g cap w.heap.size D (by omega) _ hown).mono ?_; rintro e wR ⟨rfl, honly, hown'⟩; have hconv := run_text (P := Try.prog) (src := 62) (dst := 9) Try.underlying62 Try.underlying5 Try.underlying9 hown' HLT.out (by simp))
        go_ret
        rw [← HDD.out]
        exact Post.mk (honly.1 w hE hgb) rfl
    · have hm : 0 < n1 := by rw [← hn.len]; exact length_limbs_pos hA
      have HA := Lib.hid hA
      clear hA
      go_wp2_with (go_at_call 44; refine (small_any _ _ _ _ 10000000000000000000 (by omega) (by unfold B64; omega) _ hn).mono ?_; rintro e wS ⟨v, rfl, hextS, a2, n2, c2, rfl, hq⟩)
      rw [val_limbs] at hq
      obtain ⟨Q, hQ⟩ : ∃ Q, gk / 10000000000000000000 = Q := ⟨_, rfl⟩
      have hG0 : GroupOk N Q (gk % 10000000000000000000) 19 D := by rw [← hQ]; exact GroupOk.start HD.out
      have hQlt : Q < gk := by have := HA.out; omega
      rw [hQ] at hq
      obtain ⟨A, rfl⟩ : ∃ A, A = gk := ⟨_, rfl⟩
      have hES := hE.trans hextS
      have hOS := hO.ext hextS
      have hqn : n2 = 0 ↔ Q = 0 := by
        rw [← hq.len, List.length_eq_zero_iff]; exact limbs_eq_nil
      have HQN := Lib.hid hqn
      clear hqn hQ hextS hE hO hn
      go_loopg [3, 4, 5] 19 (fun k s3 s4 s5 wx => ∃ (D : List Nat) (r i : Nat), s4 = .int .u64 r ∧ s5 = .int .i64 i ∧ i + k = 19 ∧ Out wx w.heap.size s3 D ∧ Hid (GroupOk N Q r k D) ∧ Ext wS wx)
      case atStart => exact ⟨D, A % 10000000000000000000, 0, by congr 1; rw [val_limbs]; omega, rfl, rfl, hOS, Lib.hid hG0, Ext.refl _⟩
      case round =>
        clear hG0 hOS HD D
        obtain ⟨D, r, i, rfl, rfl, hik, hO, HG, hE⟩ := hrel
        by_cases hk : gk = 0
        · have hi19 : i = 19 := by omega
          have HD2 := Lib.hid (HG.out.done (.inl hk))
          clear hk hik
          subst hi19
          go_wp2
          go_roundg Q
          case rel => exact ⟨_, _, _, D, rfl, hq.ext hE, hO, HD2, hES.trans hE⟩
          case measure => exact hQlt
        · by_cases hr0 : r = 0
          · by_cases hQ0 : Q = 0
            · have HD2 := Lib.hid (HG.out.done (.inr ⟨hr0, hQ0⟩))
              have hn20 := HQN.out.2 hQ0
              have HQ0 := Lib.hid hQ0
              clear hQ0
              subst hr0
              subst hn20
              go_wp2
              go_roundg Q
              case rel => exact ⟨_, _, _, D, rfl, hq.ext hE, hO, HD2, hES.trans hE⟩
              case measure => exact hQlt
            · have hQp : 0 < Q := by omega
              have hn2 : 0 < n2 := by have := mt HQN.out.1 hQ0; omega
              have hi19 : i < 19 := by omega
              obtain ⟨gk, rfl⟩ : ∃ t, gk = t + 1 := ⟨gk - 1, by omega⟩
              clear hQ0
              have hDl := HG.out.len
              have hst := HG.out.step (.inr hQp)
              subst hr0
              have hst2 : GroupOk N Q 0 gk (D ++ [48]) := hst
              have HST := Lib.hid hst2
              clear hst hst2 HG
              rcases hO with ⟨hD, rfl⟩ | ⟨hD, g, cap, rfl, hown⟩
              · subst hD
                go_wp2_with (at_builtin; refine wpList_append_grows _ rfl _ _ 62 rfl 5 i0 (.int .u8 0) 1 1 Try.underlying62 hi hz0 hz1 hz2 rfl (by decide) none 0 0 [] rfl (fun _ => ⟨rfl, rfl⟩) rfl (fun b h => by cases h) ⟨wr.heap.size, 0, none⟩ 1 1 [.int .u8 48] rfl rfl (cell_one_new _ _ _) (by simp [Value.oneCell']) (by omega) (by unfold maxLen; omega) (by omega) ?_; intro v' wG hown' hgrow)
                go_roundg gk
                case rel =>
                  rw [List.nil_append] at HST
                  exact ⟨[48], 0, i + 1, rfl, by go_num, by omega, Out.of_own (D := []) hown' (by have h1 := hE.size; have h2 := hES.size; simp; omega), HST, (hE.alloc _).grown hgrow (fun k e => by cases e)⟩
                case measure => omega
              · have hcap := own_cap hown
                have hpos : 0 < D.length := List.length_pos_iff.2 hD
                have HO := Lib.hid hown
                clear hown
                go_wp2_with (at_builtin; refine wpList_append_grows _ rfl _ _ 62 rfl 5 i0 (.int .u8 0) 1 1 Try.underlying62 hi hz0 hz1 hz2 rfl (by decide) (some ⟨g, 0, none⟩) D.length D.length (bys D) rfl (fun h => by cases h) (by simp [length_bys]) (fun b h j u hu => by cases h; exact (HO.out.alloc _).cells rfl j u hu) ⟨wr.heap.size, 0, none⟩ 1 1 [.int .u8 48] rfl rfl (cell_one_new _ _ _) (by simp [Value.oneCell']) (by omega) (by unfold maxLen; omega) (by omega) ?_; intro v' wG hown' hgrow)
                go_roundg gk
                case rel =>
                  exact ⟨D ++ [48], 0, i + 1, rfl, by go_num, by omega, Out.of_own hown' (by have h1 := hE.size; have h2 := hES.size; simp; omega), HST, (hE.alloc _).grown hgrow (fun k e => by cases e)⟩
                case measure => omega
          · have hrp : 0 < r := by omega
            have hi19 : i < 19 := by omega
            obtain ⟨gk, rfl⟩ : ∃ t, gk = t + 1 := ⟨gk - 1, by omega⟩
            have hDl := HG.out.len
            have hst := HG.out.step (.inl hrp)
            obtain ⟨d, hd⟩ : ∃ d, r % 10 = d := ⟨_, rfl⟩
            rw [hd] at hst
            have hst2 : GroupOk N Q (r / 10) gk (D ++ [48 + d]) := hst
            have HST := Lib.hid hst2
            have ed : (r : Int) % 10 = d := by omega
            have hd10 : d < 10 := by omega
            have hr64 : r < 18446744073709551616 := Nat.lt_of_lt_of_le HG.out.2 (Nat.le_trans (Nat.pow_le_pow_right (by omega) (show gk + 1 ≤ 19 by omega)) (by omega))
            have ex : (48 : Int) + d = ((48 + d : Nat) : Int) := by omega
            have HEX := Lib.hid ex
            have HDD := Lib.hid hd
            clear hst hst2 hd ex HG hr0
            rcases hO with ⟨hD, rfl⟩ | ⟨hD, g, cap, rfl, hown⟩
            · subst hD
              go_wp2_with (at_builtin; refine wpList_append_grows _ rfl _ _ 62 rfl 5 i0 (.int .u8 0) 1 1 Try.underlying62 hi hz0 hz1 hz2 rfl (by decide) none 0 0 [] rfl (fun _ => ⟨rfl, rfl⟩) rfl (fun b h => by cases h) ⟨wr.heap.size, 0, none⟩ 1 1 [.int .u8 (48 + (d : Int))] rfl rfl (cell_one_new _ _ _) (by simp [Value.oneCell']) (by omega) (by unfold maxLen; omega) (by omega) ?_; intro v' wG hown' hgrow)
              go_roundg gk
              case rel =>
                rw [List.nil_append] at HST
                rw [HEX.out] at hown'
                exact ⟨[48 + d], r / 10, i + 1, by congr 1 <;> omega, by go_num, by omega, Out.of_own (D := []) hown' (by have h1 := hE.size; have h2 := hES.size; simp; omega), HST, (hE.alloc _).grown hgrow (fun k e => by cases e)⟩
              case measure => omega
            · have hcap := own_cap hown
              have hpos : 0 < D.length := List.length_pos_iff.2 hD
              have HO := Lib.hid hown
              clear hown
              go_wp2_with (at_builtin; refine wpList_append_grows _ rfl _ _ 62 rfl 5 i0 (.int .u8 0) 1 1 Try.underlying62 hi hz0 hz1 hz2 rfl (by decide) (some ⟨g, 0, none⟩) D.length D.length (bys D) rfl (fun h => by cases h) (by simp [length_bys]) (fun b h j u hu => by cases h; exact (HO.out.alloc _).cells rfl j u hu) ⟨wr.heap.size, 0, none⟩ 1 1 [.int .u8 (48 + (d : Int))] rfl rfl (cell_one_new _ _ _) (by simp [Value.oneCell']) (by omega) (by unfold maxLen; omega) (by omega) ?_; intro v' wG hown' hgrow)
              go_roundg gk
              case rel =>
                rw [HEX.out] at hown'
                exact ⟨D ++ [48 + d], r / 10, i + 1, by congr 1 <;> omega, by go_num, by omega, Out.of_own hown' (by have h1 := hE.size; have h2 := hES.size; simp; omega), HST, (hE.alloc _).grown hgrow (fun k e => by cases e)⟩
              case measure => omega
end Go.Proofs.Ytnecpkoibknacaa
