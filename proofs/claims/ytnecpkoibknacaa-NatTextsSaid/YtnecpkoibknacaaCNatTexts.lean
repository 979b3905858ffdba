/- The law 'NatTexts' returns true for every input, and leaves what it was handed as it was: no condition. -/
import Derived.WalkKit
import Derived.ProofKit
import Derived.OpenShut
import Derived.ShutString
import Derived.ChangeOld
import Derived.Below
import Derived.Test.YtnecpkoibknacaaRows
import Derived.Test.YtnecpkoibknacaaM8

namespace Go.Proofs.Ytnecpkoibknacaa
open Go.RowKit

theorem numOf_rdig (n : Nat) : numOf (rdig n).reverse = n := by
  induction n using Nat.strongRecOn with
  | _ n ih =>
    by_cases h : n = 0
    · subst h; rw [rdig_zero]; rfl
    · rw [rdig_pos h, List.reverse_cons, numOf_snoc, ih _ (Nat.div_lt_self (by omega) (by omega))]
      omega
theorem numOf_decT (n : Nat) : numOf (decT n) = n := by
  unfold decT
  split
  · rename_i h; rw [h]; rfl
  · exact numOf_rdig n
theorem decT_bd (n : Nat) : ∀ x ∈ decT n, 48 ≤ x ∧ x < 58 := by
  intro x hx
  unfold decT at hx
  split at hx
  · rw [List.mem_singleton.1 hx]; omega
  · exact rdig_lt n x (List.mem_reverse.1 hx)
theorem decT_len {n : Nat} (h : n < Top) : (decT n).length ≤ 131072 ∧ 0 < (decT n).length := by
  unfold decT
  split
  · simp
  · rename_i h0
    refine ⟨?_, ?_⟩
    · rw [List.length_reverse]; exact Nat.le_trans (rdig_len (lt_blen _)) (blen_top h)
    · rw [rdig_pos h0]; simp
theorem decT_small {n : Nat} (h : Sm 6 n) : (decT n).length ≤ 384 := by
  unfold decT
  split
  · simp
  · rw [List.length_reverse]; exact Nat.le_trans (rdig_len (lt_blen _)) h.blen
theorem bts_txt {l : List Nat} (h : ∀ x ∈ l, x < 256) : bts (txt l) = l := by
  unfold bts txt
  simp only [List.map_map]
  conv => rhs; rw [← List.map_id l]
  apply List.map_congr_left
  intro x hx
  have := h x hx
  simp
  omega
theorem digits_txt {n : Nat} (h : n < Top) : Digits (txt (decT n)) := by
  refine ⟨by rw [size_txt]; exact (decT_len h).2, ?_⟩
  rw [bts_txt (fun x hx => by have := decT_bd n x hx; omega), List.any_eq_false]
  intro x hx
  have := decT_bd n x hx
  simp; omega
theorem num_txt (n : Nat) : numOf (bts (txt (decT n))) = n := by
  rw [bts_txt (fun x hx => by have := decT_bd n x hx; omega), numOf_decT]

set_option maxRecDepth 100000 in
set_option maxHeartbeats 4000000 in
theorem texts_main (v1 : Value) (a : Nat) (s : ByteArray) (w : World) (h1 : IsN w v1 a) (ha : Sm 6 a) (hs : s.size ≤ 120)
    (hg : Calls Try.prog 9 #[v1, .slice none 0 0, .slice none 0 0] w fun e w' => e = .returned (.bool false) ∧ w = w') :
    Calls Try.prog 4 #[v1, .string s] w (Post w fun v _ => v = .bool true) := by
  have ta := ha.top (by omega)
  have a40 : Sm 2040 a := ha.up (by omega)
  have HDT := Lib.hid (digits_txt ta)
  have HNT := Lib.hid (num_txt a)
  have hsz : (txt (decT a)).size ≤ 384 := by rw [size_txt]; exact decT_small ha
  by_cases hd : Digits s
  · have hns : numOf (bts s) < Top := by
      have h2 := numOf_lt (l := bts s) (fun c hc => by
        have := hd.2
        rw [List.any_eq_false] at this
        have := this c hc
        simp at this
        omega)
      rw [length_bts] at h2
      exact Nat.lt_trans h2 (ten_top (by omega))
    have HD := Lib.hid hd
    have HNS := Lib.hid hns
    clear hd hns
    go_enter Try.func4, Try.ntmps4
    go_wp2_with fail
    refine hg.mono ?_
    rintro e w' ⟨rfl, rfl⟩
    clear hg
    go_wp2_with fail
    refine (text_n h1 ta).mono ?_
    rintro e w1 ⟨_, rfl, E1, rfl⟩
    obtain ⟨t, ht⟩ : ∃ t, txt (decT a) = t := ⟨_, rfl⟩
    rw [ht] at HDT HNT hsz ⊢
    have HTT := Lib.hid ht
    clear ht
    go_wp2_with fail
    refine (parse_any t _ (by omega)).mono ?_
    rintro e w2 ⟨_, rfl, E2, hp⟩
    obtain ⟨b, rfl, hb⟩ := (hp.2.2 (by omega) HDT.out).fit_ok (by rw [HNT.out]; exact ta)
    rw [HNT.out] at hb
    clear hp
    go_wp2_with fail
    refine (parse_any s _ (by omega)).mono ?_
    rintro e w3 ⟨_, rfl, E3, hp3⟩
    obtain ⟨c, rfl, hc⟩ := (hp3.2.2 (by omega) HD.out).fit_ok HNS.out
    clear hp3
    go_wp2_with fail
    refine (rparse_n s _ (by omega)).mono ?_
    rintro e w4 ⟨_, rfl, E4, hp4⟩
    obtain ⟨d, rfl, hd⟩ := hp4.1 HD.out
    clear hp4
    go_wp2_with fail
    refine (rtext_n (h1.ext (by repeat (first | exact Ext.refl _ | with_reducible assumption | (with_reducible refine Ext.alloc ?_ _) | (with_reducible refine Ext.drew ?_) | (with_reducible refine Ext.trans ?_ (by with_reducible assumption))))) a40).mono ?_
    rintro e w5 ⟨_, rfl, E5, rfl⟩
    rw [HTT.out]
    go_wp2_with fail
    refine (rnorm_n (h1.ext (by repeat (first | exact Ext.refl _ | with_reducible assumption | (with_reducible refine Ext.alloc ?_ _) | (with_reducible refine Ext.drew ?_) | (with_reducible refine Ext.trans ?_ (by with_reducible assumption))))) ta).mono ?_
    rintro e w6 ⟨n, rfl, E6, hn⟩
    go_wp2_with fail
    refine (same_n (hb.ext (by repeat (first | exact Ext.refl _ | with_reducible assumption | (with_reducible refine Ext.alloc ?_ _) | (with_reducible refine Ext.drew ?_) | (with_reducible refine Ext.trans ?_ (by with_reducible assumption))))) hn).mono ?_
    rintro e w7 ⟨_, rfl, E7, rfl⟩
    go_wp2_with fail
    refine (same_n (hc.ext (by repeat (first | exact Ext.refl _ | with_reducible assumption | (with_reducible refine Ext.alloc ?_ _) | (with_reducible refine Ext.drew ?_) | (with_reducible refine Ext.trans ?_ (by with_reducible assumption))))) (hd.ext (by repeat (first | exact Ext.refl _ | with_reducible assumption | (with_reducible refine Ext.alloc ?_ _) | (with_reducible refine Ext.drew ?_) | (with_reducible refine Ext.trans ?_ (by with_reducible assumption)))))).mono ?_
    rintro e w8 ⟨_, rfl, E8, rfl⟩
    go_wp2_with fail
    refine (head_any _).mono ?_
    rintro e w9 ⟨_, rfl, E9, rfl⟩
    go_wp2
    go_ret
    exact Post.mk (by repeat (first | exact Ext.refl _ | with_reducible assumption | (with_reducible refine Ext.alloc ?_ _) | (with_reducible refine Ext.drew ?_) | (with_reducible refine Ext.trans ?_ (by with_reducible assumption)))) rfl
  · have HD := Lib.hid hd
    clear hd
    go_enter Try.func4, Try.ntmps4
    go_wp2_with fail
    refine hg.mono ?_
    rintro e w' ⟨rfl, rfl⟩
    clear hg
    go_wp2_with fail
    refine (text_n h1 ta).mono ?_
    rintro e w1 ⟨_, rfl, E1, rfl⟩
    obtain ⟨t, ht⟩ : ∃ t, txt (decT a) = t := ⟨_, rfl⟩
    rw [ht] at HDT HNT hsz ⊢
    have HTT := Lib.hid ht
    clear ht
    go_wp2_with fail
    refine (parse_any t _ (by omega)).mono ?_
    rintro e w2 ⟨_, rfl, E2, hp⟩
    obtain ⟨b, rfl, hb⟩ := (hp.2.2 (by omega) HDT.out).fit_ok (by rw [HNT.out]; exact ta)
    rw [HNT.out] at hb
    clear hp
    go_wp2_with fail
    refine (parse_any s _ (by omega)).mono ?_
    rintro e w3 ⟨_, rfl, E3, hp3⟩
    obtain rfl := hp3.2.1 (by omega) HD.out
    clear hp3
    go_wp2_with fail
    refine (rparse_n s _ (by omega)).mono ?_
    rintro e w4 ⟨_, rfl, E4, hp4⟩
    obtain rfl := hp4.2 HD.out
    clear hp4
    go_wp2_with fail
    refine (rtext_n (h1.ext (by repeat (first | exact Ext.refl _ | with_reducible assumption | (with_reducible refine Ext.alloc ?_ _) | (with_reducible refine Ext.drew ?_) | (with_reducible refine Ext.trans ?_ (by with_reducible assumption))))) a40).mono ?_
    rintro e w5 ⟨_, rfl, E5, rfl⟩
    rw [HTT.out]
    go_wp2_with fail
    refine (rnorm_n (h1.ext (by repeat (first | exact Ext.refl _ | with_reducible assumption | (with_reducible refine Ext.alloc ?_ _) | (with_reducible refine Ext.drew ?_) | (with_reducible refine Ext.trans ?_ (by with_reducible assumption))))) ta).mono ?_
    rintro e w6 ⟨n, rfl, E6, hn⟩
    go_wp2_with fail
    refine (same_n (hb.ext (by repeat (first | exact Ext.refl _ | with_reducible assumption | (with_reducible refine Ext.alloc ?_ _) | (with_reducible refine Ext.drew ?_) | (with_reducible refine Ext.trans ?_ (by with_reducible assumption))))) hn).mono ?_
    rintro e w7 ⟨_, rfl, E7, rfl⟩
    go_wp2_with fail
    refine (same_n (Num.nil _) (Num.nil _)).mono ?_
    rintro e w8 ⟨_, rfl, E8, rfl⟩
    go_wp2_with fail
    refine (head_any _).mono ?_
    rintro e w9 ⟨_, rfl, E9, rfl⟩
    go_wp2
    go_ret
    exact Post.mk (by repeat (first | exact Ext.refl _ | with_reducible assumption | (with_reducible refine Ext.alloc ?_ _) | (with_reducible refine Ext.drew ?_) | (with_reducible refine Ext.trans ?_ (by with_reducible assumption)))) rfl

set_option maxRecDepth 100000 in
theorem texts_law (a1 : Option Addr) (n1 c1 : Nat) (z1 : List Int) (s : ByteArray) (w : World) (h1 : Raw w a1 n1 c1 z1) (hs : s.size ≤ 9223372036854775807) :
    Calls Try.prog 4 #[.slice a1 n1 c1, .string s] w fun e w' => e = .returned (.bool true) ∧ Below w.heap.size w w' := by
  have b1 := h1.len
  by_cases hl : n1 ≤ 6 ∧ 0 ≤ 6 ∧ 0 ≤ 6
  · obtain ⟨s1, s2, s3⟩ := hl
    have hg := great_no a1 none none n1 0 0 c1 0 0 w s1 s2 s3
    by_cases hin : s.size ≤ 120
    · obtain ⟨a, ha, k1⟩ := h1.is s1
      refine (texts_main _ a s w k1 ha hin hg).mono ?_
      rintro e w' ⟨_, rfl, hext, rfl⟩
      exact ⟨rfl, hext⟩
    · have hin' : (120 : Int) < s.size := by omega
      clear hin
      go_enter Try.func4, Try.ntmps4
      go_wp2_with fail
      refine hg.mono ?_
      rintro e w' ⟨rfl, rfl⟩
      clear hg
      go_wp2_with fail
      refine (head_any _).mono ?_
      rintro e w1 ⟨_, rfl, hext, rfl⟩
      go_wp2
      go_ret
      exact ⟨rfl, hext⟩
  · have hg := great_yes a1 none none n1 0 0 c1 0 0 w (by omega) (by omega) (by omega) hl
    clear hl
    go_enter Try.func4, Try.ntmps4
    go_wp2_with fail
    refine hg.mono ?_
    rintro e w' ⟨rfl, rfl⟩
    clear hg
    go_wp2_with fail
    refine (head_any _).mono ?_
    rintro e w1 ⟨_, rfl, hext, rfl⟩
    go_wp2
    go_ret
    exact ⟨rfl, hext⟩
end Go.Proofs.Ytnecpkoibknacaa

namespace Go.Proofs.Ytnecpkoibknacaa.natTexts
open Go.ChangeShapes Go.WideShapes Go.ChangeAt Go.RowKit
open Go.ChangeMaps (open_string shut_string)
set_option linter.unusedVariables false

theorem own : ownKnob Try.prog.godebug = none := by kernel_rfl
theorem laidOut : laidOutB Try.prog = true := by kernel_rfl

/-- WHAT THE WALK IS TOLD OF A SLICE OF INTEGERS THAT CAME IN: it is nil; or it leads to a row of 'cap' cells, the numbers 'zs' (the first 'len' are its elements, the rest its spare room), each fitting its kind. -/
def IsRow (k : IntKind) (w : World) (a : Option Addr) (len cap : Nat) (zs : List Int) : Prop :=
  (a = none ∧ len = 0 ∧ cap = 0 ∧ zs = []) ∨
  ∃ x, a = some x ∧ len ≤ cap ∧ cap ≤ maxLen ∧ zs.length = cap ∧ (∀ i, i < zs.length → w.cell? (x.add i) = some (.int k (zs.getD i 0))) ∧ ∀ n ∈ zs, (Lit.int k n).wf = true

theorem walk (a0 : Option Addr) (len0 cap0 : Nat) (z0 : List Int) (a1 : ByteArray) (w : World) (w0 : IsRow .u64 w a0 len0 cap0 z0) (w1 : a1.size ≤ maxLen) :
    Calls Try.prog 4 #[.slice a0 len0 cap0, .string a1] w fun e w' => e = .returned (.bool true) ∧ Below w.heap.size w w' := by
  exact Go.Proofs.Ytnecpkoibknacaa.texts_law a0 len0 cap0 z0 a1 w w0 w1

set_option maxRecDepth 100000 in
theorem lifted (os : Os) (started : os.Started) (H : Type) (enc : TypeId × Value → H) :
    ReturnsInHanded {} Try.checked os 4 .any (Rows.natTextsSpec.pre6 enc Try.prog Try.f4 Rows.natTextsRow.domain false) (Rows.natTextsSpec.post enc Try.prog Try.f4 false true false false) := by
  refine returnsInHanded_of_change (C := Try.checked) own started (by kernel_rfl) Try.func4
    (ChangeSpec.witness6 (enc := enc) (C := Try.checked) false ⟨#[], #[.slice none 0 0, .string ByteArray.empty], []⟩ 8 (by kernel_rfl) (by kernel_rfl) (by kernel_rfl) (by kernel_rfl)) ?_
  intro W base args ds gs before hval0 hW hcnd _
  have hval : ∀ (j : Nat) t v, Try.f4.params[j]? = some t → args[j]? = some v → Value.okWide Try.prog W .any base t v := hval0
  have hW' := hW
  obtain ⟨p, q, hA0, hV, rfl, hfz, hnd⟩ := hW
  have hA : DataW.TrodAll enc Try.prog W 0 (fun _ => true) true Try.f4.params.toList args.toList ds p := hA0
  rw [Try.params4] at hA hval
  obtain ⟨v0, vs0, d0, ds0, p0, q0, hargs, rfl, rfl, h0, r0⟩ := trodAll_cons hA
  obtain ⟨v1, vs1, d1, ds1, p1, q1, rfl, rfl, rfl, h1, r1⟩ := trodAll_cons r0
  obtain ⟨rfl, rfl, rfl⟩ := trodAll_nil r1
  obtain rfl : args = #[v0, v1] := by cases args; simp_all
  obtain ⟨rfl, rfl⟩ := trodVars_none hV
  obtain ⟨a0, len0, cap0, rfl⟩ := okWide_slice Try.underlying23 (hval 0 23 v0 rfl rfl)
  have k0 := h0
  have lt0 : ∀ x ∈ p0, x.block < W.heap.size := by obtain ⟨m, hm⟩ := k0; exact DataW.trod_lt m _ _ _ hm
  obtain ⟨z0, w0⟩ : ∃ zs, IsRow .u64 W a0 len0 cap0 zs := by
    obtain ⟨fuel, hf⟩ := h0
    rcases open_ints Try.underlying23 Try.underlying48 (by kernel_rfl) hf with ⟨hcs, _⟩ | ⟨x, l, c, zs, hcs, _, hl, hm, hz, _, hcell, hwz⟩
    · simp [Value.cells] at hcs
      obtain ⟨rfl, rfl, rfl⟩ := hcs
      exact ⟨[], .inl ⟨rfl, rfl, rfl, rfl⟩⟩
    · simp [Value.cells] at hcs
      obtain ⟨rfl, rfl, rfl⟩ := hcs
      exact ⟨zs, .inr ⟨_, rfl, hl, hm, by simpa using hz, hcell, hwz⟩⟩
  obtain ⟨a1, rfl, rfl, rfl, w1⟩ := open_string Try.underlying9 (hval 1 9 v1 rfl rfl) h1
  clear hA0 hval0
  refine (walk a0 len0 cap0 z0 a1 W w0 w1).mono fun e W' ⟨he, bel⟩ => ?_
  subst he
  exact ⟨_, rfl, _, _, _, [], _, [], hW', trodAll_mk1 (shut_bool Try.underlying4 _), (trodAll_cons_mk (Below.trod laidOut (by kernel_rfl) (of_decide_eq_true (by kernel_rfl)) k0 bel lt0) (trodAll_cons_mk (shut_string Try.underlying9 w1) trodAll_mk0)), rfl, bel.frame _, fun h => by cases h⟩

theorem over : Rows.natTextsRow.holds Try.pinned (OpenSpec.ofChange Rows.natTextsSpec) :=
  OpenClaim.holds_of_wide 4 Try.f4 rfl rfl rfl rfl rfl rfl rfl ⟨rfl, rfl, rfl, rfl, rfl⟩ rfl rfl rfl rfl rfl (by kernel_rfl) Try.func4 (by kernel_rfl)
    (of_decide_eq_true (by kernel_rfl)) (by unfold Func.isWrapper; first | (rw [if_pos (by decide +kernel)]; kernel_rfl) | (rw [if_neg (by decide +kernel)]; exact ⟨rfl, rfl⟩))
    (fun os started H enc _ => lifted os started H enc)

theorem proved : Rows.NatTextsSaid := over
#print axioms proved
end Go.Proofs.Ytnecpkoibknacaa.natTexts
