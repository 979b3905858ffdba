/- slices.IndexFunc, slices.ContainsFunc at bytes, with Parse's closure. -/
import Derived.Test.YtnecpkoibknacaaW25
namespace Go.Proofs.Ytnecpkoibknacaa
open Go.RowKit

set_option maxRecDepth 100000 in
set_option maxHeartbeats 1000000 in
theorem index_bytes (b n cap : Nat) (L : List Nat) (hn : L.length = n) (hf : n ≤ 1000000) (hL : ∀ x ∈ L, x < 256) (w : World) (hc : ∀ i, i < n → w.cell? ⟨b, i, none⟩ = some (.int .u8 ((L[i]?.getD 0 : Nat) : Int))) :
    Calls Try.prog 69 #[.slice (some ⟨b, 0, none⟩) n cap, .func (.func 58) #[] #[]] w fun e w' => e = .returned (.int .i64 (firstBad L 0)) ∧ w' = w := by
  subst hn
  go_enter Try.func69, Try.ntmps69
  go_wp2
  go_loop [8] (fun i => ∃ k : Nat, k ≤ L.length ∧ i = .int .i64 k ∧ Hid (firstBad L 0 = firstBad (L.drop k) k)) (fun i => L.length - (intOf i).toNat)
  case atStart => exact ⟨0, Nat.zero_le _, rfl, Lib.hid rfl⟩
  case round =>
    obtain ⟨k, hk, rfl, HK⟩ := hrel
    by_cases hlt : k < L.length
    · have hcell := hc k hlt
      have hx : L[k]?.getD 0 < 256 := by rw [List.getElem?_eq_getElem hlt]; exact hL _ (List.getElem_mem hlt)
      have hstep := firstBad_drop L k hlt
      generalize L[k]?.getD 0 = x at *
      have hcl := notDigit_any x hx
      have HS := Lib.hid hstep
      clear hstep hc hL
      by_cases hbad : x < 48 ∨ 57 < x
      · have hb : decide (x < 48 ∨ 57 < x) = true := decide_eq_true hbad
        rw [hb] at hcl
        have HB := Lib.hid hbad
        clear hb hbad
        go_wp2_with (go_at_call 58; refine (hcl _).mono ?_; rintro e w' ⟨rfl, rfl⟩)
        go_ret
        refine ⟨?_, rfl⟩
        rw [HK.out, HS.out, if_pos HB.out]
        rfl
      · have hb : decide (x < 48 ∨ 57 < x) = false := decide_eq_false hbad
        rw [hb] at hcl
        have HB := Lib.hid hbad
        clear hb hbad
        go_wp2_with (go_at_call 58; refine (hcl _).mono ?_; rintro e w' ⟨rfl, rfl⟩)
        go_round
        case rel => exact ⟨k + 1, by omega, by go_num, Lib.hid (by rw [HK.out, HS.out, if_neg HB.out])⟩
        case measure => simp only [intOf]; omega
    · have : k = L.length := by omega
      subst this
      have h := HK.out
      rw [List.drop_length, firstBad] at h
      have H := Lib.hid h
      clear h hc
      go_wp2
      go_ret
      rw [H.out]
      exact ⟨rfl, rfl⟩
theorem contains_bytes (b n cap : Nat) (L : List Nat) (hn : L.length = n) (hf : n ≤ 1000000) (hL : ∀ x ∈ L, x < 256) (w : World) (hc : ∀ i, i < n → w.cell? ⟨b, i, none⟩ = some (.int .u8 ((L[i]?.getD 0 : Nat) : Int))) :
    Calls Try.prog 57 #[.slice (some ⟨b, 0, none⟩) n cap, .func (.func 58) #[] #[]] w fun e w' => e = .returned (.bool (L.any fun x => decide (x < 48 ∨ 57 < x))) ∧ w' = w := by
  have hi := index_bytes b n cap L hn hf hL w hc
  have hb := firstBad_iff L 0
  generalize firstBad L 0 = v at *
  cases hany : L.any fun x => decide (x < 48 ∨ 57 < x) with
  | true =>
    rw [hany] at hb
    have hv : 0 ≤ v := hb.2 rfl
    clear hb hany hc hL
    go_enter Try.func57, Try.ntmps57
    go_wp2_with (go_at_call 69; refine hi.mono ?_; rintro e w' ⟨rfl, rfl⟩)
    go_ret
    exact ⟨rfl, rfl⟩
  | false =>
    rw [hany] at hb
    have hv : ¬ 0 ≤ v := fun h => by cases hb.1 h
    clear hb hany hc hL
    go_enter Try.func57, Try.ntmps57
    go_wp2_with (go_at_call 69; refine hi.mono ?_; rintro e w' ⟨rfl, rfl⟩)
    go_ret
    refine ⟨?_, rfl⟩
    show Ending.returned (.bool (decide (0 ≤ v))) = _
    rw [decide_eq_false (by omega)]
end Go.Proofs.Ytnecpkoibknacaa
