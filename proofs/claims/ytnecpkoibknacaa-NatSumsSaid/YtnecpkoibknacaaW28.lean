/- Parse, of whatever text. -/
import Derived.Test.YtnecpkoibknacaaW27
namespace Go.Proofs.Ytnecpkoibknacaa
open Go.RowKit

theorem parse_long (s : ByteArray) (w : World) (hl : 40000 < s.size) (hm : s.size ≤ 9223372036854775807) :
    Calls Try.prog 24 #[.string s] w (Post w fun v _ => v = .tuple #[.slice none 0 0, .int .i64 3]) := by
  go_enter Try.func24, Try.ntmps24
  go_wp2
  go_ret2
  exact Post.mk (Ext.refl _) rfl
theorem parse_empty (s : ByteArray) (w : World) (h0 : s.size = 0) :
    Calls Try.prog 24 #[.string s] w (Post w fun v _ => v = .tuple #[.slice none 0 0, .int .i64 5]) := by
  have hemp : s.toList.isEmpty = true := by
    rw [ByteArray.toList_eq]
    have : s.data.toList = [] := List.eq_nil_of_length_eq_zero (by simpa using h0)
    rw [this]; rfl
  have hs : s.size ≤ 10 := by omega
  clear h0
  go_enter Try.func24, Try.ntmps24
  go_wp2
  go_ret2
  exact Post.mk (Ext.refl _) rfl
theorem parse_bad (s : ByteArray) (w : World) (h0 : 0 < s.size) (hl : s.size ≤ 40000) (hd : (bts s).any (fun x => decide (x < 48 ∨ 57 < x)) = true) :
    Calls Try.prog 24 #[.string s] w (Post w fun v _ => v = .tuple #[.slice none 0 0, .int .i64 5]) := by
  obtain ⟨C, W, hconv, hE, hcells⟩ := run_bytes (P := Try.prog) w 9 62 5 s Try.underlying9 Try.underlying62 Try.underlying5
  have hemp : s.toList.isEmpty = false := isEmpty_of_size h0
  have hb : ∀ x ∈ bts s, x < 256 := by
    intro x hx
    obtain ⟨u, _, rfl⟩ := List.mem_map.1 hx
    exact u.toNat_lt
  have hct := contains_bytes w.heap.size s.size C (bts s) (length_bts s) (by omega) hb W hcells
  rw [hd] at hct
  clear hd hcells hb
  go_enter Try.func24, Try.ntmps24
  go_wp2_with (go_at_call 57; refine hct.mono ?_; rintro e w' ⟨rfl, rfl⟩)
  go_ret2
  exact Post.mk hE rfl
/-- Is a text digits, and some? -/
def Digits (s : ByteArray) : Prop := 0 < s.size ∧ (bts s).any (fun x => decide (x < 48 ∨ 57 < x)) = false
/-- What Parse tells. -/
def ParseRes (s : ByteArray) (w : World) (v : Value) : Prop :=
  (40000 < s.size → v = .tuple #[.slice none 0 0, .int .i64 3]) ∧
  (s.size ≤ 40000 → ¬ Digits s → v = .tuple #[.slice none 0 0, .int .i64 5]) ∧
  (s.size ≤ 40000 → Digits s → NRes w v (fit (numOf (bts s))))
theorem parse_any (s : ByteArray) (w : World) (hm : s.size ≤ 9223372036854775807) :
    Calls Try.prog 24 #[.string s] w (Post w fun v w' => ParseRes s w' v) := by
  by_cases hl : 40000 < s.size
  · refine (parse_long s w hl hm).mono ?_
    rintro e w' ⟨v, rfl, hext, h⟩
    exact Post.mk hext ⟨fun _ => h, fun h => by omega, fun h => by omega⟩
  · by_cases h0 : s.size = 0
    · refine (parse_empty s w h0).mono ?_
      rintro e w' ⟨v, rfl, hext, h⟩
      exact Post.mk hext ⟨fun h => by omega, fun _ _ => h, fun _ hd => by have := hd.1; omega⟩
    · cases hd : (bts s).any (fun x => decide (x < 48 ∨ 57 < x)) with
      | true =>
        refine (parse_bad s w (by omega) (by omega) hd).mono ?_
        rintro e w' ⟨v, rfl, hext, h⟩
        exact Post.mk hext ⟨fun h => by omega, fun _ _ => h, fun _ hd' => by have := hd'.2; rw [hd] at this; cases this⟩
      | false =>
        refine (parse_main s w (by omega) (by omega) hd).mono ?_
        rintro e w' ⟨v, rfl, hext, h⟩
        exact Post.mk hext ⟨fun h => by omega, fun _ hnd => absurd ⟨by omega, hd⟩ hnd, fun _ _ => h⟩
end Go.Proofs.Ytnecpkoibknacaa
