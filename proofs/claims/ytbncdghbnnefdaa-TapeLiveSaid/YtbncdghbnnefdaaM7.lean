/- Parts of the proof: contracts of the functions that the law reaches, and the arithmetic that they rest on; no condition beyond those that each theorem states. -/
import Derived.Test.YtbncdghbnnefdaaM6

namespace Go.Proofs.Ytbncdghbnnefdaa
open Go.RowKit

set_option maxHeartbeats 400000 in
theorem clone_o (a : Option Addr) (n c : Nat) (xs : List Nat) (w : World) (h : Nums w a n c xs) :
    Calls Try.prog 39 #[.slice a n c] w (Post w fun v w' => Own w' w.heap.size v xs) := by
  obtain ⟨i0, hi, hz0, hz1, hz2⟩ := info_parts info_u64
  obtain rfl := h.len
  have hfew := h.few
  have e1 := fun w => Lib.run_eql_slice_nil (P := Try.prog) w 29 61 a xs.length c 0 0 Try.underlying29
  by_cases ha : a = none
  · subst ha
    have h0 : xs.length = 0 := by rcases h.at_ with h0 | ⟨b, off, ha, _⟩; exact h0; cases ha
    go_enter Try.func39, Try.ntmps39
    have H0 := Lib.hid h0
    clear h0
    go_wp2
    go_ret
    refine Post.mk (Ext.refl _) ?_
    rw [List.eq_nil_of_length_eq_zero H0.out]
    exact Own.nil _ _
  · have ha' : a.isNone = false := by cases a <;> simp_all
    go_enter Try.func39, Try.ntmps39
    go_wp2_with (at_builtin; refine wpList_app w (Ext.of_alloc _ _) rfl _ _ 29 rfl 61 i0 (.int .u64 0) 1 8 Try.underlying29 hi hz0 hz1 hz2 rfl (by decide) _ 0 [] rfl (World.ownsRow_made w _ _ (Nat.le_refl _) (by decide) (by simp)) a xs.length c (xs.map fun (x : Nat) => Value.int .u64 (x : Int)) rfl (by simp) (h.cells.ext (Ext.of_alloc _ _)) (oneCell_u64 _) (by omega) (by omega) ?_; intro v' w1 hown hext _)
    go_ret
    rw [Nat.zero_add, List.nil_append] at hown
    exact Post.mk hext hown
theorem Own.mono {w : World} {B B' : Nat} {v : Value} {L : List Nat} (h : Own w B v L) (hb : B' ≤ B) : Own w B' v L := by
  refine ⟨h.1, ?_⟩
  rcases h.2 with h | ⟨g, cap, cur, h, h1, h2, h3⟩
  · exact .inl h
  · exact .inr ⟨g, cap, cur, h, by omega, h2, h3⟩

set_option maxHeartbeats 400000 in
theorem normal_o (a : Option Addr) (n c : Nat) (xs : List Nat) (w : World) (h : Nums w a n c xs) :
    Calls Try.prog 52 #[.slice a n c] w (Post w fun v w' => Own w' w.heap.size v (limbs (val xs))) := by
  have hfew := h.few
  have hcap := h.cap
  go_enter Try.func52, Try.ntmps52
  go_wp2
  go_loopw [3] (fun k wr => ∃ j : Nat, j ≤ n ∧ k = .int .i64 j ∧ nz xs j = nz xs n ∧ Ext w wr) (fun k _ => (intOf k).toNat)
  case atStart => exact ⟨n, Nat.le_refl _, rfl, rfl, Ext.refl _⟩
  case round =>
    obtain ⟨j, hj, rfl, hnz, hext⟩ := hrel
    have Hnz := Lib.hid hnz
    clear hnz
    by_cases h0 : j = 0
    · subst h0
      go_wp2_with (go_at_call 39; refine (clone_o _ _ _ _ _ ((h.take 0 0 (by omega) (by omega)).ext hext)).mono ?_; rintro e w1 ⟨v, rfl, hext1, hn⟩)
      go_ret
      refine Post.mk (hext.trans hext1) ?_
      have e := take_nz h.lt
      rw [h.len, ← Hnz.out, nz] at e
      rw [← e]; exact hn.mono hext.size
    · obtain ⟨j, rfl⟩ : ∃ i, j = i + 1 := ⟨j - 1, by omega⟩
      rcases h.at_ with h0 | ⟨b, off, rfl, hc⟩
      · omega
      have hcell := hext.cell (hc j (by omega))
      clear hc
      have hbd := h.bd j
      by_cases hz : xs[j]?.getD 0 = 0
      · have hz' : (((xs[j]?.getD 0 : Nat) : Int) == 0) = true := by rw [hz]; rfl
        have Hz := Lib.hid hz
        clear hz
        go_wp2
        go_roundw
        case rel => exact ⟨j, by omega, by go_num, by rw [← Hnz.out, nz, if_pos Hz.out], hext⟩
        case measure => simp [intOf]
      · have hz' : (((xs[j]?.getD 0 : Nat) : Int) == 0) = false := by simp [hz]
        go_wp2_with (go_at_call 39; refine (clone_o _ _ _ _ _ ((h.take (j + 1) (j + 1) (by omega) (by omega)).ext hext)).mono ?_; rintro e w1 ⟨v, rfl, hext1, hn⟩)
        go_ret
        refine Post.mk (hext.trans hext1) ?_
        have e := take_nz h.lt
        rw [h.len, ← Hnz.out, nz, if_neg hz] at e
        rw [← e]; exact hn.mono hext.size
/-- Norm's number, in a row of its own. -/
theorem norm_o {w : World} {v : Value} {m : Nat} (h : IsN w v m) (ht : m < Top) :
    Calls Try.prog 51 #[v] w (Post w fun v w' => ∃ x, v = .tuple #[x, .int .i64 0] ∧ Own w' w.heap.size x (limbs m)) := by
  obtain ⟨a, n, c, xs, rfl, h, hn, rfl⟩ := h
  have hf := (fits_iff _).2 ht
  have told : Calls Try.prog 43 #[.slice a n c] w (Post w fun v w' => ∃ x, v = .tuple #[x, .int .i64 0] ∧ Own w' w.heap.size x (limbs (val xs))) := by
    go_enter Try.func43, Try.ntmps43
    go_wp2_with fail
    refine (normal_o _ _ _ _ _ h).mono ?_
    rintro e w1 ⟨v, rfl, hext1, hown⟩
    have hlt := lt_limbs (val xs)
    generalize hL : limbs (val xs) = L at *
    have HL := Lib.hid hL
    clear hL
    obtain ⟨a', c', rfl, hN, _⟩ := hown.nums (by omega) hlt
    by_cases h0 : L = []
    · subst h0
      have H := Lib.hid hown
      clear hown
      go_wp2
      go_ret2
      exact Post.mk hext1 ⟨_, rfl, by rw [HL.out]; exact Own.nil _ _⟩
    · have hpos : 0 < L.length := List.length_pos_iff.2 h0
      have H := Lib.hid hown
      clear hown h0
      go_wp2
      go_ret2
      exact Post.mk hext1 ⟨_, rfl, by rw [HL.out]; exact H.out⟩
  go_enter Try.func51, Try.ntmps51
  go_wp2_with fail
  refine told.mono ?_
  rintro e w1 ⟨v, rfl, hext1, x, rfl, hown⟩
  have H := Lib.hid hown
  clear hown told
  go_wp2
  go_ret2
  exact Post.mk hext1 ⟨_, rfl, H.out⟩
end Go.Proofs.Ytbncdghbnnefdaa
