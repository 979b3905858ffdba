/- small: a number by one limb. -/
import Derived.Test.YtnecpkoibknacaaW13
namespace Go.Proofs.Ytnecpkoibknacaa
open Go.RowKit

/-- What is kept, from the top limb down, while a number is divided by one limb. -/
def SmallOk (xs : List Nat) (d j r : Nat) (L : List Nat) : Prop :=
  L.length = xs.length ∧ (∀ x ∈ L, x < B64) ∧ val (L.drop j) = val (xs.drop j) / d ∧ r = val (xs.drop j) % d
theorem SmallOk.start (xs : List Nat) (d : Nat) : SmallOk xs d xs.length 0 (List.replicate xs.length 0) := by
  refine ⟨by simp, fun x hx => ?_, by simp [val], by simp [val]⟩
  rw [(List.mem_replicate.1 hx).2]; exact B64_pos
theorem SmallOk.step {xs : List Nat} {d j r x : Nat} {L : List Nat} (h : SmallOk xs d (j + 1) r L) (hd : 0 < d) (hj : j < xs.length) (hx : xs[j]?.getD 0 = x) (hxb : x < B64) :
    SmallOk xs d j ((r * B64 + x) % d) (L.set j ((r * B64 + x) / d)) := by
  obtain ⟨hl, hlt, hv, hr⟩ := h
  have hrd : r < d := by rw [hr]; exact Nat.mod_lt _ hd
  have hq : (r * B64 + x) / d < B64 := dv_lt hrd hxb
  have e1 : xs.drop j = x :: xs.drop (j + 1) := by
    rw [List.drop_eq_getElem_cons hj]
    rw [List.getElem?_eq_getElem hj] at hx
    exact congrArg (· :: _) hx
  have e2 : (L.set j ((r * B64 + x) / d)).drop j = (r * B64 + x) / d :: L.drop (j + 1) := by
    rw [List.drop_set, if_neg (Nat.lt_irrefl j), Nat.sub_self, List.drop_eq_getElem_cons (by omega)]; rfl
  have e3 := Nat.div_add_mod (val (xs.drop (j + 1))) d
  rw [← hr] at e3
  have e4 : val (xs.drop j) = d * (B64 * (val (xs.drop (j + 1)) / d)) + (r * B64 + x) := by
    rw [e1, val]
    conv => lhs; rw [← e3]
    rw [Nat.mul_add, Nat.mul_left_comm, Nat.mul_comm B64 r]; omega
  refine ⟨by simp [hl], lt_set hlt hq _, ?_, ?_⟩
  · rw [e2, val, hv, e4, Nat.mul_add_div hd]; omega
  · rw [e4, Nat.mul_add_mod]

set_option maxRecDepth 100000 in
set_option maxHeartbeats 1000000 in
theorem small_any (a : Option Addr) (n c : Nat) (xs : List Nat) (d : Nat) (hd : 0 < d) (hdb : d < B64) (w : World) (h : Nums w a n c xs) :
    Calls Try.prog 44 #[.slice a n c, .int .u64 d] w (Post w fun v w' => ∃ a' n' c', v = .tuple #[.slice a' n' c', .int .u64 ((val xs % d : Nat) : Int)] ∧ Nums w' a' n' c' (limbs (val xs / d))) := by
  obtain ⟨i0, hi, hz0, hz1, hz2⟩ := info_parts info_u64
  obtain rfl := h.len
  have hfew := h.few
  go_enter Try.func44, Try.ntmps44
  go_wp2_with (at_make; refine wpList_make_row _ rfl _ _ 23 rfl 48 i0 Try.underlying23 hi hz0 hz1 hz2 _ _ _ _ xs.length rfl rfl (by omega) (by omega) (by omega) ?_; intro w1 hrow hext hsz)
  go_loopw [7, 8] (fun r i wr => ∃ (j r' : Nat) (L : List Nat), j ≤ xs.length ∧ i = .int .i64 ((j : Int) - 1) ∧ r = .int .u64 r' ∧ Ext w wr ∧ Row wr w.heap.size 48 L ∧ Hid (SmallOk xs d j r' L))
    (fun _ i _ => (intOf i + 1).toNat)
  case atStart => exact ⟨xs.length, 0, _, Nat.le_refl _, by go_num, rfl, hext, hrow, Lib.hid (SmallOk.start xs d)⟩
  case round =>
    obtain ⟨j, r, L, hj, rfl, rfl, hext1, hrow1, HL⟩ := hrel
    by_cases hlt : 0 < j
    · obtain ⟨j, rfl⟩ : ∃ k, j = k + 1 := ⟨j - 1, by omega⟩
      obtain ⟨b, off, rfl, hcell⟩ := (h.ext hext1).at (show j < xs.length by omega)
      have hrd : r < d := by rw [HL.out.2.2.2]; exact Nat.mod_lt _ hd
      have hL := HL.out.1
      have hbd := h.bd j
      have hst := fun x hx hxb => HL.out.step (x := x) hd (by omega) hx hxb
      generalize hx : xs[j]?.getD 0 = x at *
      have HS := Lib.hid (hst x rfl hbd)
      have hjj : ((j + 1 : Nat) : Int) - 1 = j := by omega
      clear hst hx hrow hext hsz
      have hbd' := hbd
      unfold B64 at hbd
      have hdv := fun w => div64_any r x d w hrd hbd' hdb
      generalize (r * B64 + x) / d = q at *
      generalize (r * B64 + x) % d = r' at *
      go_wp2_with (go_at_call 66; refine (hdv _).mono ?_; rintro e w2 ⟨v, rfl, hext2, rfl⟩; have cj := (hrow1.ext hext2).cell (i := j) (by omega); have fj := (hrow1.ext hext2).frozen j)
      go_roundw
      case rel => exact ⟨j, r', L.set j q, by omega, rfl, rfl, (hext1.trans hext2).set (p := ⟨w.heap.size, j, none⟩) (Nat.le_refl _) _, (hrow1.ext hext2).set j q, HS⟩
      case measure => simp [intOf]
    · have : j = 0 := by omega
      subst this
      have hL := HL.out
      have hLf : L.length ≤ 65536 := by rw [hL.1]; exact hfew
      have hnum := hrow1.nums hLf (Nat.le_refl _) hL.2.1
      rw [hL.1] at hnum
      have hmod := hL.2.2.2
      have hdiv := hL.2.2.1
      rw [List.drop_zero, List.drop_zero] at hdiv
      rw [List.drop_zero] at hmod
      have HD := Lib.hid hdiv
      have HM := Lib.hid hmod
      clear hdiv hmod hL hLf hrow hext hsz
      go_wp2_with (go_at_call 41; refine (normal_any _ _ _ _ _ hnum).mono ?_; rintro e w2 ⟨v, rfl, hext2, a', n', c', rfl, hn⟩)
      go_ret2
      rw [HD.out] at hn
      refine Post.mk (hext1.trans hext2) ⟨a', n', c', ?_, hn⟩
      rw [HM.out]; rfl
end Go.Proofs.Ytnecpkoibknacaa
