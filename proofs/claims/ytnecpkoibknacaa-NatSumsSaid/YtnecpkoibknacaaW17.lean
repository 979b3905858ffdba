/- guess: a digit of a quotient, never too small. -/
import Derived.Test.YtnecpkoibknacaaW16
namespace Go.Proofs.Ytnecpkoibknacaa
open Go.RowKit

theorem guess_iff {q r t n u0 U : Nat} (hs : q * t + r = U) : q * (t * B64 + n) ≤ U * B64 + u0 ↔ q * n ≤ r * B64 + u0 := by
  subst hs
  rw [Nat.mul_add, Nat.add_mul, Nat.mul_assoc]; omega
theorem divmod_le {p r u : Nat} (hu : u < B64) : p ≤ r * B64 + u ↔ p / B64 < r ∨ p / B64 = r ∧ p % B64 ≤ u := by
  have := Nat.div_add_mod p B64
  have := Nat.mod_lt p B64_pos
  unfold B64 at *
  omega

/-- What is kept while a digit is guessed. -/
def GuessOk (q r t nx U u0 : Nat) : Prop := q * t + r = U ∧ q < B64 ∧ r < B64 ∧ ∀ Q, Q * (t * B64 + nx) ≤ U * B64 + u0 → Q ≤ q
theorem GuessOk.start {q r t nx U u0 : Nat} (h : t * q + r = U) (hr : r < t) (hq : q < B64) (hu : u0 < B64) (ht : t < B64) : GuessOk q r t nx U u0 := by
  refine ⟨by rw [Nat.mul_comm]; exact h, hq, by omega, fun Q hQ => ?_⟩
  have h1 : Q * t * B64 < (U + 1) * B64 := by
    rw [Nat.mul_add, ← Nat.mul_assoc] at hQ
    rw [Nat.add_mul]; omega
  have h2 := Nat.lt_of_mul_lt_mul_right h1
  by_cases hle : Q ≤ q
  · exact hle
  · have : (q + 1) * t ≤ Q * t := Nat.mul_le_mul_right _ (by omega)
    rw [Nat.add_mul, Nat.mul_comm q t] at this
    omega
theorem GuessOk.dec {q r t nx U u0 : Nat} (h : GuessOk q r t nx U u0) (hno : ¬ q * nx ≤ r * B64 + u0) : 0 < q ∧ (q - 1) * t + (r + t) = U ∧ ∀ Q, Q * (t * B64 + nx) ≤ U * B64 + u0 → Q ≤ q - 1 := by
  have hq : 0 < q := by
    by_cases h0 : q = 0
    · subst h0; rw [Nat.zero_mul] at hno; omega
    · omega
  refine ⟨hq, dv_round h.1 hq, fun Q hQ => ?_⟩
  have := h.2.2.2 Q hQ
  by_cases e : Q = q
  · subst e; exact absurd ((guess_iff h.1).1 hQ) hno
  · omega
theorem GuessOk.next {q r t nx U u0 : Nat} (h : GuessOk q r t nx U u0) (hno : ¬ q * nx ≤ r * B64 + u0) (hr : r + t < B64) : GuessOk (q - 1) (r + t) t nx U u0 := by
  obtain ⟨h1, h2, h3⟩ := h.dec hno
  exact ⟨h2, by have := h.2.1; omega, hr, h3⟩

theorem Nums.on {w : World} {b off n c : Nat} {xs : List Nat} (h : Nums w (some ⟨b, off, none⟩) n c xs) {i : Nat} (hi : i < n) : w.cell? ⟨b, off + i, none⟩ = some (.int .u64 ((xs[i]?.getD 0 : Nat) : Int)) := by
  obtain ⟨b', off', e, hc⟩ := h.at hi
  cases e
  exact hc

set_option maxRecDepth 100000 in
set_option maxHeartbeats 1000000 in
theorem guess_any (a : Option Addr) (n c : Nat) (us : List Nat) (t nx k k1 k0 : Nat) (w : World) (h : Nums w a n c us) (ht : t < B64) (ht2 : 9223372036854775808 ≤ t) (hn : nx < B64) (hi : k < n) (hk1 : k = k1 + 1) (hk0 : k = k0 + 2) :
    Calls Try.prog 47 #[.slice a n c, .int .u64 t, .int .u64 nx, .int .i64 k] w (Post w fun v _ => ∃ g : Nat, v = .int .u64 g ∧ g < B64 ∧
      ∀ Q, Q < B64 → Q * (t * B64 + nx) ≤ (us[k]?.getD 0 * B64 + us[k1]?.getD 0) * B64 + us[k0]?.getD 0 → Q ≤ g) := by
  have hfew0 := h.few
  obtain rfl := h.len
  obtain ⟨b, off, rfl, d2⟩ := h.at hi
  have d1 := h.on (i := k1) (by omega)
  have d0 := h.on (i := k0) (by omega)
  have hfew := h.few
  have b2 := h.bd k
  have b1 := h.bd k1
  have b0 := h.bd k0
  have e1 : (k : Int) - 1 = k1 := by omega
  have e0 : (k : Int) - 2 = k0 := by omega
  have ew : IntKind.i64.wrap ((k : Int) - 1) = k1 := by rw [IntWalk.i64_in _ (by omega)]; exact e1
  clear e1
  have hk1l : k1 < us.length := by omega
  have hk0l : k0 < us.length := by omega
  clear hk1 hk0
  generalize us[k]?.getD 0 = u2 at *
  generalize us[k1]?.getD 0 = u1 at *
  generalize us[k0]?.getD 0 = u0 at *
  by_cases hbig : t ≤ u2
  · unfold B64 at b2
    go_enter Try.func47, Try.ntmps47
    go_wp2
    go_ret
    exact Post.mk (Ext.refl _) ⟨18446744073709551615, rfl, by unfold B64; omega, fun Q hQ _ => by unfold B64 at hQ; omega⟩
  · have hdv := fun w => div64_quiet u2 u1 t w (by omega) b1 ht
    have hdm := Nat.div_add_mod (u2 * B64 + u1) t
    have hmod := Nat.mod_lt (u2 * B64 + u1) (y := t) (by omega)
    have hdlt := dv_lt (b := B64) (u := u2) (d := u1) (y := t) (by omega) b1
    generalize (u2 * B64 + u1) / t = q0 at *
    generalize (u2 * B64 + u1) % t = r0 at *
    have HDM := Lib.hid hdm
    clear hdm
    unfold B64 at b2 b1
    go_enter Try.func47, Try.ntmps47
    go_wp2
    go_quiet ((go_at_call 66; exact Calls.quiet_of (hdv _)))
    clear d2 d1 hdv b2 b1
    go_wp2
    have d0' : (w.drewN nq).cell? ⟨b, off + k0, none⟩ = some (.int .u64 (u0 : Int)) := d0
    go_loop [9, 10] (fun q r => ∃ q' r' : Nat, q = .int .u64 q' ∧ r = .int .u64 r' ∧ Hid (GuessOk q' r' t nx (u2 * B64 + u1) u0)) (fun q _ => (intOf q).toNat)
    case atStart => exact ⟨q0, r0, rfl, rfl, Lib.hid (GuessOk.start HDM.out hmod hdlt b0 ht)⟩
    case round =>
      obtain ⟨q, r, rfl, rfl, HQ⟩ := hrel
      have hq : q < 18446744073709551616 := HQ.out.2.1
      have hr : r < 18446744073709551616 := HQ.out.2.2.1
      have hmul := Try.bits_Mul64 q nx hq hn
      have hdl := divmod_le (p := q * nx) (r := r) b0
      obtain ⟨c, hc⟩ : ∃ c, (r + t) / B64 = c := ⟨_, rfl⟩
      obtain ⟨s, hs⟩ : ∃ s, (r + t) % B64 = s := ⟨_, rfl⟩
      have hadd := run_Add64z r t c s hc hs
      have hno := HQ.out.dec
      have hnext := HQ.out.next
      have hcs : c = 0 ∧ s = r + t ∧ r + t < B64 ∨ c = 1 := by unfold B64 at hc hs ht ⊢; omega
      have HS := Lib.hid hcs
      clear hc hs hcs
      unfold B64 at hdl
      generalize q * nx / 18446744073709551616 = hh at *
      generalize q * nx % 18446744073709551616 = ll at *
      have HDL := Lib.hid hdl
      clear hdl
      have stay : ∀ g : Nat, g < B64 → (∀ Q, Q * (t * B64 + nx) ≤ (u2 * B64 + u1) * B64 + u0 → Q ≤ g) → (∃ g' : Nat, Value.int .u64 (g : Int) = .int .u64 g' ∧ g' < B64 ∧
          ∀ Q, Q < B64 → Q * (t * B64 + nx) ≤ (u2 * B64 + u1) * B64 + u0 → Q ≤ g') := fun g hg h => ⟨g, rfl, hg, fun Q _ => h Q⟩
      have HST := Lib.hid stay
      have HNO := Lib.hid hno
      have HNX := Lib.hid hnext
      clear stay hno hnext
      by_cases A : hh < r
      · go_wp2_with (go_at_call 61; refine (hmul _).mono ?_; rintro e wm ⟨rfl, rfl⟩)
        go_ret
        exact Post.mk ((Ext.refl _).drewN _) (HST.out _ HQ.out.2.1 HQ.out.2.2.2)
      · by_cases B : hh = r
        · subst B
          by_cases C : ll ≤ u0
          · go_wp2_with (go_at_call 61; refine (hmul _).mono ?_; rintro e wm ⟨rfl, rfl⟩)
            go_ret
            exact Post.mk ((Ext.refl _).drewN _) (HST.out _ HQ.out.2.1 HQ.out.2.2.2)
          · have hno : ¬ q * nx ≤ hh * B64 + u0 := by
              have := HDL.out
              unfold B64
              omega
            obtain ⟨hq0, _, hall⟩ := HNO.out hno
            have HA := Lib.hid hall
            have HN := Lib.hid hno
            clear hall hno
            rcases HS.out with ⟨hc, hs, hrt⟩ | hc
            · subst hc
              have HSR := Lib.hid hs
              clear hs
              go_wp2_with (go_at_call 61; refine (hmul _).mono ?_; rintro e wm ⟨rfl, rfl⟩)
              go_round
              case rel => exact ⟨q - 1, s, by congr 1; omega, rfl, by rw [HSR.out]; exact Lib.hid (HNX.out HN.out hrt)⟩
              case measure => simp only [intOf]; omega
            · subst hc
              go_wp2_with (go_at_call 61; refine (hmul _).mono ?_; rintro e wm ⟨rfl, rfl⟩)
              have eq1 : (q : Int) - 1 = (q - 1 : Nat) := by omega
              rw [eq1]
              go_ret
              exact Post.mk ((Ext.refl _).drewN _) (HST.out _ (by unfold B64; omega) HA.out)
        · have hno : ¬ q * nx ≤ r * B64 + u0 := by
            have := HDL.out
            unfold B64
            omega
          obtain ⟨hq0, _, hall⟩ := HNO.out hno
          have HA := Lib.hid hall
          have HN := Lib.hid hno
          clear hall hno
          rcases HS.out with ⟨hc, hs, hrt⟩ | hc
          · subst hc
            have HSR := Lib.hid hs
            clear hs
            go_wp2_with (go_at_call 61; refine (hmul _).mono ?_; rintro e wm ⟨rfl, rfl⟩)
            go_round
            case rel => exact ⟨q - 1, s, by congr 1; omega, rfl, by rw [HSR.out]; exact Lib.hid (HNX.out HN.out hrt)⟩
            case measure => simp only [intOf]; omega
          · subst hc
            go_wp2_with (go_at_call 61; refine (hmul _).mono ?_; rintro e wm ⟨rfl, rfl⟩)
            have eq1 : (q : Int) - 1 = (q - 1 : Nat) := by omega
            rw [eq1]
            go_ret
            exact Post.mk ((Ext.refl _).drewN _) (HST.out _ (by unfold B64; omega) HA.out)
end Go.Proofs.Ytnecpkoibknacaa
