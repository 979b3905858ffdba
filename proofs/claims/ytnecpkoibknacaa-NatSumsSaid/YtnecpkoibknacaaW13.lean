/- Div64, whatever the high limb. -/
import Derived.Test.YtnecpkoibknacaaW12
namespace Go.Proofs.Ytnecpkoibknacaa
open Go.RowKit

set_option maxHeartbeats 2000000 in
theorem div64_quiet (hi lo y : Nat) (w : World) (hy : hi < y) (hl : lo < B64) (hyb : y < B64) :
    Calls Try.prog 66 #[.int .u64 hi, .int .u64 lo, .int .u64 y] w fun e w' => e = .returned (.tuple #[.int .u64 (((hi * B64 + lo) / y : Nat) : Int), .int .u64 (((hi * B64 + lo) % y : Nat) : Int)]) ∧ ∃ q, w' = w.drewN q := by
  by_cases h0 : hi = 0
  · subst h0
    rw [Nat.zero_mul, Nat.zero_add]
    have hl' : lo < 18446744073709551616 := hl
    have hyb' : y < 18446744073709551616 := hyb
    clear hl hyb
    have e1 : IntKind.u64.wrap ((lo : Int) / y) = (lo / y : Nat) := by
      rw [← Int.natCast_ediv]
      exact wrap_nat _ (Nat.lt_of_le_of_lt (Nat.div_le_self _ _) hl')
    have e2 : (lo : Int) % y = (lo % y : Nat) := (Int.natCast_emod _ _).symm
    generalize lo / y = A at *
    generalize lo % y = B at *
    go_enter Try.func66, Try.ntmps66
    go_wp2
    go_quiet (fail)
    go_wp2
    go_ret2
    refine ⟨?_, nq, rfl⟩
    rw [← e2]; rfl
  · have hb : blen y ≤ 64 := (blen_iff y 64).1 (by rw [← B64_two]; exact hyb)
    have hb0 : 0 < blen y := by
      by_cases h : blen y = 0
      · have := lt_blen y; rw [h] at this; simp at this; omega
      · omega
    refine (div64_main hi lo y (64 - blen y) w (by omega) hy hl hyb (by rw [bitLen_blen y hyb]; omega) (by omega) (by omega)).mono ?_
    rintro e w' ⟨rfl, rfl⟩
    exact ⟨rfl, 0, rfl⟩
theorem div64_any (hi lo y : Nat) (w : World) (hy : hi < y) (hl : lo < B64) (hyb : y < B64) :
    Calls Try.prog 66 #[.int .u64 hi, .int .u64 lo, .int .u64 y] w (Post w fun v _ => v = .tuple #[.int .u64 (((hi * B64 + lo) / y : Nat) : Int), .int .u64 (((hi * B64 + lo) % y : Nat) : Int)]) := by
  refine (div64_quiet hi lo y w hy hl hyb).mono ?_
  rintro e w' ⟨rfl, q, rfl⟩
  exact Post.mk ((Ext.refl _).drewN _) rfl
end Go.Proofs.Ytnecpkoibknacaa
