/- The law 'BitsParts' returns true for every input, and leaves what it was handed as it was: no condition. -/
import Derived.WalkKit
import Derived.ProofKit
import Derived.OpenShut
import Derived.ShutString
import Derived.ChangeOld
import Derived.Below
import Derived.Lib.SmallJoins
import Derived.Test.YtgihjgkpmochcaaRows
import Derived.Test.YtgihjgkpmochcaaM6
import Derived.Test.YtgihjgkpmochcaaM27

namespace Go.Proofs.Ytgihjgkpmochcaa
open Go.RowKit

theorem hb160_0 : bitAt ⟨#[160]⟩ 0 = true := by decide +kernel
theorem hb160_1 : bitAt ⟨#[160]⟩ 1 = false := by decide +kernel
theorem hn160 : numAt ⟨#[160]⟩ 2 2 = 2 := by decide +kernel
theorem hn192_0 : numAt ⟨#[192]⟩ 0 2 = 3 := by decide +kernel
theorem hn192_1 : numAt ⟨#[192]⟩ 2 2 = 0 := by decide +kernel
theorem hb64 : bitAt ⟨#[64]⟩ 0 = false := by decide +kernel
theorem hb128 : bitAt ⟨#[128]⟩ 0 = true := by decide +kernel
theorem txt2 : txt (decT 2) = ⟨#[50]⟩ := by
  unfold decT
  rw [if_neg (by omega), rdig_pos (by omega), show 2 / 10 = 0 by omega, rdig_zero]
  rfl
theorem txt0 : txt (decT 0) = ⟨#[48]⟩ := by
  unfold decT
  rw [if_pos rfl]
  rfl
theorem blen2 : blen 2 = 2 := by decide +kernel
theorem rat_of {w : World} {x1 x2 : Option Addr} {y1 z1 y2 z2 n d : Nat} (h : FNum w (.agg #[.bool false, .slice x1 y1 z1, .slice x2 y2 z2]) false (n / Nat.gcd n d) (d / Nat.gcd n d)) (hg : Nat.gcd n d = 1) (n0 : n ≠ 0) (d0 : d ≠ 0) (hn : n < 1000) (hd : d < 1000) : Rat_ w x1 x2 y1 z1 y2 z2 n d := by
  obtain ⟨_, _, _, _, _, _, e, h1, h2⟩ := h
  rw [hg, Nat.div_one] at h1 h2
  cases e
  exact ⟨h1, h2, n0, d0, hg, hn, hd⟩
/-- What head holds: two sources that were read, and what they told. -/
structure HeadS (w : World) (p1 p2 : Nat) (v2 v0 : Value) (W : World) : Prop where
  ext : Ext w W
  lo1 : w.heap.size ≤ p1
  S1 : Src W p1 ⟨#[160]⟩ 4 false
  S2 : Src W p2 ⟨#[192]⟩ 4 false
  N2 : Num W v2 2
  N0 : Num W v0 0
theorem HeadS.size {w : World} {p1 p2 : Nat} {v2 v0 : Value} {W : World} (h : HeadS w p1 p2 v2 v0 W) : w.heap.size ≤ W.heap.size := h.ext.size
theorem HeadS.lt1 {w : World} {p1 p2 : Nat} {v2 v0 : Value} {W : World} (h : HeadS w p1 p2 v2 v0 W) : p1 < W.heap.size := h.S1.lt
theorem HeadS.lt2 {w : World} {p1 p2 : Nat} {v2 v0 : Value} {W : World} (h : HeadS w p1 p2 v2 v0 W) : p2 < W.heap.size := h.S2.lt
theorem HeadS.exts {w : World} {p1 p2 : Nat} {v2 v0 : Value} {W W' : World} (h : HeadS w p1 p2 v2 v0 W) (e : Ext W W') : HeadS w p1 p2 v2 v0 W' :=
  ⟨h.ext.trans e, h.lo1, h.S1.ext e, h.S2.ext e, h.N2.ext e, h.N0.ext e⟩
theorem HeadS.mo {w : World} {p1 p2 : Nat} {v2 v0 : Value} {W W' : World} (h : HeadS w p1 p2 v2 v0 W) {p i : Nat} {s : ByteArray} {d : Bool} (hs : Src W p s i d) (h0 : w.heap.size ≤ p) (h1 : p1 < p) (h2 : p2 < p) (e : Mo p W W') : HeadS w p1 p2 v2 v0 W' :=
  ⟨h.ext.mo e h0, h.lo1, h.S1.mo e (by omega), h.S2.mo e (by omega), h.N2.mo hs e, h.N0.mo hs e⟩

set_option maxRecDepth 100000 in
set_option maxHeartbeats 8000000 in
theorem head23 (w : World) : Calls Try.prog 4 #[] w (Post w fun v _ => v = .bool true) := by
  go_enter Try.func4, Try.ntmps4
  go_wp2_with fail
  refine (new_src ⟨#[160]⟩ _).mono ?_
  rintro e w1 ⟨rfl, E, T⟩
  obtain ⟨p1, hp1⟩ : ∃ p, p = w.heap.size := ⟨_, rfl⟩
  rw [← hp1] at T ⊢
  have A1 := Lib.hid (show Ext w w1 ∧ w.heap.size ≤ p1 ∧ Src w1 p1 ⟨#[160]⟩ 0 false from ⟨E, by omega, T⟩)
  clear E T hp1
  go_wp2_with fail
  refine (Bit_ok A1.out.2.2 (by decide) (by decide)).mono ?_
  rintro e w2 ⟨rfl, M, T⟩
  rw [hb160_0]
  have A2 := Lib.hid (show Ext w w2 ∧ Src w2 p1 ⟨#[160]⟩ 1 false from ⟨A1.out.1.mo M A1.out.2.1, T⟩)
  clear M T
  go_wp2_with fail
  refine (Bit_ok A2.out.2 (by decide) (by decide)).mono ?_
  rintro e w3 ⟨rfl, M, T⟩
  rw [hb160_1]
  have A3 := Lib.hid (show Ext w w3 ∧ Src w3 p1 ⟨#[160]⟩ 2 false from ⟨A2.out.1.mo M A1.out.2.1, T⟩)
  clear M T A2
  go_wp2_with fail
  refine (Number_ok (n := 2) A3.out.2 (by decide) (by decide) (by omega)).mono ?_
  rintro e w4 ⟨v2, rfl, M, T, hv⟩
  rw [hn160] at hv
  have A4 := Lib.hid (show Ext w w4 ∧ Src w4 p1 ⟨#[160]⟩ 4 false ∧ Num w4 v2 2 from ⟨A3.out.1.mo M A1.out.2.1, T, hv⟩)
  obtain ⟨xa, xn, xc, rfl, _⟩ := num_open hv
  clear M T A3 hv
  go_wp2_with fail
  refine (new_src ⟨#[192]⟩ _).mono ?_
  rintro e w5 ⟨rfl, E, T⟩
  obtain ⟨p2, hp2⟩ : ∃ p, p = w4.heap.size := ⟨_, rfl⟩
  rw [← hp2] at T ⊢
  have A5 := Lib.hid (show Ext w w5 ∧ Src w5 p1 ⟨#[160]⟩ 4 false ∧ Num w5 (.slice xa xn xc) 2 ∧ p1 < p2 ∧ Src w5 p2 ⟨#[192]⟩ 0 false from ⟨A4.out.1.trans E, A4.out.2.1.ext E, A4.out.2.2.ext E, by rw [hp2]; exact A4.out.2.1.lt, T⟩)
  clear E T hp2 A4
  go_wp2_with fail
  refine (of_n (x := 3) (by unfold B64; omega) _).mono ?_
  rintro e w6 ⟨v3, rfl, E, hv⟩
  have A6 := Lib.hid (show Ext w w6 ∧ Src w6 p1 ⟨#[160]⟩ 4 false ∧ Num w6 (.slice xa xn xc) 2 ∧ Src w6 p2 ⟨#[192]⟩ 0 false ∧ Num w6 v3 3 from ⟨A5.out.1.trans E, A5.out.2.1.ext E, A5.out.2.2.1.ext E, A5.out.2.2.2.2.ext E, hv⟩)
  clear E hv
  go_wp2_with fail
  refine (Below_ok (m := 3) (r := 1) (nb := 2) A6.out.2.2.2.1 (by decide) A6.out.2.2.2.2.is A6.out.2.2.2.2.lt (by omega) blen2 (by omega) (fun j hj => by
    obtain rfl : j = 0 := by omega
    rw [Nat.zero_mul, Nat.zero_add, hn192_0]
    omega) (by rw [show 0 + 1 * 2 = 2 from rfl, hn192_1]; omega) (by decide)).mono ?_
  rintro e w7 ⟨v0, rfl, M, T, hv⟩
  rw [show 0 + 1 * 2 = 2 from rfl, hn192_1] at hv
  have HH7 := Lib.hid (show HeadS w p1 p2 (.slice xa xn xc) v0 w7 from ⟨A6.out.1.mo M (Nat.le_trans A1.out.2.1 (Nat.le_of_lt A5.out.2.2.2.1)), A1.out.2.1, A6.out.2.1.mo M (by have := A5.out.2.2.2.1; omega), T, A6.out.2.2.1.mo A6.out.2.2.2.1 M, hv⟩)
  obtain ⟨ya, yn, yc, rfl, _⟩ := num_open hv
  clear M T A6 A5 A1 hv
  go_wp2_with fail
  refine (new_src ⟨#[64]⟩ _).mono ?_
  rintro e u8 ⟨rfl, E, T8⟩
  obtain ⟨q8, hq8⟩ : ∃ q, q = w7.heap.size := ⟨_, rfl⟩
  rw [← hq8] at T8 ⊢
  have HQ8 := Lib.hid (And.intro hq8 T8)
  have HH8 := Lib.hid (HH7.out.exts E)
  clear E T8 hq8
  go_wp2_with fail
  refine (ratio_ok 1 2 (by omega) (by omega) (by omega) _).mono ?_
  rintro e t8 ⟨v, rfl, E, x1, y1, z1, x2, y2, z2, rfl, g1, g2⟩
  have hr := rat_of (n := 1) (d := 2) ⟨x1, y1, z1, x2, y2, z2, rfl, g1, g2⟩ (by decide) (by omega) (by omega) (by omega) (by omega)
  have HR8 := Lib.hid (And.intro hr (And.intro (HQ8.out.2.ext E) (HH8.out.exts E)))
  clear g1 g2 E hr
  go_wp2_with fail
  refine (Coin_ok HR8.out.2.1 HR8.out.1 (r := true) (j := 1) fun W E => coin_first (b := false) (HR8.out.2.1.ext E) (by decide) (by decide) hb64 (HR8.out.1.ext E) (by omega) (by decide)).mono ?_
  rintro e w8 ⟨rfl, M, T⟩
  have HH8' := Lib.hid (HR8.out.2.2.mo HR8.out.2.1 (by rw [HQ8.out.1]; exact HH7.out.size) (by rw [HQ8.out.1]; exact HH7.out.lt1) (by rw [HQ8.out.1]; exact HH7.out.lt2) M)
  clear HR8 HH8 M T
  have HH8 := HH8'
  clear HH8'
  go_wp2_with fail
  refine (new_src ⟨#[128]⟩ _).mono ?_
  rintro e u9 ⟨rfl, E, T9⟩
  obtain ⟨q9, hq9⟩ : ∃ q, q = w8.heap.size := ⟨_, rfl⟩
  rw [← hq9] at T9 ⊢
  have HQ9 := Lib.hid (And.intro hq9 T9)
  have HH9 := Lib.hid (HH8.out.exts E)
  clear E T9 hq9
  go_wp2_with fail
  refine (ratio_ok 1 3 (by omega) (by omega) (by omega) _).mono ?_
  rintro e t9 ⟨v, rfl, E, x1, y1, z1, x2, y2, z2, rfl, g1, g2⟩
  have hr := rat_of (n := 1) (d := 3) ⟨x1, y1, z1, x2, y2, z2, rfl, g1, g2⟩ (by decide) (by omega) (by omega) (by omega) (by omega)
  have HR9 := Lib.hid (And.intro hr (And.intro (HQ9.out.2.ext E) (HH9.out.exts E)))
  clear g1 g2 E hr
  go_wp2_with fail
  refine (Coin_ok HR9.out.2.1 HR9.out.1 (r := false) (j := 1) fun W E => coin_first (b := true) (HR9.out.2.1.ext E) (by decide) (by decide) hb128 (HR9.out.1.ext E) (by omega) (by decide)).mono ?_
  rintro e w9 ⟨rfl, M, T⟩
  have HH9' := Lib.hid (HR9.out.2.2.mo HR9.out.2.1 (by rw [HQ9.out.1]; exact HH8.out.size) (by rw [HQ9.out.1]; exact HH8.out.lt1) (by rw [HQ9.out.1]; exact HH8.out.lt2) M)
  clear HR9 HH9 M T
  have HH9 := HH9'
  clear HH9'
  go_wp2_with fail
  refine (new_src ⟨#[]⟩ _).mono ?_
  rintro e u10 ⟨rfl, E, T10⟩
  obtain ⟨q10, hq10⟩ : ∃ q, q = w9.heap.size := ⟨_, rfl⟩
  rw [← hq10] at T10 ⊢
  have HQ10 := Lib.hid (And.intro hq10 T10)
  have HH10 := Lib.hid (HH9.out.exts E)
  clear E T10 hq10
  go_wp2_with fail
  refine (ratio_ok 3 2 (by omega) (by omega) (by omega) _).mono ?_
  rintro e t10 ⟨v, rfl, E, x1, y1, z1, x2, y2, z2, rfl, g1, g2⟩
  have hr := rat_of (n := 3) (d := 2) ⟨x1, y1, z1, x2, y2, z2, rfl, g1, g2⟩ (by decide) (by omega) (by omega) (by omega) (by omega)
  have HR10 := Lib.hid (And.intro hr (And.intro (HQ10.out.2.ext E) (HH10.out.exts E)))
  clear g1 g2 E hr
  go_wp2_with fail
  refine (Coin_ok HR10.out.2.1 HR10.out.1 (r := true) (j := 0) fun W E => coin_sure (HR10.out.2.1.ext E) (HR10.out.1.ext E) (by omega)).mono ?_
  rintro e w10 ⟨rfl, M, T⟩
  have HH10' := Lib.hid (HR10.out.2.2.mo HR10.out.2.1 (by rw [HQ10.out.1]; exact HH9.out.size) (by rw [HQ10.out.1]; exact HH9.out.lt1) (by rw [HQ10.out.1]; exact HH9.out.lt2) M)
  clear HR10 HH10 M T
  have HH10 := HH10'
  clear HH10'
  go_wp2_with fail
  refine (new_src ⟨#[]⟩ _).mono ?_
  rintro e w11 ⟨rfl, E, T⟩
  obtain ⟨q, hq⟩ : ∃ q, q = w10.heap.size := ⟨_, rfl⟩
  rw [← hq] at T ⊢
  have HQ := Lib.hid (And.intro hq T)
  have HH11 := Lib.hid (HH10.out.exts E)
  clear E T hq
  go_wp2_with fail
  refine (Bit_dies HQ.out.2 (by decide) (by decide)).mono ?_
  rintro e w12 ⟨rfl, M, T⟩
  have HH := Lib.hid (HH11.out.mo HQ.out.2 (by rw [HQ.out.1]; exact HH10.out.size) (by rw [HQ.out.1]; exact HH10.out.lt1) (by rw [HQ.out.1]; exact HH10.out.lt2) M)
  clear M T HQ HH11 HH10
  go_wp2_with fail
  refine (text_n HH.out.N2.is HH.out.N2.lt).mono ?_
  rintro e w13 ⟨_, rfl, E, rfl⟩
  rw [txt2]
  have HH13 := Lib.hid (HH.out.exts E)
  clear E
  go_wp2_with fail
  refine (read_src HH13.out.S1).mono ?_
  rintro e w' ⟨rfl, rfl⟩
  go_wp2_with fail
  refine (text_n HH13.out.N0.is HH13.out.N0.lt).mono ?_
  rintro e w14 ⟨_, rfl, E, rfl⟩
  rw [txt0]
  have HH14 := Lib.hid (HH13.out.exts E)
  clear E
  go_wp2_with fail
  refine (read_src HH14.out.S2).mono ?_
  rintro e w' ⟨rfl, rfl⟩
  go_wp2
  go_ret
  exact Post.mk HH14.out.ext rfl
end Go.Proofs.Ytgihjgkpmochcaa

namespace Go.Proofs.Ytgihjgkpmochcaa
open Go.RowKit

/-- Two sources side by side. -/
structure PS (w : World) (p1 p2 : Nat) (s : ByteArray) (i1 : Nat) (d1 : Bool) (i2 : Nat) (d2 : Bool) (W : World) : Prop where
  ext : Ext w W
  lo : w.heap.size ≤ p1
  lt : p1 < p2
  S1 : Src W p1 s i1 d1
  S2 : Src W p2 s i2 d2
section
variable {w W W' : World} {p1 p2 i1 i2 : Nat} {s : ByteArray} {d1 d2 : Bool}
theorem PS.mo1 (h : PS w p1 p2 s i1 d1 i2 d2 W) (M : Mo p1 W W') {i : Nat} {d : Bool} (S : Src W' p1 s i d) : PS w p1 p2 s i d i2 d2 W' := ⟨h.ext.mo M h.lo, h.lo, h.lt, S, h.S2.mo M (by have := h.lt; omega)⟩
theorem PS.mo2 (h : PS w p1 p2 s i1 d1 i2 d2 W) (M : Mo p2 W W') {i : Nat} {d : Bool} (S : Src W' p2 s i d) : PS w p1 p2 s i1 d1 i d W' := ⟨h.ext.mo M (by have := h.lo; have := h.lt; omega), h.lo, h.lt, h.S1.mo M (by have := h.lt; omega), S⟩
theorem PS.exts (h : PS w p1 p2 s i1 d1 i2 d2 W) (E : Ext W W') : PS w p1 p2 s i1 d1 i2 d2 W' := ⟨h.ext.trans E, h.lo, h.lt, h.S1.ext E, h.S2.ext E⟩
theorem PS.mo3 (h : PS w p1 p2 s i1 d1 i2 d2 W) {p : Nat} (hp1 : p1 ≠ p) (hp2 : p2 ≠ p) (hw : w.heap.size ≤ p) (M : Mo p W W') : PS w p1 p2 s i1 d1 i2 d2 W' := ⟨h.ext.mo M hw, h.lo, h.lt, h.S1.mo M hp1, h.S2.mo M hp2⟩
end
theorem blen_pow_pred (a : Nat) : blen (2 ^ a - 1) = a := by
  have h2 := Nat.two_pow_pos a
  have h1 : blen (2 ^ a - 1) ≤ a := (blen_iff _ _).1 (by omega)
  rcases Nat.eq_zero_or_pos a with rfl | ha
  · omega
  · have h3 : ¬ blen (2 ^ a - 1) ≤ a - 1 := by
      intro h
      have h4 := (blen_iff _ _).2 h
      have h5 : 2 ^ a = 2 ^ (a - 1) * 2 := by rw [← Nat.pow_succ]; congr 1; omega
      have h6 := Nat.two_pow_pos (a - 1)
      omega
    omega
theorem one_num {w : World} {b T : Nat} (h : w.heap[b]? = some (.cells #[.int .u64 1] T (0, 0))) : IsN w (.slice (some ⟨b, 0, none⟩) 1 1) 1 := by
  have hr : Row w b T [1] := h
  exact ⟨_, _, _, [1], rfl, hr.nums' (by omega) rfl (by intro x hx; simp at hx; subst hx; unfold B64; omega), by omega, by simp [val]⟩

set_option maxRecDepth 100000 in
theorem parts_long {s : ByteArray} {n m : Nat} (w : World) (h1 : 100 < s.size) (h2 : s.size ≤ 9223372036854775807) (hn : n ≤ 255) (hm : m ≤ 255) :
    Calls Try.prog 3 #[.string s, .int .u8 (n : Int), .int .u8 (m : Int)] w (Post w fun v _ => v = .bool true) := by
  go_enter Try.func3, Try.ntmps3
  go_wp2_with fail
  refine (head23 _).mono ?_
  rintro e w1 ⟨_, rfl, E1, rfl⟩
  go_wp2
  go_ret
  exact Post.mk E1 rfl

set_option maxRecDepth 100000 in
set_option maxHeartbeats 8000000 in
theorem parts_fit {s : ByteArray} {n m a b : Nat} (w : World) (h1 : s.size ≤ 100) (hn : n ≤ 255) (hm : m ≤ 255) (ha : n % 201 = a) (hb : m % 201 = b) (hf : a + b ≤ 8 * s.size) :
    Calls Try.prog 3 #[.string s, .int .u8 (n : Int), .int .u8 (m : Int)] w (Post w fun v _ => v = .bool true) := by
  have ha' : (n : Int) % 201 = a := by omega
  have hb' : (m : Int) % 201 = b := by omega
  have ha2 : a ≤ 200 := by omega
  have hb2 : b ≤ 200 := by omega
  have HF := Lib.hid hf
  clear hf ha hb
  go_enter Try.func3, Try.ntmps3
  go_wp2_with fail
  rw [ha', hb']
  refine (new_src s _).mono ?_
  rintro e w1 ⟨rfl, E, T⟩
  obtain ⟨p1, hp1⟩ : ∃ p, p = w.heap.size := ⟨_, rfl⟩
  rw [← hp1] at T ⊢
  have A1 := Lib.hid (show Ext w w1 ∧ w.heap.size ≤ p1 ∧ Src w1 p1 s 0 false from ⟨E, by omega, T⟩)
  clear E T hp1 ha' hb' hn hm
  go_wp2_with fail
  refine (new_src s _).mono ?_
  rintro e w2 ⟨rfl, E, T⟩
  obtain ⟨p2, hp2⟩ : ∃ p, p = w1.heap.size := ⟨_, rfl⟩
  rw [← hp2] at T ⊢
  have A2 := Lib.hid (show PS w p1 p2 s 0 false 0 false w2 from ⟨A1.out.1.trans E, A1.out.2.1, by rw [hp2]; exact A1.out.2.2.lt, A1.out.2.2.ext E, T⟩)
  clear E T hp2 A1
  go_wp2_with fail
  rw [← Int.natCast_add]
  refine (Number_ok (n := a + b) A2.out.S1 (by omega) (by have := HF.out; omega) (by omega)).mono ?_
  rintro e w3 ⟨xv, rfl, M, T, hv⟩
  rw [Nat.zero_add] at T
  have A3 := Lib.hid (show PS w p1 p2 s (a + b) false 0 false w3 ∧ Num w3 xv (numAt s 0 (a + b)) from ⟨A2.out.mo1 M T, hv⟩)
  obtain ⟨xa, xn, xc, rfl, _⟩ := num_open hv
  clear M T hv A2
  go_wp2_with fail
  refine (Number_ok (n := a) A3.out.1.S2 (by omega) (by have := HF.out; omega) (by omega)).mono ?_
  rintro e w4 ⟨yv, rfl, M, T, hv⟩
  rw [Nat.zero_add] at T
  have A4 := Lib.hid (show PS w p1 p2 s (a + b) false a false w4 ∧ Num w4 (.slice xa xn xc) (numAt s 0 (a + b)) ∧ Num w4 yv (numAt s 0 a) from ⟨A3.out.1.mo2 M T, A3.out.2.mo A3.out.1.S2 M, hv⟩)
  obtain ⟨ya, yn, yc, rfl, _⟩ := num_open hv
  clear M T hv A3
  go_wp2_with fail
  refine (Number_ok (n := b) A4.out.1.S2 (by omega) (by have := HF.out; omega) (by omega)).mono ?_
  rintro e w5 ⟨zv, rfl, M, T, hv⟩
  have A5 := Lib.hid (show PS w p1 p2 s (a + b) false (a + b) false w5 ∧ Num w5 (.slice xa xn xc) (numAt s 0 (a + b)) ∧ Num w5 (.slice ya yn yc) (numAt s 0 a) ∧ Num w5 zv (numAt s a b) from ⟨A4.out.1.mo2 M T, A4.out.2.1.mo A4.out.1.S2 M, A4.out.2.2.mo A4.out.1.S2 M, hv⟩)
  obtain ⟨za, zn, zc, rfl, _⟩ := num_open hv
  clear M T hv A4
  go_wp2_with fail
  refine (read_src A5.out.1.S1).mono ?_
  rintro e w' ⟨rfl, rfl⟩
  go_wp2_with fail
  refine (read_src A5.out.1.S2).mono ?_
  rintro e w' ⟨rfl, rfl⟩
  go_wp2_with fail
  refine (read_src A5.out.1.S1).mono ?_
  rintro e w' ⟨rfl, rfl⟩
  obtain ⟨X, hX⟩ : ∃ X, numAt s 0 (a + b) = X := ⟨_, rfl⟩
  obtain ⟨Y, hY⟩ : ∃ Y, numAt s 0 a = Y := ⟨_, rfl⟩
  obtain ⟨Z, hZ⟩ : ∃ Z, numAt s a b = Z := ⟨_, rfl⟩
  have hsum : Y * 2 ^ b + Z = X := by
    rw [← hX, ← hY, ← hZ, numAt_add, Nat.zero_add]
  have hXt : X < Top := Sm.top (k := 16) (Nat.lt_trans (by rw [← hX]; exact numAt_lt s 0 (a + b)) (Sm.pow (k := 16) (by omega))) (by omega)
  have hYlt : Y < 2 ^ a := by rw [← hY]; exact numAt_lt s 0 a
  have hPt : 1 * 2 ^ a < Top := by rw [Nat.one_mul]; exact Sm.top (k := 16) (Sm.pow (k := 16) (by omega)) (by omega)
  rw [hX, hY, hZ] at A5
  have HS := Lib.hid (show Y * 2 ^ b + Z = X ∧ X < Top ∧ Y < 2 ^ a ∧ 1 * 2 ^ a < Top ∧ numAt s 0 a = Y from ⟨hsum, hXt, hYlt, hPt, hY⟩)
  clear hX hY hZ hsum hXt hYlt hPt
  go_wp2_with fail
  refine (rshl_n b A5.out.2.2.1.is (by omega) (by have := HS.out.1; have := HS.out.2.1; omega)).mono ?_
  rintro e w6 ⟨u6, rfl, E, hv⟩
  have A6 := Lib.hid (show PS w p1 p2 s (a + b) false (a + b) false w6 ∧ Num w6 (.slice xa xn xc) X ∧ Num w6 (.slice ya yn yc) Y ∧ Num w6 (.slice za zn zc) Z ∧ Num w6 u6 (Y * 2 ^ b) from ⟨A5.out.1.exts E, A5.out.2.1.ext E, A5.out.2.2.1.ext E, A5.out.2.2.2.ext E, hv⟩)
  obtain ⟨ca, cn, cc, rfl, _⟩ := num_open hv
  clear E hv A5
  go_wp2_with fail
  refine (radd_n A6.out.2.2.2.2.is A6.out.2.2.2.1.is (by rw [HS.out.1]; exact HS.out.2.1)).mono ?_
  rintro e w7 ⟨u7, rfl, E, hv⟩
  rw [HS.out.1] at hv
  have A7 := Lib.hid (show PS w p1 p2 s (a + b) false (a + b) false w7 ∧ Num w7 (.slice xa xn xc) X ∧ Num w7 (.slice ya yn yc) Y ∧ Num w7 u7 X from ⟨A6.out.1.exts E, A6.out.2.1.ext E, A6.out.2.2.1.ext E, hv⟩)
  obtain ⟨da, dn, dc, rfl, _⟩ := num_open hv
  clear E hv A6
  go_wp2_with fail
  refine (new_src s _).mono ?_
  rintro e w8 ⟨rfl, E, T⟩
  obtain ⟨p3, hp3⟩ : ∃ p, p = w7.heap.size := ⟨_, rfl⟩
  rw [← hp3] at T ⊢
  have A8 := Lib.hid (show PS w p1 p2 s (a + b) false (a + b) false w8 ∧ Num w8 (.slice xa xn xc) X ∧ Num w8 (.slice ya yn yc) Y ∧ Num w8 (.slice da dn dc) X ∧ w.heap.size ≤ p3 ∧ Src w8 p3 s 0 false from ⟨A7.out.1.exts E, A7.out.2.1.ext E, A7.out.2.2.1.ext E, A7.out.2.2.2.ext E, by rw [hp3]; exact A7.out.1.ext.size, T⟩)
  have h31 : p1 < p3 := by rw [hp3]; exact A7.out.1.S1.lt
  have h32 : p2 < p3 := by rw [hp3]; exact A7.out.1.S2.lt
  clear E T A7 hp3
  go_wp2_with fail
  have E := Ext.of_alloc w8 (.cells #[.int .u64 1] 34)
  have h1n : IsN (w8.alloc (.cells #[.int .u64 1] 34)) (.slice (some ⟨w8.heap.size, 0, none⟩) 1 1) 1 := one_num (World.alloc_heap_new w8 _)
  have A9 := Lib.hid (show PS w p1 p2 s (a + b) false (a + b) false (w8.alloc (.cells #[.int .u64 1] 34)) ∧ Num (w8.alloc (.cells #[.int .u64 1] 34)) (.slice xa xn xc) X ∧ Num (w8.alloc (.cells #[.int .u64 1] 34)) (.slice ya yn yc) Y ∧ Num (w8.alloc (.cells #[.int .u64 1] 34)) (.slice da dn dc) X ∧ w.heap.size ≤ p3 ∧ Src (w8.alloc (.cells #[.int .u64 1] 34)) p3 s 0 false from
    ⟨A8.out.1.exts E, A8.out.2.1.ext E, A8.out.2.2.1.ext E, A8.out.2.2.2.1.ext E, A8.out.2.2.2.2.1, A8.out.2.2.2.2.2.ext E⟩)
  clear E A8
  refine (rshl_n a h1n (by omega) HS.out.2.2.2.1).mono ?_
  rintro e w10 ⟨mv, rfl, E, hv⟩
  rw [Nat.one_mul] at hv
  have A10 := Lib.hid (show PS w p1 p2 s (a + b) false (a + b) false w10 ∧ Num w10 (.slice xa xn xc) X ∧ Num w10 (.slice ya yn yc) Y ∧ Num w10 (.slice da dn dc) X ∧ w.heap.size ≤ p3 ∧ Src w10 p3 s 0 false ∧ Num w10 mv (2 ^ a) from ⟨A9.out.1.exts E, A9.out.2.1.ext E, A9.out.2.2.1.ext E, A9.out.2.2.2.1.ext E, A9.out.2.2.2.2.1, A9.out.2.2.2.2.2.ext E, hv⟩)
  obtain ⟨ma, mn, mc, rfl, _⟩ := num_open hv
  clear E hv A9 h1n
  go_wp2_with fail
  refine (Below_ok (m := 2 ^ a) (r := 0) (nb := a) A10.out.2.2.2.2.2.1 (by omega) A10.out.2.2.2.2.2.2.is A10.out.2.2.2.2.2.2.lt (Nat.two_pow_pos a) (blen_pow_pred a) (by omega) (fun j hj => absurd hj (by omega)) (by rw [Nat.zero_mul, Nat.zero_add, HS.out.2.2.2.2]; exact HS.out.2.2.1) (by have := HF.out; omega)).mono ?_
  rintro e w11 ⟨wv, rfl, M, T, hv⟩
  rw [Nat.zero_mul, Nat.zero_add, HS.out.2.2.2.2] at hv
  rw [Nat.zero_mul, Nat.zero_add] at T
  have A11 := Lib.hid (show PS w p1 p2 s (a + b) false (a + b) false w11 ∧ Num w11 (.slice xa xn xc) X ∧ Num w11 (.slice ya yn yc) Y ∧ Num w11 (.slice da dn dc) X ∧ Src w11 p3 s a false ∧ Num w11 wv Y from
    ⟨A10.out.1.mo3 (by omega) (by omega) A10.out.2.2.2.2.1 M, A10.out.2.1.mo A10.out.2.2.2.2.2.1 M, A10.out.2.2.1.mo A10.out.2.2.2.2.2.1 M, A10.out.2.2.2.1.mo A10.out.2.2.2.2.2.1 M, T, hv⟩)
  obtain ⟨wa, wn, wc, rfl, _⟩ := num_open hv
  clear M T hv A10
  go_wp2_with fail
  refine (rcmp_n A11.out.2.2.2.1.is A11.out.2.1.is).mono ?_
  rintro e w' ⟨rfl, rfl⟩
  rw [cmpN_self]
  go_wp2_with fail
  refine (rcmp_n A11.out.2.2.2.2.2.is A11.out.2.2.1.is).mono ?_
  rintro e w' ⟨rfl, rfl⟩
  rw [cmpN_self]
  go_wp2_with fail
  refine (read_src A11.out.2.2.2.2.1).mono ?_
  rintro e w' ⟨rfl, rfl⟩
  go_wp2_with fail
  refine (head23 _).mono ?_
  rintro e w12 ⟨_, rfl, E, rfl⟩
  have HE := Lib.hid (A11.out.1.ext.trans E)
  clear E A11
  go_wp2
  go_ret
  exact Post.mk HE.out rfl

set_option maxRecDepth 100000 in
set_option maxHeartbeats 8000000 in
theorem parts_dry {s : ByteArray} {n m a b : Nat} (w : World) (h1 : s.size ≤ 100) (hn : n ≤ 255) (hm : m ≤ 255) (ha : n % 201 = a) (hb : m % 201 = b) (hf : 8 * s.size < a + b) :
    Calls Try.prog 3 #[.string s, .int .u8 (n : Int), .int .u8 (m : Int)] w (Post w fun v _ => v = .bool true) := by
  have ha' : (n : Int) % 201 = a := by omega
  have hb' : (m : Int) % 201 = b := by omega
  have ha2 : a ≤ 200 := by omega
  have hb2 : b ≤ 200 := by omega
  have HF := Lib.hid hf
  clear hf ha hb
  go_enter Try.func3, Try.ntmps3
  go_wp2_with fail
  rw [ha', hb']
  refine (new_src s _).mono ?_
  rintro e w1 ⟨rfl, E, T⟩
  obtain ⟨p1, hp1⟩ : ∃ p, p = w.heap.size := ⟨_, rfl⟩
  rw [← hp1] at T ⊢
  have A1 := Lib.hid (show Ext w w1 ∧ w.heap.size ≤ p1 ∧ Src w1 p1 s 0 false from ⟨E, by omega, T⟩)
  clear E T hp1 ha' hb' hn hm
  go_wp2_with fail
  refine (new_src s _).mono ?_
  rintro e w2 ⟨rfl, E, T⟩
  obtain ⟨p2, hp2⟩ : ∃ p, p = w1.heap.size := ⟨_, rfl⟩
  rw [← hp2] at T ⊢
  have A2 := Lib.hid (show PS w p1 p2 s 0 false 0 false w2 from ⟨A1.out.1.trans E, A1.out.2.1, by rw [hp2]; exact A1.out.2.2.lt, A1.out.2.2.ext E, T⟩)
  clear E T hp2 A1
  go_wp2_with fail
  rw [← Int.natCast_add]
  refine (Number_dies (n := a + b) A2.out.S1 (by omega) (by omega) (by have := HF.out; omega) (by omega)).mono ?_
  rintro e w3 ⟨rfl, M, i, T⟩
  have A3 := Lib.hid (show PS w p1 p2 s i true 0 false w3 from A2.out.mo1 M T)
  clear M T A2
  by_cases hc : a ≤ 8 * s.size
  · have HC := Lib.hid hc
    clear hc
    go_wp2_with fail
    refine (Number_ok (n := a) A3.out.S2 (by omega) (by have := HC.out; omega) (by omega)).mono ?_
    rintro e w4 ⟨yv, rfl, M, T, hv⟩
    rw [Nat.zero_add] at T
    have A4 := Lib.hid (show PS w p1 p2 s i true a false w4 from A3.out.mo2 M T)
    obtain ⟨ya, yn, yc, rfl, _⟩ := num_open hv
    clear M T hv A3
    go_wp2_with fail
    refine (Number_dies (n := b) A4.out.S2 (by omega) HC.out HF.out (by omega)).mono ?_
    rintro e w5 ⟨rfl, M, j, T⟩
    have A5 := Lib.hid (show PS w p1 p2 s i true j true w5 from A4.out.mo2 M T)
    clear M T A4
    go_wp2_with fail
    refine (head23 _).mono ?_
    rintro e w6 ⟨_, rfl, E, rfl⟩
    have HE := Lib.hid (A5.out.ext.trans E)
    clear E A5
    go_wp2
    go_ret
    exact Post.mk HE.out rfl
  · have HC := Lib.hid (show 8 * s.size < a by omega)
    clear hc
    go_wp2_with fail
    refine (Number_dies (n := a) A3.out.S2 (by omega) (by omega) (by have := HC.out; omega) (by omega)).mono ?_
    rintro e w4 ⟨rfl, M, j, T⟩
    have A4 := Lib.hid (show PS w p1 p2 s i true j true w4 from A3.out.mo2 M T)
    clear M T A3
    go_wp2_with fail
    refine (Number_dry (n := b) A4.out.S2 (by omega)).mono ?_
    rintro e w5 ⟨rfl, E⟩
    have A5 := Lib.hid (show PS w p1 p2 s i true j true w5 from A4.out.exts E)
    clear E A4
    go_wp2_with fail
    refine (head23 _).mono ?_
    rintro e w6 ⟨_, rfl, E, rfl⟩
    have HE := Lib.hid (A5.out.ext.trans E)
    clear E A5
    go_wp2
    go_ret
    exact Post.mk HE.out rfl

theorem u8_range {x : Int} (f : (Lit.int .u8 x).wf = true) : 0 ≤ x ∧ x ≤ 255 := by
  have h : IntKind.u8.min ≤ x ∧ x ≤ IntKind.u8.max := by simpa [Lit.wf] using f
  exact h
theorem parts_law (s0 : ByteArray) (x1 x2 : Int) (w : World) (f0 : s0.size ≤ maxLen) (f1 : (Lit.int .u8 x1).wf = true) (f2 : (Lit.int .u8 x2).wf = true) :
    Calls Try.prog 3 #[.string s0, .int .u8 x1, .int .u8 x2] w fun e w' => e = .returned (.bool true) ∧ Below w.heap.size w w' := by
  have fin : ∀ e w', Post w (fun v _ => v = .bool true) e w' → e = .returned (.bool true) ∧ Below w.heap.size w w' := by
    rintro e w' ⟨_, rfl, E, rfl⟩
    exact ⟨rfl, E⟩
  have g1 : 0 ≤ x1 ∧ x1 ≤ 255 := u8_range f1
  have g2 : 0 ≤ x2 ∧ x2 ≤ 255 := u8_range f2
  obtain ⟨n, rfl⟩ := Int.eq_ofNat_of_zero_le g1.1
  obtain ⟨m, rfl⟩ := Int.eq_ofNat_of_zero_le g2.1
  by_cases h1 : 100 < s0.size
  · exact (parts_long w h1 (by unfold maxLen at f0; omega) (by omega) (by omega)).mono fin
  · by_cases hf : n % 201 + m % 201 ≤ 8 * s0.size
    · exact (parts_fit w (by omega) (by omega) (by omega) rfl rfl hf).mono fin
    · exact (parts_dry w (by omega) (by omega) (by omega) rfl rfl (by omega)).mono fin
end Go.Proofs.Ytgihjgkpmochcaa

namespace Go.Proofs.Ytgihjgkpmochcaa.bitsParts
open Go.ChangeShapes Go.WideShapes Go.ChangeAt Go.RowKit
open Go.ChangeMaps (open_string shut_string)
set_option linter.unusedVariables false

theorem own : ownKnob Try.prog.godebug = none := by kernel_rfl
theorem laidOut : laidOutB Try.prog = true := by kernel_rfl

set_option maxRecDepth 100000 in
theorem lifted (os : Os) (started : os.Started) (H : Type) (enc : TypeId × Value → H) :
    ReturnsInHanded {} Try.checked os 3 .any (Rows.bitsPartsSpec.pre6 enc Try.prog Try.f3 Rows.bitsPartsRow.domain false) (Rows.bitsPartsSpec.post enc Try.prog Try.f3 false true false false) := by
  refine returnsInHanded_of_change (C := Try.checked) own started (by kernel_rfl) Try.func3
    (ChangeSpec.witness6 (enc := enc) (C := Try.checked) false ⟨#[], #[.string ⟨#[]⟩, .int .u8 0, .int .u8 0], []⟩ 8 (by kernel_rfl) (by kernel_rfl) (by kernel_rfl) (by kernel_rfl)) ?_
  intro W base args ds gs before hval0 hW hcnd _
  have hval : ∀ (j : Nat) t v, Try.f3.params[j]? = some t → args[j]? = some v → Value.okWide Try.prog W .any base t v := hval0
  have hW' := hW
  obtain ⟨p, q, hA0, hV, rfl, hfz, hnd⟩ := hW
  have hA : DataW.TrodAll enc Try.prog W 0 (fun _ => true) true Try.f3.params.toList args.toList ds p := hA0
  rw [Try.params3] at hA hval
  obtain ⟨v0, vs0, d0, ds0, p0, q0, hargs, rfl, rfl, h0, r0⟩ := trodAll_cons hA
  obtain ⟨v1, vs1, d1, ds1, p1, q1, rfl, rfl, rfl, h1, r1⟩ := trodAll_cons r0
  obtain ⟨v2, vs2, d2, ds2, p2, q2, rfl, rfl, rfl, h2, r2⟩ := trodAll_cons r1
  obtain ⟨rfl, rfl, rfl⟩ := trodAll_nil r2
  obtain rfl : args = #[v0, v1, v2] := by cases args; simp_all
  obtain ⟨rfl, rfl⟩ := trodVars_none hV
  obtain ⟨s0, rfl, rfl, rfl, f0⟩ := open_string Try.underlying9 (hval 0 9 v0 rfl rfl) h0
  obtain ⟨x1, rfl, rfl, rfl, f1⟩ := open_int Try.underlying5 (hval 1 5 v1 rfl rfl) h1
  obtain ⟨x2, rfl, rfl, rfl, f2⟩ := open_int Try.underlying5 (hval 2 5 v2 rfl rfl) h2
  clear hA0 hval0
  refine (Go.Proofs.Ytgihjgkpmochcaa.parts_law s0 x1 x2 W f0 f1 f2).mono fun e W' ⟨he, bel⟩ => ?_
  subst he
  exact ⟨_, rfl, _, _, _, [], _, [], hW', trodAll_mk1 (shut_bool Try.underlying4 _), (trodAll_cons_mk (shut_string Try.underlying9 f0) (trodAll_cons_mk (shut_int Try.underlying5 f1) (trodAll_cons_mk (shut_int Try.underlying5 f2) trodAll_mk0))), rfl, bel.frame _, fun h => by cases h⟩

theorem over : Rows.bitsPartsRow.holds Try.pinned (OpenSpec.ofChange Rows.bitsPartsSpec) :=
  OpenClaim.holds_of_wide 3 Try.f3 rfl rfl rfl rfl rfl rfl rfl ⟨rfl, rfl, rfl, rfl, rfl⟩ rfl rfl rfl rfl rfl (by kernel_rfl) Try.func3 (by kernel_rfl)
    (of_decide_eq_true (by kernel_rfl)) (by unfold Func.isWrapper; first | (rw [if_pos (by decide +kernel)]; kernel_rfl) | (rw [if_neg (by decide +kernel)]; exact ⟨rfl, rfl⟩))
    (fun os started H enc _ => lifted os started H enc)

theorem proved : Rows.BitsPartsSaid :=
  over
#print axioms proved
end Go.Proofs.Ytgihjgkpmochcaa.bitsParts
