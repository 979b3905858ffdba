/- Parts of the proof: contracts of the functions that the law reaches, and the arithmetic that they rest on; no condition beyond those that each theorem states. -/
import Derived.Test.YtgihjgkpmochcaaM26

namespace Go.Proofs.Ytgihjgkpmochcaa
open Go.RowKit

theorem sub_is {w : World} {v1 v2 : Value} {m1 m2 : Nat} (h1 : IsN w v1 m1) (h2 : IsN w v2 m2) (ht : m1 < Top) (hle : m2 ≤ m1) :
    Calls Try.prog 41 #[v1, v2] w (Post w fun v w' => ∃ a n c, v = .tuple #[.slice a n c, .int .i64 0] ∧ Num w' (.slice a n c) (m1 - m2)) := by
  refine (sub_ok h1 h2 ht hle).mono ?_
  rintro e w' ⟨_, rfl, E, x, rfl, hx⟩
  obtain ⟨a, n, c, rfl⟩ := hx.sl
  exact Post.mk E ⟨a, n, c, rfl, hx⟩
theorem add_is {w : World} {v1 v2 : Value} {m1 m2 : Nat} (h1 : IsN w v1 m1) (h2 : IsN w v2 m2) (ht : m1 + m2 < Top) :
    Calls Try.prog 52 #[v1, v2] w (Post w fun v w' => ∃ a n c, v = .tuple #[.slice a n c, .int .i64 0] ∧ Num w' (.slice a n c) (m1 + m2)) := by
  refine (add_ok h1 h2 ht).mono ?_
  rintro e w' ⟨_, rfl, E, x, rfl, hx⟩
  obtain ⟨a, n, c, rfl⟩ := hx.sl
  exact Post.mk E ⟨a, n, c, rfl, hx⟩

/-- A small rational number, in lowest terms. -/
structure Rat_ (w : World) (x1 x2 : Option Addr) (y1 z1 y2 z2 n d : Nat) : Prop where
  nN : Num w (.slice x1 y1 z1) n
  dN : Num w (.slice x2 y2 z2) d
  n0 : n ≠ 0
  d0 : d ≠ 0
  co : Nat.gcd n d = 1
  nS : n < 1000
  dS : d < 1000
theorem Rat_.ext {w w' : World} {x1 x2 : Option Addr} {y1 z1 y2 z2 n d : Nat} (h : Rat_ w x1 x2 y1 z1 y2 z2 n d) (e : Ext w w') : Rat_ w' x1 x2 y1 z1 y2 z2 n d := ⟨h.nN.ext e, h.dN.ext e, h.n0, h.d0, h.co, h.nS, h.dS⟩
theorem small_top {x : Nat} (h : x < 1000000) : x < Top := Nat.lt_of_lt_of_le (show x < B64 by unfold B64; omega) Top_big
theorem mul_small {x y : Nat} (hx : x < 1000) (hy : y < 1000) : x * y < 1000000 := by
  have h1 := Nat.mul_lt_mul_of_lt_of_le hx (Nat.le_of_lt hy) (by omega : 0 < 1000)
  omega

set_option maxRecDepth 100000 in
set_option maxHeartbeats 4000000 in
theorem coin_sure {w : World} {p i : Nat} {s : ByteArray} {x1 x2 : Option Addr} {y1 z1 y2 z2 n d : Nat} (h : Src w p s i false) (hp : Rat_ w x1 x2 y1 z1 y2 z2 n d) (hge : d ≤ n) :
    Calls Try.prog 31 #[.pointer (some ⟨p, 0, none⟩), .agg #[.bool false, .slice x1 y1 z1, .slice x2 y2 z2]] w fun e w' => e = .returned (.bool true) ∧ Mo p w w' ∧ Src w' p s i false := by
  have H := Lib.hid h
  have HP := Lib.hid hp
  have hcc : decide (0 ≤ cmpN (n * 1) (1 * d)) = true := by
    rw [Nat.mul_one, Nat.one_mul]
    unfold cmpN
    rw [if_neg (by omega)]
    split <;> rfl
  obtain ⟨cc, hc⟩ : ∃ cc, cc = cmpN (n * 1) (1 * d) := ⟨_, rfl⟩
  rw [← hc] at hcc
  have HC := Lib.hid hc
  clear h hp hge hc
  go_enter Try.func31, Try.ntmps31
  go_wp2_with fail
  refine (fof_any 1 (by omega) _).mono ?_
  rintro e w1 ⟨_, rfl, E1, x3, y3, z3, x4, y4, z4, rfl, hu, hv⟩
  have F := (Ext.of_alloc w (.cells #[.bool false, .slice x1 y1 z1, .slice x2 y2 z2] 44)).trans E1
  have q1 := HP.out.ext (F.alloc (.cells #[.bool false, .slice x3 y3 z3, .slice x4 y4 z4] 44))
  have hu' := hu.ext (Ext.of_alloc w1 (.cells #[.bool false, .slice x3 y3 z3, .slice x4 y4 z4] 44))
  have hv' := hv.ext (Ext.of_alloc w1 (.cells #[.bool false, .slice x3 y3 z3, .slice x4 y4 z4] 44))
  obtain ⟨hl, hf⟩ := E1.looka
  have hz := E1.size
  simp at hz
  have HF := Lib.hid F
  clear hu hv F
  go_wp2_with fail
  refine (fcmp_pos x1 x2 x3 x4 y1 z1 y2 z2 y3 z3 y4 z4 n d 1 1 _ q1.nN.is q1.dN.is hu'.is hv'.is q1.nN.lt q1.dN.lt hu'.lt hv'.lt (by rw [Nat.mul_one]; exact q1.nN.lt) (by rw [Nat.one_mul]; exact q1.dN.lt) q1.d0 (by omega)).mono ?_
  rintro e w2 ⟨_, rfl, E2, rfl⟩
  rw [← HC.out]
  go_wp2_with fail
  refine (bmustI_ok cc _).mono ?_
  rintro e w' ⟨rfl, rfl⟩
  have E02 := (HF.out.alloc _).trans E2
  clear q1 hu' hv' hl hf
  go_wp2
  go_ret
  exact ⟨rfl, Mo.of_ext E02, H.out.ext E02⟩

set_option maxRecDepth 100000 in
set_option maxHeartbeats 4000000 in
theorem coin_first {w : World} {p i : Nat} {s : ByteArray} {x1 x2 : Option Addr} {y1 z1 y2 z2 n d : Nat} {b : Bool} (h : Src w p s i false) (hs : s.size ≤ 1000000) (hi : i < 8 * s.size) (hb : bitAt s i = b) (hp : Rat_ w x1 x2 y1 z1 y2 z2 n d) (hlt : n < d) (hdig : decide (d ≤ 2 * n) = !b) :
    Calls Try.prog 31 #[.pointer (some ⟨p, 0, none⟩), .agg #[.bool false, .slice x1 y1 z1, .slice x2 y2 z2]] w fun e w' => e = .returned (.bool (!b)) ∧ Mo p w w' ∧ Src w' p s (i + 1) false := by
  have H := Lib.hid h
  have HP := Lib.hid hp
  have HS := Lib.hid (And.intro hi hb)
  have HL := Lib.hid hlt
  have HD := Lib.hid hdig
  have hcc : cmpN (n * 1) (1 * d) = -1 := by
    rw [Nat.mul_one, Nat.one_mul]
    exact cmpN_lt hlt
  have HCC := Lib.hid hcc
  clear h hp hlt hi hb hcc hdig
  go_enter Try.func31, Try.ntmps31
  go_wp2_with fail
  refine (fof_any 1 (by omega) _).mono ?_
  rintro e w1 ⟨_, rfl, E1, x3, y3, z3, x4, y4, z4, rfl, hu, hv⟩
  have F := (Ext.of_alloc w (.cells #[.bool false, .slice x1 y1 z1, .slice x2 y2 z2] 44)).trans E1
  have q1 := HP.out.ext (F.alloc (.cells #[.bool false, .slice x3 y3 z3, .slice x4 y4 z4] 44))
  have hu' := hu.ext (Ext.of_alloc w1 (.cells #[.bool false, .slice x3 y3 z3, .slice x4 y4 z4] 44))
  have hv' := hv.ext (Ext.of_alloc w1 (.cells #[.bool false, .slice x3 y3 z3, .slice x4 y4 z4] 44))
  obtain ⟨hl, hf⟩ := E1.looka
  have hz := E1.size
  simp at hz
  have HF := Lib.hid F
  clear hu hv F
  go_wp2_with fail
  refine (fcmp_pos x1 x2 x3 x4 y1 z1 y2 z2 y3 z3 y4 z4 n d 1 1 _ q1.nN.is q1.dN.is hu'.is hv'.is q1.nN.lt q1.dN.lt hu'.lt hv'.lt (by rw [Nat.mul_one]; exact q1.nN.lt) (by rw [Nat.one_mul]; exact q1.dN.lt) q1.d0 (by omega)).mono ?_
  rintro e w2 ⟨_, rfl, E2, rfl⟩
  rw [HCC.out]
  go_wp2_with fail
  refine (bmustI_ok (-1) _).mono ?_
  rintro e w' ⟨rfl, rfl⟩
  have E02 := (HF.out.alloc _).trans E2
  have c0 : w2.cell? ⟨w.heap.size, 0, none⟩ = some (.bool false) := E2.cell (by rw [hl _ _ _ (by simp)]; simp)
  have c1 : w2.cell? ⟨w.heap.size, 1, none⟩ = some (.slice x1 y1 z1) := E2.cell (by rw [hl _ _ _ (by simp)]; simp)
  have c2 : w2.cell? ⟨w.heap.size, 2, none⟩ = some (.slice x2 y2 z2) := E2.cell (by rw [hl _ _ _ (by simp)]; simp)
  have HE2 := Lib.hid E02
  have q2 := HP.out.ext E02
  clear q1 hu' hv' hl hf hz E1 E2 E02
  go_wp2_with fail
  refine (fsign_pos x1 x2 y1 z1 y2 z2 n d _ q2.nN.is q2.dN.is q2.nN.lt q2.dN.lt q2.d0 q2.n0).mono ?_
  rintro e w3 ⟨_, rfl, E3, rfl⟩
  have e0 := E3.cell c0
  have e1 := E3.cell c1
  have e2 := E3.cell c2
  have q3 := q2.ext E3
  have HE3 := Lib.hid (HE2.out.trans E3)
  clear c0 c1 c2 q2 HE2 E3
  go_wp2_with fail
  refine (fnorm_ok false x1 x2 y1 z1 y2 z2 n d _ q3.nN.is q3.dN.is q3.nN.lt q3.dN.lt q3.d0).mono ?_
  rintro e w4 ⟨_, rfl, E4, _, rfl, x5, y5, z5, x6, y6, z6, rfl, hu, hv⟩
  have hsg : sg false (n / Nat.gcd n d) = false := rfl
  rw [hsg]
  rw [q3.co, Nat.div_one] at hu hv
  have HE4 := Lib.hid (HE3.out.trans E4)
  clear e0 e1 e2 hsg HE3
  go_wp2_with fail
  refine (bmustF_ok false x5 x6 y5 z5 y6 z6 _).mono ?_
  rintro e w5 ⟨_, rfl, E5, rfl⟩
  have hu5 := hu.ext (E5.alloc (.cells #[.bool false, .slice x5 y5 z5, .slice x6 y6 z6] 44))
  have hv5 := hv.ext (E5.alloc (.cells #[.bool false, .slice x5 y5 z5, .slice x6 y6 z6] 44))
  have HE5 := Lib.hid ((HE4.out.trans E5).alloc (.cells #[.bool false, .slice x5 y5 z5, .slice x6 y6 z6] 44))
  clear hu hv E4 E5 HE4 q3
  go_wp2
  refine wp_loop_once ?_
  go_wp2_with fail
  generalize w5.alloc (.cells #[.bool false, .slice x5 y5 z5, .slice x6 y6 z6] 44) = w6 at hu5 hv5 HE5 ⊢
  refine (sub_is hv5.is hu5.is hv5.lt (Nat.le_of_lt HL.out)).mono ?_
  rintro e w7 ⟨_, rfl, E7, a7, n7, c7, rfl, hr⟩
  go_wp2_with fail
  refine (bmustN_ok a7 n7 c7 _).mono ?_
  rintro e w' ⟨rfl, rfl⟩
  have HE6 := HE5
  go_wp2_with fail
  refine (cmp_n (hu5.ext E7).is hr.is).mono ?_
  rintro e w8 ⟨_, rfl, E8, rfl⟩
  obtain ⟨cc, hc⟩ : ∃ cc, cc = cmpN n (d - n) := ⟨_, rfl⟩
  rw [← hc]
  cases b
  · have hdg : d - n ≤ n := by
      have := HD.out
      simp at this
      omega
    have hcc : decide (0 ≤ cc) = true := by
      rw [hc]
      unfold cmpN
      rw [if_neg (by omega)]
      split <;> rfl
    have HDG := Lib.hid hdg
    clear hc hdg
    go_wp2_with fail
    refine (sub_is (hu5.ext (E7.trans E8)).is (hr.ext E8).is hu5.lt HDG.out).mono ?_
    rintro e w9 ⟨_, rfl, E9, a8, n8, c8, rfl, hm⟩
    go_wp2_with fail
    refine (bmustN_ok a8 n8 c8 _).mono ?_
    rintro e w' ⟨rfl, rfl⟩
    have HE9 := Lib.hid (HE6.out.trans (E7.trans (E8.trans E9)))
    have HNX := Lib.hid (next_ok (H.out.ext HE9.out) HS.out.1 hs)
    clear hm E7 E8 E9 hr hu5 hv5
    go_wp2_with fail
    refine HNX.out.mono ?_
    rintro e w10 ⟨rfl, M1, S1⟩
    rw [HS.out.2]
    have HM := Lib.hid (And.intro M1 S1)
    clear HNX M1 S1
    go_wp2
    go_ret
    exact ⟨rfl, (Mo.of_ext HE9.out).trans HM.out.1, HM.out.2⟩
  · have hdg : n < d - n := by
      have := HD.out
      simp at this
      omega
    have hcc : decide (0 ≤ cc) = false := by
      rw [hc, cmpN_lt hdg]
      rfl
    have ht : n + n < Top := small_top (by have := HP.out.nS; omega)
    have HDG := Lib.hid (And.intro hdg ht)
    clear hc hdg ht
    go_wp2_with fail
    refine (add_is (hu5.ext (E7.trans E8)).is (hu5.ext (E7.trans E8)).is HDG.out.2).mono ?_
    rintro e w9 ⟨_, rfl, E9, a8, n8, c8, rfl, hm⟩
    go_wp2_with fail
    refine (bmustN_ok a8 n8 c8 _).mono ?_
    rintro e w' ⟨rfl, rfl⟩
    have HE9 := Lib.hid (HE6.out.trans (E7.trans (E8.trans E9)))
    have HNX := Lib.hid (next_ok (H.out.ext HE9.out) HS.out.1 hs)
    clear hm E7 E8 E9 hr hu5 hv5
    go_wp2_with fail
    refine HNX.out.mono ?_
    rintro e w10 ⟨rfl, M1, S1⟩
    rw [HS.out.2]
    have HM := Lib.hid (And.intro M1 S1)
    clear HNX M1 S1
    go_wp2
    go_ret
    exact ⟨rfl, (Mo.of_ext HE9.out).trans HM.out.1, HM.out.2⟩
end Go.Proofs.Ytgihjgkpmochcaa

namespace Go.Proofs.Ytgihjgkpmochcaa
open Go.RowKit

theorem coin1_ok {w : World} {p j b1 b2 : Nat} {s : ByteArray} {r : Bool} {x1 x2 : Option Addr} {y1 z1 y2 z2 : Nat}
    (hdo : Calls Try.prog 31 #[.pointer (some ⟨p, 0, none⟩), .agg #[.bool false, .slice x1 y1 z1, .slice x2 y2 z2]] w fun e w' => e = .returned (.bool r) ∧ Mo p w w' ∧ Src w' p s j false)
    (k1 : w.cell? ⟨b1, 0, none⟩ = some (.pointer (some ⟨p, 0, none⟩))) (q0 : w.cell? ⟨b2, 0, none⟩ = some (.bool false)) (q1 : w.cell? ⟨b2, 1, none⟩ = some (.slice x1 y1 z1)) (q2 : w.cell? ⟨b2, 2, none⟩ = some (.slice x2 y2 z2)) :
    Calls Try.prog 30 #[.pointer (some ⟨b1, 0, none⟩), .pointer (some ⟨b2, 0, none⟩)] w fun e w' => e = .returned (.bool r) ∧ Mo p w w' ∧ Src w' p s j false := by
  have H := Lib.hid hdo
  clear hdo
  go_enter Try.func30, Try.ntmps30
  go_wp2_with fail
  refine H.out.mono ?_
  rintro e w1 ⟨rfl, h1, h2⟩
  go_wp2
  go_ret
  exact ⟨rfl, h1, h2⟩

set_option maxRecDepth 100000 in
set_option maxHeartbeats 4000000 in
theorem Coin_ok {w : World} {p i j : Nat} {s : ByteArray} {r : Bool} {x1 x2 : Option Addr} {y1 z1 y2 z2 n d : Nat} (h : Src w p s i false) (hp : Rat_ w x1 x2 y1 z1 y2 z2 n d)
    (hdo : ∀ W, Ext w W → Calls Try.prog 31 #[.pointer (some ⟨p, 0, none⟩), .agg #[.bool false, .slice x1 y1 z1, .slice x2 y2 z2]] W fun e w' => e = .returned (.bool r) ∧ Mo p W w' ∧ Src w' p s j false) :
    Calls Try.prog 14 #[.pointer (some ⟨p, 0, none⟩), .agg #[.bool false, .slice x1 y1 z1, .slice x2 y2 z2]] w fun e w' => e = .returned (.tuple #[.bool r, .int .i64 0]) ∧ Mo p w w' ∧ Src w' p s j false := by
  have hpl := h.lt
  have H := Lib.hid h
  have HP := Lib.hid hp
  have HD := Lib.hid hdo
  have hmf : ∀ (fn : Fn) (first cap : Array Value) (w : World), (Instr.makeFunc fn first cap).run Try.prog w = .ok (.func fn first cap) w := fun _ _ _ _ => rfl
  clear h hp hdo
  go_enter Try.func14, Try.ntmps14
  go_wp2
  have k0 : ((w.alloc (.cells #[.pointer (some ⟨p, 0, none⟩)] 23)).alloc (.cells #[.bool false, .slice x1 y1 z1, .slice x2 y2 z2] 44)).cell? ⟨w.heap.size, 0, none⟩ = some (.pointer (some ⟨p, 0, none⟩)) := by simp [go_sem]
  have k1 : ((w.alloc (.cells #[.pointer (some ⟨p, 0, none⟩)] 23)).alloc (.cells #[.bool false, .slice x1 y1 z1, .slice x2 y2 z2] 44)).cell? ⟨w.heap.size + 1, 0, none⟩ = some (.bool false) := by simp [go_sem]
  have k2 : ((w.alloc (.cells #[.pointer (some ⟨p, 0, none⟩)] 23)).alloc (.cells #[.bool false, .slice x1 y1 z1, .slice x2 y2 z2] 44)).cell? ⟨w.heap.size + 1, 1, none⟩ = some (.slice x1 y1 z1) := by simp [go_sem]
  have k3 : ((w.alloc (.cells #[.pointer (some ⟨p, 0, none⟩)] 23)).alloc (.cells #[.bool false, .slice x1 y1 z1, .slice x2 y2 z2] 44)).cell? ⟨w.heap.size + 1, 2, none⟩ = some (.slice x2 y2 z2) := by simp [go_sem]
  have HE := Lib.hid ((((Ext.refl w).alloc (.cells #[.pointer (some ⟨p, 0, none⟩)] 23)).alloc (.cells #[.bool false, .slice x1 y1 z1, .slice x2 y2 z2] 44)))
  generalize ((w.alloc (.cells #[.pointer (some ⟨p, 0, none⟩)] 23)).alloc (.cells #[.bool false, .slice x1 y1 z1, .slice x2 y2 z2] 44)) = W at k0 k1 k2 k3 HE ⊢
  go_region_with (first
    | (go_at_call 29; refine (bmay_ok false x1 x2 y1 z1 y2 z2 n d _ ((HP.out.ext HE.out).ext ((Ext.refl W).drew)).nN.is ((HP.out.ext HE.out).ext ((Ext.refl W).drew)).dN.is HP.out.nN.lt HP.out.dN.lt HP.out.d0).mono ?_; rintro e w1 ⟨_, rfl, E1, rfl⟩; have F1 := (Ext.refl W).drew.trans E1; have q0 := F1.cell k0; have q1 := F1.cell k1; have q2 := F1.cell k2; have q3 := F1.cell k3)
    | (go_at_call 26; refine (faceB_coin (H.out.ext (HE.out.trans F1)) (j := j) (r := r) fun W' E => coin1_ok (HD.out W' ((HE.out.trans F1).trans E)) (E.cell q0) (E.cell q1) (E.cell q2) (E.cell q3)).mono ?_; rintro e w2 ⟨rfl, M2, S2⟩))
  all_goals
    go_wp2
    go_ret2
    exact ⟨rfl, (Mo.of_ext (HE.out.trans F1)).trans M2, S2⟩
end Go.Proofs.Ytgihjgkpmochcaa
