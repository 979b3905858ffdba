/- Parts of the proof: contracts of the functions that the law reaches, and the arithmetic that they rest on; no condition beyond those that each theorem states. -/
import Derived.Test.YtbncdghbnnefdaaGreatM15
import Derived.Test.YtbncdghbnnefdaaGreatM16
import Derived.Test.YtbncdghbnnefdaaGreatM22

namespace Go.Proofs.YtbncdghbnnefdaaGreat
open Go.RowKit

theorem RMk.mono {w : World} {B B' qb bud pars : Nat} {row : Value} {L : List Step} (h : RMk w B qb row bud pars L) (hb : B' ≤ B) : RMk w B' qb row bud pars L := by
  obtain ⟨cells, ho, hs⟩ := h.steps
  exact ⟨Nat.le_trans hb h.b1, h.blk, ⟨cells, ho.mono hb, hs⟩, h.len, h.bud1, h.pars1⟩
theorem Odd.right' {w0 w w' : World} {p1 m1 b1 k1 qb k2 i er : Nat} {r1 r2 : Value} {L1 L2 : List Step} {e : Ending} (h : Odd w0 w p1 m1 r1 b1 k1 L1 qb r2 k2 L2) (hr : RRes w0.heap.size qb b1 r2 w i er k1 L1 e w') :
    ∃ r2', e = .returned (.tuple #[.int .i64 i, .int .i64 er]) ∧ Duo w0 w' p1 m1 r1 b1 k1 L1 qb r2' ∧ Mv qb qb r2 r2' w w' := h.right hr
theorem sm_up8 {j k m : Nat} (h : m < B64 ^ j) (hk : j ≤ k) : Sm k m := Nat.lt_of_lt_of_le h (Nat.pow_le_pow_right B64_pos hk)
theorem sm_nil : Sm 2040 (val []) := sm_up8 (j := 0) (by simp [val]) (by omega)
theorem sm_put {b : Nat} {L : List Step} {s : Step} (h : SmL L) (hs : Sm 2040 (val s.xs) ∧ Sm 2040 (val s.ys)) : SmL (putR b L s).2.2 := by
  by_cases hm : s ∈ L
  · obtain ⟨i, hf, _⟩ := find_new hm
    have e : (putR b L s).2.2 = L := by unfold putR; rw [hf]
    rw [e]; exact h
  · by_cases hb : b ≤ L.length
    · rw [put_full' hm hb]; exact h
    · rw [put_new' hm (by omega)]
      intro t ht
      rcases List.mem_append.1 ht with h1 | h1
      · exact h t h1
      · rw [List.mem_singleton.1 h1]; exact hs
theorem sm_num {b : Nat} {L : List Step} {g : Bool} {n d : Nat} (h : SmL L) (h1 : Sm 2040 n) (h2 : Sm 2040 d) : SmL (numR b L g n d).2.2 := by
  unfold numR
  split
  · exact h
  · refine sm_put h ⟨?_, ?_⟩
    · show Sm 2040 (val (limbs _))
      rw [val_limbs]; exact sm_div h1
    · show Sm 2040 (val (limbs _))
      rw [val_limbs]; exact sm_div h2
theorem sm_step {b pars k op : Nat} {L : List Step} {x y : Int} (h : SmL L) : SmL (stepR b pars L (opStep op x y) k).2.2 := by
  unfold stepR
  split
  · exact sm_put h ⟨sm_nil, sm_nil⟩
  · exact h
theorem sm_par {b pars : Nat} {L : List Step} (h : SmL L) : SmL (parR b pars L).2.2.2 := by
  unfold parR
  split
  · exact h
  · exact sm_put h ⟨sm_nil, sm_nil⟩
theorem tells_at {w : World} {b : Nat} {x : ByteArray} {k : Int} (h0 : w.cell? ⟨b, 0, none⟩ = some (.string x)) (h1 : w.cell? ⟨b, 1, none⟩ = some (.int .i64 k)) : Tells w (some ⟨b, 0, none⟩) 1 1 [(x, k)] :=
  ⟨rfl, by omega, .inr ⟨b, 0, rfl, fun i t ht => by
    match i, ht with
    | 0, ht => cases ht; exact ⟨h0, h1⟩
    | i + 1, ht => simp at ht⟩⟩
/-- What the maker's Tape told, as a tape and an error. -/
def TVal (pars : Nat) (A : Int) (L : List Step) (T : List (ByteArray × Int)) (tv : Value) (er : Nat) (w : World) : Prop :=
  (checkP pars A L T = 0 ∧ er = 0 ∧ IsTape w tv pars A L T) ∨ (checkP pars A L T ≠ 0 ∧ er = 2 ∧ tv = zeroT)
theorem TVal.form {pars : Nat} {A : Int} {L : List Step} {T : List (ByteArray × Int)} {tv : Value} {er : Nat} {w : World} (h : TVal pars A L T tv er w) :
    ∃ (t0 t1 : Int) (ta : Option Addr) (tn tc : Nat) (ua : Option Addr) (un uc : Nat), tv = .agg #[.int .i64 t0, .int .i64 t1, .slice ta tn tc, .slice ua un uc] := by
  rcases h with ⟨_, _, a1, n1, c1, a2, n2, c2, e, _⟩ | ⟨_, _, e⟩
  · exact ⟨_, _, _, _, _, _, _, _, e⟩
  · exact ⟨_, _, _, _, _, _, _, _, e⟩
theorem tval_of {pars B : Nat} {A : Int} {L : List Step} {T : List (ByteArray × Int)} {v : Value} {w : World} (h1 : checkP pars A L T = 0 → ∃ rv tv cells, v = .tuple #[.agg #[.int .i64 pars, .int .i64 A, rv, tv], .int .i64 0] ∧ ORow w B rv L cells ∧ OwnT w B tv T)
    (h2 : checkP pars A L T ≠ 0 → v = .tuple #[zeroT, .int .i64 2]) (hf : ∀ s ∈ L, Few s) (hl : L.length ≤ 65536) (hT : T.length ≤ 65536 := by decide) : ∃ tv er, v = .tuple #[tv, .int .i64 (er : Nat)] ∧ TVal pars A L T tv er w := by
  by_cases h : checkP pars A L T = 0
  · obtain ⟨rv, tv, cells, rfl, ho, ht⟩ := h1 h
    obtain ⟨a1, c1, rfl, hs⟩ := ho.rowSteps hf hl
    obtain ⟨a2, c2, rfl, hts⟩ := ht.tells hT
    exact ⟨_, 0, rfl, .inl ⟨h, rfl, _, _, _, _, _, _, rfl, hs, hts⟩⟩
  · exact ⟨zeroT, 2, h2 h, .inr ⟨h, rfl, rfl⟩⟩
theorem tape_zero (w : World) : IsTape w zeroT 0 0 [] [] := ⟨none, 0, 0, none, 0, 0, rfl, ⟨rfl, by omega, .inl rfl⟩, ⟨rfl, by omega, .inl rfl⟩⟩
/-- The two tapes tell the same, and Same says so. -/
theorem rval_of {pars er : Nat} {A : Int} {L : List Step} {T : List (ByteArray × Int)} {row v : Value} {ta zb : Option Addr} {tn tc zn zc rc : Nat} {ra ua : Option Addr} {un uc : Nat} {t0 t1 : Int} {w w' : World} (hr : RTape pars A L T row (.slice zb zn zc) v) (hrow : row = .slice ra L.length rc) (hs : Steps w' ra L.length rc L) (ht : Tells w' zb zn zc T)
    (hv : TVal pars A L T (.agg #[.int .i64 t0, .int .i64 t1, .slice ta tn tc, .slice ua un uc]) er w) (e : Ext w w') :
    ∃ (v0 v1 : Int) (va : Option Addr) (vn vc : Nat) (wa : Option Addr) (wn wc : Nat), v = .tuple #[.agg #[.int .i64 v0, .int .i64 v1, .slice va vn vc, .slice wa wn wc], .int .i64 er] ∧
      ∀ W, Ext w' W → Calls Tryz.prog 19 #[.agg #[.int .i64 t0, .int .i64 t1, .slice ta tn tc, .slice ua un uc], .agg #[.int .i64 v0, .int .i64 v1, .slice va vn vc, .slice wa wn wc]] W (Post W fun r _ => r = .bool true) := by
  rcases hv with ⟨h, rfl, hi⟩ | ⟨h, rfl, hz⟩
  · refine ⟨pars, A, ra, L.length, rc, zb, zn, zc, by rw [hr.1 h, hrow]; rfl, fun W x => ?_⟩
    have := rsame17_any _ (.agg #[.int .i64 (pars : Int), .int .i64 A, .slice ra L.length rc, .slice zb zn zc]) pars A pars A L L T T W ((hi.ext e).ext x) ⟨_, _, _, _, _, _, rfl, hs.ext x, ht.ext x⟩
    rw [sameP_self] at this
    exact this
  · refine ⟨0, 0, none, 0, 0, none, 0, 0, by rw [hr.2 h]; rfl, fun W x => ?_⟩
    have h0 := tape_zero W
    rw [← hz] at h0
    have := rsame17_any _ zeroT 0 0 0 0 [] [] [] [] W h0 (tape_zero W)
    rw [sameP_self] at this
    exact this

set_option linter.unusedSimpArgs false in
set_option maxRecDepth 100000 in
set_option maxHeartbeats 16000000 in
theorem makes_yes (b : Nat) (a : Option Addr) (n c : Nat) (w : World) (hA : Asks w a n) (hb1 : 1 ≤ b) (hb2 : b ≤ 20000) :
    Calls Tryz.prog 3 #[.int .i64 b, .slice a n c] w (Post w fun v _ => v = .bool true) := by
  have HA := Lib.hid hA
  have hfew := hA.few
  unfold maxLen at hfew
  clear hA
  go_enter Tryz.func3, Tryz.ntmps3
  go_wp2_with fail
  refine (new_yes b _ hb1 hb2).mono ?_
  rintro e w1 ⟨pb, mb, rfl, E1, x1, x2, M1⟩
  go_wp2_with fail
  refine (rnew_yes b _ hb1 hb2).mono ?_
  rintro e w2 ⟨qb, rfl, E2, x3, M2⟩
  have hD : Duo w w2 pb mb (.slice none 0 0) b 0 [] qb (.slice none 0 0) := by
    obtain ⟨l1, l2, _⟩ := M1.lts
    exact ⟨E1.trans E2, M1.kept E2, M2.mono E1.size, ⟨by omega, by omega, by omega, by omega, by simp [Value.ownBlock], by simp [Value.ownBlock], by simp [Value.ownBlock], by simp [Value.ownBlock], fun k h => by simp [Value.ownBlock] at h⟩⟩
  clear E1 M1 x1 x2 E2 x3 M2
  go_wp2_with fail
  go_loopw [9] (fun k wr => ∃ j : Nat, j ≤ 80 ∧ k = .int .i64 j ∧ ∃ (r1 : Value) (pars : Nat) (L : List Step) (r2 : Value), Duo w wr pb mb r1 b pars L qb r2 ∧ SmL L) (fun k _ => 80 - (intOf k).toNat)
  case atStart => exact ⟨0, by omega, rfl, _, _, _, _, hD, fun s hs => by cases hs⟩
  case round =>
    clear hD
    obtain ⟨j, hj, rfl, r1, pars, L, r2, hD, hSM⟩ := hrel
    have HSM := Lib.hid hSM
    have HD0 := Lib.hid hD
    clear hSM hD
    by_cases hlt : j < n ∧ j < 80
    · obtain ⟨hlt, h80⟩ := hlt
      obtain ⟨b', off, rfl, p, q, A, B, g, a1, n1, c1, z1, a2, n2, c2, z2, hp, hq, hA, hB, hr1, hr2, k0, k1, k2, k3, k4, k5, k6⟩ := HA.out.at hlt
      replace k0 := HD0.out.ext.cell k0
      replace k1 := HD0.out.ext.cell k1
      replace k2 := HD0.out.ext.cell k2
      replace k3 := HD0.out.ext.cell k3
      replace k4 := HD0.out.ext.cell k4
      replace k5 := HD0.out.ext.cell k5
      replace k6 := HD0.out.ext.cell k6
      obtain ⟨r, hr⟩ : ∃ r, r = (decide (n1 ≤ 3) && decide (n2 ≤ 3)) := ⟨_, rfl⟩
      have HM := Lib.hid (fun W => small06 g a1 a2 n1 c1 n2 c2 W)
      rw [← hr] at HM
      have Hr := Lib.hid hr
      have HR1 := Lib.hid hr1
      have HR2 := Lib.hid hr2
      have HQ := Lib.hid (And.intro hp (And.intro hq (And.intro hA hB)))
      have hlt' : ((j : Nat) : Int) < n := by omega
      have hlt2 : ((j : Nat) : Int) < 80 := by omega
      clear hr hr1 hr2 hp hq hA hB
      go_wp2_with fail
      refine (HM.out _).mono ?_
      rintro e wq ⟨_, rfl, E2, rfl⟩
      clear HM
      cases r
      · go_wp2_with fail
        refine (head17 _).mono ?_
        rintro e w3 ⟨_, rfl, E3, rfl⟩
        go_wp2
        go_ret
        exact Post.mk (((HD0.out.ext.alloc _).trans E2).trans E3) rfl
      · obtain ⟨hn1, hn2⟩ : n1 ≤ 3 ∧ n2 ≤ 3 := by have := Hr.out; simp at this; omega
        obtain ⟨nn, ht1, hi1⟩ := HR1.out.is (show n1 ≤ 6 by omega)
        obtain ⟨dd, ht2, hi2⟩ := HR2.out.is (show n2 ≤ 6 by omega)
        have HI := Lib.hid (And.intro hi1 (And.intro hi2 (And.intro (lt_top6 ht1) (lt_top6 ht2))))
        have HSn : Hid (Sm 2040 nn ∧ Sm 2040 dd) := Lib.hid ⟨sm_up8 (j := 6) ht1 (by omega), sm_up8 (j := 6) ht2 (by omega)⟩
        have HD := Lib.hid (HD0.out.more ((Ext.of_alloc _ _).trans E2))
        obtain ⟨xb, hxb⟩ : ∃ xb, xb = wr.heap.size := ⟨_, rfl⟩
        have HH : Hid (Has wq pb mb r1 xb (.cells #[.int .u8 p, .int .u8 q, .int .i64 A, .int .i64 B, .bool g, .slice a1 n1 c1, .slice a2 n2 c2] 37 (0, 0))) := Lib.hid (by
          obtain ⟨l1, l2, l3⟩ := HD0.out.one.lts
          refine ⟨E2.block (by rw [hxb]; exact heap_alloc_new _ _), by omega, by omega, fun e => ?_⟩
          have := (l3 _ e).2
          omega)
        rw [← hxb]
        clear hxb E2 HD0 Hr HR1 HR2 hn1 hn2 ht1 ht2 hi1 hi2 k0 k1 k2 k3 k4 k5 k6 hlt hlt' hlt2
        · skip
          have d0 : wq.cell? ⟨xb, 0, none⟩ = some (.int .u8 p) := HH.out.cell rfl
          have d1 : wq.cell? ⟨xb, 1, none⟩ = some (.int .u8 q) := HH.out.cell rfl
          have d2 : wq.cell? ⟨xb, 2, none⟩ = some (.int .i64 A) := HH.out.cell rfl
          have d3 : wq.cell? ⟨xb, 3, none⟩ = some (.int .i64 B) := HH.out.cell rfl
          have d4 : wq.cell? ⟨xb, 4, none⟩ = some (.bool g) := HH.out.cell rfl
          have d5 : wq.cell? ⟨xb, 5, none⟩ = some (.slice a1 n1 c1) := HH.out.cell rfl
          have d6 : wq.cell? ⟨xb, 6, none⟩ = some (.slice a2 n2 c2) := HH.out.cell rfl
          have hm : p % 8 = 0 ∨ p % 8 = 1 ∨ p % 8 = 2 ∨ p % 8 = 3 ∨ p % 8 = 4 ∨ p % 8 = 5 ∨ p % 8 = 6 ∨ p % 8 = 7 := by omega
          rcases hm with hm | hm | hm | hm | hm | hm | hm | hm
          · have Hm := Lib.hid hm
            go_wp2_with fail
            refine (num_all _ _ _ _ _ _ _ g a1 a2 n1 c1 n2 c2 nn dd _ HD.out.one (HI.out.1.ext HD.out.ext) (HI.out.2.1.ext HD.out.ext) HI.out.2.2.1 HI.out.2.2.2).mono ?_
            rintro e w5 hres
            obtain ⟨R, hR⟩ : ∃ R, R = numR b L g nn dd := ⟨_, rfl⟩
            have HSM2 := Lib.hid (sm_num (b := b) (g := g) HSM.out HSn.out.1 HSn.out.2)
            rw [← hR] at hres HSM2
            have HR := Lib.hid hR
            clear hR
            obtain ⟨r1', rfl, hO, hv⟩ := HD.out.left hres
            have hH2 := HH.out.mv hv
            have HO := Lib.hid hO
            clear hres hv hO d0 d1 d2 d3 d4 d5 d6 hm
            have d0 : w5.cell? ⟨xb, 0, none⟩ = some (.int .u8 p) := hH2.cell rfl
            have d1 : w5.cell? ⟨xb, 1, none⟩ = some (.int .u8 q) := hH2.cell rfl
            have d2 : w5.cell? ⟨xb, 2, none⟩ = some (.int .i64 A) := hH2.cell rfl
            have d3 : w5.cell? ⟨xb, 3, none⟩ = some (.int .i64 B) := hH2.cell rfl
            have d4 : w5.cell? ⟨xb, 4, none⟩ = some (.bool g) := hH2.cell rfl
            have d5 : w5.cell? ⟨xb, 5, none⟩ = some (.slice a1 n1 c1) := hH2.cell rfl
            have d6 : w5.cell? ⟨xb, 6, none⟩ = some (.slice a2 n2 c2) := hH2.cell rfl
            go_wp2_with fail
            refine (rnum_any _ _ _ _ _ _ g a1 a2 n1 c1 n2 c2 nn dd _ HO.out.two (HI.out.1.ext HO.out.ext) (HI.out.2.1.ext HO.out.ext) HSn.out.1 HSn.out.2).mono ?_
            rintro e w6 hres2
            rw [← HR.out] at hres2
            obtain ⟨i, er, L'⟩ := R
            simp only at hres2 HO HSM2
            obtain ⟨r2', rfl, hD2, _⟩ := HO.out.right hres2
            have HD2 := Lib.hid hD2
            clear hres2 hD2 hH2 d0 d1 d2 d3 d4 d5 d6 HR HO HD HH
            obtain ⟨ra, rc, hr2, hrs2⟩ := HD2.out.two.rowSteps
            have y2 := HD2.out.two.c2
            rw [hr2] at y2
            have hf2 := hrs2.few
            clear hr2 hrs2
            go_wp2_with fail
            refine wp_region_T (fun _ => True) (fun w' : World => w'.cell? ⟨qb, 2, none⟩ = some (.slice ra L'.length rc)) 99 18 (by rfl) (by kernel_rfl) ?_
            have hT0 : w6.drew.cell? ⟨qb, 2, none⟩ = some (.slice ra L'.length rc) := y2
            refine wpAnyT_take' (i := 0) (some 173) (v := ?_) rfl rfl (by kernel_rfl) (by kernel_rfl) (by kernel_rfl) (by decide) (fun _ _ _ h => h) (Or.inl ⟨by rfl, ?_⟩) (fun _ => trivial) hT0 ?_
            rotate_left
            · (intro w hSw; (try dsimp only at hSw); go_simp); try with_reducible rfl
            try simp only [Act.put, List.setIfInBounds_toArray, List.set_cons_zero, List.set_cons_succ]
            refine wpAnyT_take' (i := 1) (some 174) (v := ?_) rfl rfl (by kernel_rfl) (by kernel_rfl) (by kernel_rfl) (by decide) (fun _ _ _ h => h) (Or.inl ⟨by rfl, ?_⟩) (fun _ => trivial) hT0 ?_
            rotate_left
            · (intro w hSw; (try dsimp only at hSw); go_simp); try with_reducible rfl
            try simp only [Act.put, List.setIfInBounds_toArray, List.set_cons_zero, List.set_cons_succ]
            refine wpAnyT_take' (i := 2) (some 175) (v := ?_) rfl rfl (by kernel_rfl) (by kernel_rfl) (by kernel_rfl) (by decide) (fun _ _ _ h => h) (Or.inl ⟨by rfl, ?_⟩) (fun _ => trivial) hT0 ?_
            rotate_left
            · (intro w hSw; (try dsimp only at hSw); go_simp); try with_reducible rfl
            try simp only [Act.put, List.setIfInBounds_toArray, List.set_cons_zero, List.set_cons_succ]
            refine wpAnyT_take' (i := 3) (some 176) (v := ?_) rfl rfl (by kernel_rfl) (by kernel_rfl) (by kernel_rfl) (by decide) (fun _ _ _ h => h) (Or.inl ⟨by rfl, ?_⟩) (fun _ => trivial) hT0 ?_
            rotate_left
            · (intro w hSw; (try dsimp only at hSw); go_simp); try with_reducible rfl
            try simp only [Act.put, List.setIfInBounds_toArray, List.set_cons_zero, List.set_cons_succ]
            refine wpAnyT_take' (i := 4) (some 177) (v := ?_) rfl rfl (by kernel_rfl) (by kernel_rfl) (by kernel_rfl) (by decide) (fun _ _ _ h => h) (Or.inl ⟨by rfl, ?_⟩) (fun _ => trivial) hT0 ?_
            rotate_left
            · (intro w hSw; (try dsimp only at hSw); go_simp); try with_reducible rfl
            try simp only [Act.put, List.setIfInBounds_toArray, List.set_cons_zero, List.set_cons_succ]
            refine wpAnyT_take' (i := 5) (some 178) (v := ?_) rfl rfl (by kernel_rfl) (by kernel_rfl) (by kernel_rfl) (by decide) (fun _ _ _ h => h) (Or.inl ⟨by rfl, ?_⟩) (fun _ => trivial) hT0 ?_
            rotate_left
            · (intro w hSw; (try dsimp only at hSw); go_simp); try with_reducible rfl
            try simp only [Act.put, List.setIfInBounds_toArray, List.set_cons_zero, List.set_cons_succ]
            refine wpAnyT_take' (i := 6) (some 179) (v := ?_) rfl rfl (by kernel_rfl) (by kernel_rfl) (by kernel_rfl) (by decide) (fun _ _ _ h => h) (Or.inl ⟨by rfl, ?_⟩) (fun _ => trivial) hT0 ?_
            rotate_left
            · (intro w hSw; (try dsimp only at hSw); go_simp); try with_reducible rfl
            try simp only [Act.put, List.setIfInBounds_toArray, List.set_cons_zero, List.set_cons_succ]
            refine wpAnyT_take' (i := 7) (some 180) (v := ?_) rfl rfl (by kernel_rfl) (by kernel_rfl) (by kernel_rfl) (by decide) (fun _ _ _ h => h) (Or.inl ⟨by rfl, ?_⟩) (fun _ => trivial) hT0 ?_
            rotate_left
            · (intro w hSw; (try dsimp only at hSw); go_simp); try with_reducible rfl
            try simp only [Act.put, List.setIfInBounds_toArray, List.set_cons_zero, List.set_cons_succ]
            refine wpAnyT_take' (i := 8) (some 181) (v := ?_) rfl rfl (by kernel_rfl) (by kernel_rfl) (by kernel_rfl) (by decide) (fun _ _ _ h => h) (Or.inl ⟨by rfl, ?_⟩) (fun _ => trivial) hT0 ?_
            rotate_left
            · (intro w hSw; (try dsimp only at hSw); go_simp); try with_reducible rfl
            try simp only [Act.put, List.setIfInBounds_toArray, List.set_cons_zero, List.set_cons_succ]
            refine wpAnyT_take' (i := 9) (some 182) (v := ?_) rfl rfl (by kernel_rfl) (by kernel_rfl) (by kernel_rfl) (by decide) (fun _ _ _ h => h) (Or.inl ⟨by rfl, ?_⟩) (fun _ => trivial) hT0 ?_
            rotate_left
            · (intro w hSw; (try dsimp only at hSw); go_simp); try with_reducible rfl
            try simp only [Act.put, List.setIfInBounds_toArray, List.set_cons_zero, List.set_cons_succ]
            refine wpAnyT_take' (i := 11) (some 184) (v := ?_) rfl rfl (by kernel_rfl) (by kernel_rfl) (by kernel_rfl) (by decide) (fun _ _ _ h => h) (Or.inl ⟨by rfl, ?_⟩) (fun _ => trivial) hT0 ?_
            rotate_left
            · (intro w hSw; (try dsimp only at hSw); go_simp); try with_reducible rfl
            try simp only [Act.put, List.setIfInBounds_toArray, List.set_cons_zero, List.set_cons_succ]
            refine wpAnyT_take' (i := 12) (some 185) (v := ?_) rfl rfl (by kernel_rfl) (by kernel_rfl) (by kernel_rfl) (by decide) (fun _ _ _ h => h) (Or.inl ⟨by rfl, ?_⟩) (fun _ => trivial) hT0 ?_
            rotate_left
            · (intro w hSw; (try dsimp only at hSw); go_simp); try with_reducible rfl
            try simp only [Act.put, List.setIfInBounds_toArray, List.set_cons_zero, List.set_cons_succ]
            refine wpAnyT_take' (i := 13) (some 186) (v := ?_) rfl rfl (by kernel_rfl) (by kernel_rfl) (by kernel_rfl) (by decide) (fun _ _ _ h => h) (Or.inl ⟨by rfl, ?_⟩) (fun _ => trivial) hT0 ?_
            rotate_left
            · (intro w hSw; (try dsimp only at hSw); go_simp); try with_reducible rfl
            try simp only [Act.put, List.setIfInBounds_toArray, List.set_cons_zero, List.set_cons_succ]
            refine wpAnyT_take' (i := 14) (some 187) (v := ?_) rfl rfl (by kernel_rfl) (by kernel_rfl) (by kernel_rfl) (by decide) (fun _ _ _ h => h) (Or.inl ⟨by rfl, ?_⟩) (fun _ => trivial) hT0 ?_
            rotate_left
            · (intro w hSw; (try dsimp only at hSw); go_simp); try with_reducible rfl
            try simp only [Act.put, List.setIfInBounds_toArray, List.set_cons_zero, List.set_cons_succ]
            refine wpAnyT_take' (i := 15) (some 188) (v := ?_) rfl rfl (by kernel_rfl) (by kernel_rfl) (by kernel_rfl) (by decide) (fun _ _ _ h => h) (Or.inl ⟨by rfl, ?_⟩) (fun _ => trivial) hT0 ?_
            rotate_left
            · (intro w hSw; (try dsimp only at hSw); go_simp); try with_reducible rfl
            try simp only [Act.put, List.setIfInBounds_toArray, List.set_cons_zero, List.set_cons_succ]
            refine wpAnyT_one (i := 10) (by kernel_rfl) rfl (fun K hK => ?_)
            go_simp
            refine (len_yes (HD2.out.more (Ext.refl _).drew).one).mono ?_
            rintro e w8 ⟨rfl, rfl⟩
            try simp only []
            refine hK _ _ (fun _ => trivial) hT0 ?_
            clear hK K
            try simp only [Act.put, List.setIfInBounds_toArray, List.set_cons_zero, List.set_cons_succ]
            refine wpAnyT_take' (i := 16) (some 189) (v := ?_) rfl rfl (by kernel_rfl) (by kernel_rfl) (by kernel_rfl) (by decide) (fun _ _ _ h => h) (Or.inl ⟨by rfl, ?_⟩) (fun _ => trivial) hT0 ?_
            rotate_left
            · (intro w hSw; (try dsimp only at hSw); go_simp); try with_reducible rfl
            try simp only [Act.put, List.setIfInBounds_toArray, List.set_cons_zero, List.set_cons_succ]
            refine wpAnyT_take' (i := 17) (some 190) (v := ?_) rfl rfl (by kernel_rfl) (by kernel_rfl) (by kernel_rfl) (by decide) (fun _ _ _ h => h) (Or.inl ⟨by rfl, ?_⟩) (fun _ => trivial) hT0 ?_
            rotate_left
            · (intro w hSw; (try dsimp only at hSw); go_simp); try with_reducible rfl
            try simp only [Act.put, List.setIfInBounds_toArray, List.set_cons_zero, List.set_cons_succ]
            refine wpAnyT_done (by kernel_rfl) ?_ _
            try simp only [Act.put, List.setIfInBounds_toArray, List.set_cons_zero, List.set_cons_succ]
            clear hT0 y2
            go_wp2
            go_roundw
            case rel => exact ⟨j + 1, by omega, by go_num, _, _, _, _, HD2.out.more (Ext.refl _).drew, HSM2.out⟩
            case measure => simp [intOf]; omega
          · have Hm := Lib.hid hm
            go_wp2_with fail
            refine (num_all _ _ _ _ _ _ _ g a1 a2 n1 c1 n2 c2 nn dd _ HD.out.one (HI.out.1.ext HD.out.ext) (HI.out.2.1.ext HD.out.ext) HI.out.2.2.1 HI.out.2.2.2).mono ?_
            rintro e w5 hres
            obtain ⟨R, hR⟩ : ∃ R, R = numR b L g nn dd := ⟨_, rfl⟩
            have HSM2 := Lib.hid (sm_num (b := b) (g := g) HSM.out HSn.out.1 HSn.out.2)
            rw [← hR] at hres HSM2
            have HR := Lib.hid hR
            clear hR
            obtain ⟨r1', rfl, hO, hv⟩ := HD.out.left hres
            have hH2 := HH.out.mv hv
            have HO := Lib.hid hO
            clear hres hv hO d0 d1 d2 d3 d4 d5 d6 hm
            have d0 : w5.cell? ⟨xb, 0, none⟩ = some (.int .u8 p) := hH2.cell rfl
            have d1 : w5.cell? ⟨xb, 1, none⟩ = some (.int .u8 q) := hH2.cell rfl
            have d2 : w5.cell? ⟨xb, 2, none⟩ = some (.int .i64 A) := hH2.cell rfl
            have d3 : w5.cell? ⟨xb, 3, none⟩ = some (.int .i64 B) := hH2.cell rfl
            have d4 : w5.cell? ⟨xb, 4, none⟩ = some (.bool g) := hH2.cell rfl
            have d5 : w5.cell? ⟨xb, 5, none⟩ = some (.slice a1 n1 c1) := hH2.cell rfl
            have d6 : w5.cell? ⟨xb, 6, none⟩ = some (.slice a2 n2 c2) := hH2.cell rfl
            go_wp2_with fail
            refine (rnum_any _ _ _ _ _ _ g a1 a2 n1 c1 n2 c2 nn dd _ HO.out.two (HI.out.1.ext HO.out.ext) (HI.out.2.1.ext HO.out.ext) HSn.out.1 HSn.out.2).mono ?_
            rintro e w6 hres2
            rw [← HR.out] at hres2
            obtain ⟨i, er, L'⟩ := R
            simp only at hres2 HO HSM2
            obtain ⟨r2', rfl, hD2, _⟩ := HO.out.right hres2
            have HD2 := Lib.hid hD2
            clear hres2 hD2 hH2 d0 d1 d2 d3 d4 d5 d6 HR HO HD HH
            obtain ⟨ra, rc, hr2, hrs2⟩ := HD2.out.two.rowSteps
            have y2 := HD2.out.two.c2
            rw [hr2] at y2
            have hf2 := hrs2.few
            clear hr2 hrs2
            go_wp2_with fail
            refine wp_region_T (fun _ => True) (fun w' : World => w'.cell? ⟨qb, 2, none⟩ = some (.slice ra L'.length rc)) 99 18 (by rfl) (by kernel_rfl) ?_
            have hT0 : w6.drew.cell? ⟨qb, 2, none⟩ = some (.slice ra L'.length rc) := y2
            refine wpAnyT_take' (i := 0) (some 173) (v := ?_) rfl rfl (by kernel_rfl) (by kernel_rfl) (by kernel_rfl) (by decide) (fun _ _ _ h => h) (Or.inl ⟨by rfl, ?_⟩) (fun _ => trivial) hT0 ?_
            rotate_left
            · (intro w hSw; (try dsimp only at hSw); go_simp); try with_reducible rfl
            try simp only [Act.put, List.setIfInBounds_toArray, List.set_cons_zero, List.set_cons_succ]
            refine wpAnyT_take' (i := 1) (some 174) (v := ?_) rfl rfl (by kernel_rfl) (by kernel_rfl) (by kernel_rfl) (by decide) (fun _ _ _ h => h) (Or.inl ⟨by rfl, ?_⟩) (fun _ => trivial) hT0 ?_
            rotate_left
            · (intro w hSw; (try dsimp only at hSw); go_simp); try with_reducible rfl
            try simp only [Act.put, List.setIfInBounds_toArray, List.set_cons_zero, List.set_cons_succ]
            refine wpAnyT_take' (i := 2) (some 175) (v := ?_) rfl rfl (by kernel_rfl) (by kernel_rfl) (by kernel_rfl) (by decide) (fun _ _ _ h => h) (Or.inl ⟨by rfl, ?_⟩) (fun _ => trivial) hT0 ?_
            rotate_left
            · (intro w hSw; (try dsimp only at hSw); go_simp); try with_reducible rfl
            try simp only [Act.put, List.setIfInBounds_toArray, List.set_cons_zero, List.set_cons_succ]
            refine wpAnyT_take' (i := 3) (some 176) (v := ?_) rfl rfl (by kernel_rfl) (by kernel_rfl) (by kernel_rfl) (by decide) (fun _ _ _ h => h) (Or.inl ⟨by rfl, ?_⟩) (fun _ => trivial) hT0 ?_
            rotate_left
            · (intro w hSw; (try dsimp only at hSw); go_simp); try with_reducible rfl
            try simp only [Act.put, List.setIfInBounds_toArray, List.set_cons_zero, List.set_cons_succ]
            refine wpAnyT_take' (i := 4) (some 177) (v := ?_) rfl rfl (by kernel_rfl) (by kernel_rfl) (by kernel_rfl) (by decide) (fun _ _ _ h => h) (Or.inl ⟨by rfl, ?_⟩) (fun _ => trivial) hT0 ?_
            rotate_left
            · (intro w hSw; (try dsimp only at hSw); go_simp); try with_reducible rfl
            try simp only [Act.put, List.setIfInBounds_toArray, List.set_cons_zero, List.set_cons_succ]
            refine wpAnyT_take' (i := 5) (some 178) (v := ?_) rfl rfl (by kernel_rfl) (by kernel_rfl) (by kernel_rfl) (by decide) (fun _ _ _ h => h) (Or.inl ⟨by rfl, ?_⟩) (fun _ => trivial) hT0 ?_
            rotate_left
            · (intro w hSw; (try dsimp only at hSw); go_simp); try with_reducible rfl
            try simp only [Act.put, List.setIfInBounds_toArray, List.set_cons_zero, List.set_cons_succ]
            refine wpAnyT_take' (i := 6) (some 179) (v := ?_) rfl rfl (by kernel_rfl) (by kernel_rfl) (by kernel_rfl) (by decide) (fun _ _ _ h => h) (Or.inl ⟨by rfl, ?_⟩) (fun _ => trivial) hT0 ?_
            rotate_left
            · (intro w hSw; (try dsimp only at hSw); go_simp); try with_reducible rfl
            try simp only [Act.put, List.setIfInBounds_toArray, List.set_cons_zero, List.set_cons_succ]
            refine wpAnyT_take' (i := 7) (some 180) (v := ?_) rfl rfl (by kernel_rfl) (by kernel_rfl) (by kernel_rfl) (by decide) (fun _ _ _ h => h) (Or.inl ⟨by rfl, ?_⟩) (fun _ => trivial) hT0 ?_
            rotate_left
            · (intro w hSw; (try dsimp only at hSw); go_simp); try with_reducible rfl
            try simp only [Act.put, List.setIfInBounds_toArray, List.set_cons_zero, List.set_cons_succ]
            refine wpAnyT_take' (i := 8) (some 181) (v := ?_) rfl rfl (by kernel_rfl) (by kernel_rfl) (by kernel_rfl) (by decide) (fun _ _ _ h => h) (Or.inl ⟨by rfl, ?_⟩) (fun _ => trivial) hT0 ?_
            rotate_left
            · (intro w hSw; (try dsimp only at hSw); go_simp); try with_reducible rfl
            try simp only [Act.put, List.setIfInBounds_toArray, List.set_cons_zero, List.set_cons_succ]
            refine wpAnyT_take' (i := 9) (some 182) (v := ?_) rfl rfl (by kernel_rfl) (by kernel_rfl) (by kernel_rfl) (by decide) (fun _ _ _ h => h) (Or.inl ⟨by rfl, ?_⟩) (fun _ => trivial) hT0 ?_
            rotate_left
            · (intro w hSw; (try dsimp only at hSw); go_simp); try with_reducible rfl
            try simp only [Act.put, List.setIfInBounds_toArray, List.set_cons_zero, List.set_cons_succ]
            refine wpAnyT_take' (i := 11) (some 184) (v := ?_) rfl rfl (by kernel_rfl) (by kernel_rfl) (by kernel_rfl) (by decide) (fun _ _ _ h => h) (Or.inl ⟨by rfl, ?_⟩) (fun _ => trivial) hT0 ?_
            rotate_left
            · (intro w hSw; (try dsimp only at hSw); go_simp); try with_reducible rfl
            try simp only [Act.put, List.setIfInBounds_toArray, List.set_cons_zero, List.set_cons_succ]
            refine wpAnyT_take' (i := 12) (some 185) (v := ?_) rfl rfl (by kernel_rfl) (by kernel_rfl) (by kernel_rfl) (by decide) (fun _ _ _ h => h) (Or.inl ⟨by rfl, ?_⟩) (fun _ => trivial) hT0 ?_
            rotate_left
            · (intro w hSw; (try dsimp only at hSw); go_simp); try with_reducible rfl
            try simp only [Act.put, List.setIfInBounds_toArray, List.set_cons_zero, List.set_cons_succ]
            refine wpAnyT_take' (i := 13) (some 186) (v := ?_) rfl rfl (by kernel_rfl) (by kernel_rfl) (by kernel_rfl) (by decide) (fun _ _ _ h => h) (Or.inl ⟨by rfl, ?_⟩) (fun _ => trivial) hT0 ?_
            rotate_left
            · (intro w hSw; (try dsimp only at hSw); go_simp); try with_reducible rfl
            try simp only [Act.put, List.setIfInBounds_toArray, List.set_cons_zero, List.set_cons_succ]
            refine wpAnyT_take' (i := 14) (some 187) (v := ?_) rfl rfl (by kernel_rfl) (by kernel_rfl) (by kernel_rfl) (by decide) (fun _ _ _ h => h) (Or.inl ⟨by rfl, ?_⟩) (fun _ => trivial) hT0 ?_
            rotate_left
            · (intro w hSw; (try dsimp only at hSw); go_simp); try with_reducible rfl
            try simp only [Act.put, List.setIfInBounds_toArray, List.set_cons_zero, List.set_cons_succ]
            refine wpAnyT_take' (i := 15) (some 188) (v := ?_) rfl rfl (by kernel_rfl) (by kernel_rfl) (by kernel_rfl) (by decide) (fun _ _ _ h => h) (Or.inl ⟨by rfl, ?_⟩) (fun _ => trivial) hT0 ?_
            rotate_left
            · (intro w hSw; (try dsimp only at hSw); go_simp); try with_reducible rfl
            try simp only [Act.put, List.setIfInBounds_toArray, List.set_cons_zero, List.set_cons_succ]
            refine wpAnyT_one (i := 10) (by kernel_rfl) rfl (fun K hK => ?_)
            go_simp
            refine (len_yes (HD2.out.more (Ext.refl _).drew).one).mono ?_
            rintro e w8 ⟨rfl, rfl⟩
            try simp only []
            refine hK _ _ (fun _ => trivial) hT0 ?_
            clear hK K
            try simp only [Act.put, List.setIfInBounds_toArray, List.set_cons_zero, List.set_cons_succ]
            refine wpAnyT_take' (i := 16) (some 189) (v := ?_) rfl rfl (by kernel_rfl) (by kernel_rfl) (by kernel_rfl) (by decide) (fun _ _ _ h => h) (Or.inl ⟨by rfl, ?_⟩) (fun _ => trivial) hT0 ?_
            rotate_left
            · (intro w hSw; (try dsimp only at hSw); go_simp); try with_reducible rfl
            try simp only [Act.put, List.setIfInBounds_toArray, List.set_cons_zero, List.set_cons_succ]
            refine wpAnyT_take' (i := 17) (some 190) (v := ?_) rfl rfl (by kernel_rfl) (by kernel_rfl) (by kernel_rfl) (by decide) (fun _ _ _ h => h) (Or.inl ⟨by rfl, ?_⟩) (fun _ => trivial) hT0 ?_
            rotate_left
            · (intro w hSw; (try dsimp only at hSw); go_simp); try with_reducible rfl
            try simp only [Act.put, List.setIfInBounds_toArray, List.set_cons_zero, List.set_cons_succ]
            refine wpAnyT_done (by kernel_rfl) ?_ _
            try simp only [Act.put, List.setIfInBounds_toArray, List.set_cons_zero, List.set_cons_succ]
            clear hT0 y2
            go_wp2
            go_roundw
            case rel => exact ⟨j + 1, by omega, by go_num, _, _, _, _, HD2.out.more (Ext.refl _).drew, HSM2.out⟩
            case measure => simp [intOf]; omega
          · have Hm := Lib.hid hm
            go_wp2_with fail
            refine (par_any _ _ _ _ _ _ _ _ HD.out.one).mono ?_
            rintro e w5 hres
            obtain ⟨R, hR⟩ : ∃ R, R = parR b pars L := ⟨_, rfl⟩
            have HSM2 := Lib.hid (sm_par (b := b) (pars := pars) HSM.out)
            rw [← hR] at hres HSM2
            have HR := Lib.hid hR
            clear hR
            obtain ⟨r1', rfl, hO, hv⟩ := HD.out.left hres
            have hH2 := HH.out.mv hv
            have HO := Lib.hid hO
            clear hres hv hO d0 d1 d2 d3 d4 d5 d6 hm
            have d0 : w5.cell? ⟨xb, 0, none⟩ = some (.int .u8 p) := hH2.cell rfl
            have d1 : w5.cell? ⟨xb, 1, none⟩ = some (.int .u8 q) := hH2.cell rfl
            have d2 : w5.cell? ⟨xb, 2, none⟩ = some (.int .i64 A) := hH2.cell rfl
            have d3 : w5.cell? ⟨xb, 3, none⟩ = some (.int .i64 B) := hH2.cell rfl
            have d4 : w5.cell? ⟨xb, 4, none⟩ = some (.bool g) := hH2.cell rfl
            have d5 : w5.cell? ⟨xb, 5, none⟩ = some (.slice a1 n1 c1) := hH2.cell rfl
            have d6 : w5.cell? ⟨xb, 6, none⟩ = some (.slice a2 n2 c2) := hH2.cell rfl
            go_wp2_with fail
            refine (rpar_any _ _ _ _ _ _ _ HO.out.two).mono ?_
            rintro e w6 hres2
            rw [← HR.out] at hres2
            obtain ⟨i, er, p', L'⟩ := R
            simp only at hres2 HO HSM2
            obtain ⟨r2', rfl, hD2, _⟩ := HO.out.right' hres2
            have HD2 := Lib.hid hD2
            clear hres2 hD2 hH2 d0 d1 d2 d3 d4 d5 d6 HR HO HD HH
            obtain ⟨ra, rc, hr2, hrs2⟩ := HD2.out.two.rowSteps
            have y2 := HD2.out.two.c2
            rw [hr2] at y2
            have hf2 := hrs2.few
            clear hr2 hrs2
            go_wp2_with fail
            refine wp_region_T (fun _ => True) (fun w' : World => w'.cell? ⟨qb, 2, none⟩ = some (.slice ra L'.length rc)) 99 18 (by rfl) (by kernel_rfl) ?_
            have hT0 : w6.drew.cell? ⟨qb, 2, none⟩ = some (.slice ra L'.length rc) := y2
            refine wpAnyT_take' (i := 0) (some 173) (v := ?_) rfl rfl (by kernel_rfl) (by kernel_rfl) (by kernel_rfl) (by decide) (fun _ _ _ h => h) (Or.inl ⟨by rfl, ?_⟩) (fun _ => trivial) hT0 ?_
            rotate_left
            · (intro w hSw; (try dsimp only at hSw); go_simp); try with_reducible rfl
            try simp only [Act.put, List.setIfInBounds_toArray, List.set_cons_zero, List.set_cons_succ]
            refine wpAnyT_take' (i := 1) (some 174) (v := ?_) rfl rfl (by kernel_rfl) (by kernel_rfl) (by kernel_rfl) (by decide) (fun _ _ _ h => h) (Or.inl ⟨by rfl, ?_⟩) (fun _ => trivial) hT0 ?_
            rotate_left
            · (intro w hSw; (try dsimp only at hSw); go_simp); try with_reducible rfl
            try simp only [Act.put, List.setIfInBounds_toArray, List.set_cons_zero, List.set_cons_succ]
            refine wpAnyT_take' (i := 2) (some 175) (v := ?_) rfl rfl (by kernel_rfl) (by kernel_rfl) (by kernel_rfl) (by decide) (fun _ _ _ h => h) (Or.inl ⟨by rfl, ?_⟩) (fun _ => trivial) hT0 ?_
            rotate_left
            · (intro w hSw; (try dsimp only at hSw); go_simp); try with_reducible rfl
            try simp only [Act.put, List.setIfInBounds_toArray, List.set_cons_zero, List.set_cons_succ]
            refine wpAnyT_take' (i := 3) (some 176) (v := ?_) rfl rfl (by kernel_rfl) (by kernel_rfl) (by kernel_rfl) (by decide) (fun _ _ _ h => h) (Or.inl ⟨by rfl, ?_⟩) (fun _ => trivial) hT0 ?_
            rotate_left
            · (intro w hSw; (try dsimp only at hSw); go_simp); try with_reducible rfl
            try simp only [Act.put, List.setIfInBounds_toArray, List.set_cons_zero, List.set_cons_succ]
            refine wpAnyT_take' (i := 4) (some 177) (v := ?_) rfl rfl (by kernel_rfl) (by kernel_rfl) (by kernel_rfl) (by decide) (fun _ _ _ h => h) (Or.inl ⟨by rfl, ?_⟩) (fun _ => trivial) hT0 ?_
            rotate_left
            · (intro w hSw; (try dsimp only at hSw); go_simp); try with_reducible rfl
            try simp only [Act.put, List.setIfInBounds_toArray, List.set_cons_zero, List.set_cons_succ]
            refine wpAnyT_take' (i := 5) (some 178) (v := ?_) rfl rfl (by kernel_rfl) (by kernel_rfl) (by kernel_rfl) (by decide) (fun _ _ _ h => h) (Or.inl ⟨by rfl, ?_⟩) (fun _ => trivial) hT0 ?_
            rotate_left
            · (intro w hSw; (try dsimp only at hSw); go_simp); try with_reducible rfl
            try simp only [Act.put, List.setIfInBounds_toArray, List.set_cons_zero, List.set_cons_succ]
            refine wpAnyT_take' (i := 6) (some 179) (v := ?_) rfl rfl (by kernel_rfl) (by kernel_rfl) (by kernel_rfl) (by decide) (fun _ _ _ h => h) (Or.inl ⟨by rfl, ?_⟩) (fun _ => trivial) hT0 ?_
            rotate_left
            · (intro w hSw; (try dsimp only at hSw); go_simp); try with_reducible rfl
            try simp only [Act.put, List.setIfInBounds_toArray, List.set_cons_zero, List.set_cons_succ]
            refine wpAnyT_take' (i := 7) (some 180) (v := ?_) rfl rfl (by kernel_rfl) (by kernel_rfl) (by kernel_rfl) (by decide) (fun _ _ _ h => h) (Or.inl ⟨by rfl, ?_⟩) (fun _ => trivial) hT0 ?_
            rotate_left
            · (intro w hSw; (try dsimp only at hSw); go_simp); try with_reducible rfl
            try simp only [Act.put, List.setIfInBounds_toArray, List.set_cons_zero, List.set_cons_succ]
            refine wpAnyT_take' (i := 8) (some 181) (v := ?_) rfl rfl (by kernel_rfl) (by kernel_rfl) (by kernel_rfl) (by decide) (fun _ _ _ h => h) (Or.inl ⟨by rfl, ?_⟩) (fun _ => trivial) hT0 ?_
            rotate_left
            · (intro w hSw; (try dsimp only at hSw); go_simp); try with_reducible rfl
            try simp only [Act.put, List.setIfInBounds_toArray, List.set_cons_zero, List.set_cons_succ]
            refine wpAnyT_take' (i := 9) (some 182) (v := ?_) rfl rfl (by kernel_rfl) (by kernel_rfl) (by kernel_rfl) (by decide) (fun _ _ _ h => h) (Or.inl ⟨by rfl, ?_⟩) (fun _ => trivial) hT0 ?_
            rotate_left
            · (intro w hSw; (try dsimp only at hSw); go_simp); try with_reducible rfl
            try simp only [Act.put, List.setIfInBounds_toArray, List.set_cons_zero, List.set_cons_succ]
            refine wpAnyT_take' (i := 11) (some 184) (v := ?_) rfl rfl (by kernel_rfl) (by kernel_rfl) (by kernel_rfl) (by decide) (fun _ _ _ h => h) (Or.inl ⟨by rfl, ?_⟩) (fun _ => trivial) hT0 ?_
            rotate_left
            · (intro w hSw; (try dsimp only at hSw); go_simp); try with_reducible rfl
            try simp only [Act.put, List.setIfInBounds_toArray, List.set_cons_zero, List.set_cons_succ]
            refine wpAnyT_take' (i := 12) (some 185) (v := ?_) rfl rfl (by kernel_rfl) (by kernel_rfl) (by kernel_rfl) (by decide) (fun _ _ _ h => h) (Or.inl ⟨by rfl, ?_⟩) (fun _ => trivial) hT0 ?_
            rotate_left
            · (intro w hSw; (try dsimp only at hSw); go_simp); try with_reducible rfl
            try simp only [Act.put, List.setIfInBounds_toArray, List.set_cons_zero, List.set_cons_succ]
            refine wpAnyT_take' (i := 13) (some 186) (v := ?_) rfl rfl (by kernel_rfl) (by kernel_rfl) (by kernel_rfl) (by decide) (fun _ _ _ h => h) (Or.inl ⟨by rfl, ?_⟩) (fun _ => trivial) hT0 ?_
            rotate_left
            · (intro w hSw; (try dsimp only at hSw); go_simp); try with_reducible rfl
            try simp only [Act.put, List.setIfInBounds_toArray, List.set_cons_zero, List.set_cons_succ]
            refine wpAnyT_take' (i := 14) (some 187) (v := ?_) rfl rfl (by kernel_rfl) (by kernel_rfl) (by kernel_rfl) (by decide) (fun _ _ _ h => h) (Or.inl ⟨by rfl, ?_⟩) (fun _ => trivial) hT0 ?_
            rotate_left
            · (intro w hSw; (try dsimp only at hSw); go_simp); try with_reducible rfl
            try simp only [Act.put, List.setIfInBounds_toArray, List.set_cons_zero, List.set_cons_succ]
            refine wpAnyT_take' (i := 15) (some 188) (v := ?_) rfl rfl (by kernel_rfl) (by kernel_rfl) (by kernel_rfl) (by decide) (fun _ _ _ h => h) (Or.inl ⟨by rfl, ?_⟩) (fun _ => trivial) hT0 ?_
            rotate_left
            · (intro w hSw; (try dsimp only at hSw); go_simp); try with_reducible rfl
            try simp only [Act.put, List.setIfInBounds_toArray, List.set_cons_zero, List.set_cons_succ]
            refine wpAnyT_one (i := 10) (by kernel_rfl) rfl (fun K hK => ?_)
            go_simp
            refine (len_yes (HD2.out.more (Ext.refl _).drew).one).mono ?_
            rintro e w8 ⟨rfl, rfl⟩
            try simp only []
            refine hK _ _ (fun _ => trivial) hT0 ?_
            clear hK K
            try simp only [Act.put, List.setIfInBounds_toArray, List.set_cons_zero, List.set_cons_succ]
            refine wpAnyT_take' (i := 16) (some 189) (v := ?_) rfl rfl (by kernel_rfl) (by kernel_rfl) (by kernel_rfl) (by decide) (fun _ _ _ h => h) (Or.inl ⟨by rfl, ?_⟩) (fun _ => trivial) hT0 ?_
            rotate_left
            · (intro w hSw; (try dsimp only at hSw); go_simp); try with_reducible rfl
            try simp only [Act.put, List.setIfInBounds_toArray, List.set_cons_zero, List.set_cons_succ]
            refine wpAnyT_take' (i := 17) (some 190) (v := ?_) rfl rfl (by kernel_rfl) (by kernel_rfl) (by kernel_rfl) (by decide) (fun _ _ _ h => h) (Or.inl ⟨by rfl, ?_⟩) (fun _ => trivial) hT0 ?_
            rotate_left
            · (intro w hSw; (try dsimp only at hSw); go_simp); try with_reducible rfl
            try simp only [Act.put, List.setIfInBounds_toArray, List.set_cons_zero, List.set_cons_succ]
            refine wpAnyT_done (by kernel_rfl) ?_ _
            try simp only [Act.put, List.setIfInBounds_toArray, List.set_cons_zero, List.set_cons_succ]
            clear hT0 y2
            go_wp2
            go_roundw
            case rel => exact ⟨j + 1, by omega, by go_num, _, _, _, _, HD2.out.more (Ext.refl _).drew, HSM2.out⟩
            case measure => simp [intOf]; omega
          · have Hm := Lib.hid hm
            go_wp2_with fail
            refine (one_any _ _ _ _ _ _ _ q A _ HD.out.one HQ.out.2.1 HQ.out.2.2.1).mono ?_
            rintro e w5 hres
            obtain ⟨R, hR⟩ : ∃ R, R = stepR b pars L (opStep q A 0) 4 := ⟨_, rfl⟩
            have HSM2 := Lib.hid (sm_step (b := b) (pars := pars) (k := 4) HSM.out (op := q) (x := A) (y := 0))
            rw [← hR] at hres HSM2
            have HR := Lib.hid hR
            clear hR
            obtain ⟨r1', rfl, hO, hv⟩ := HD.out.left hres
            have hH2 := HH.out.mv hv
            have HO := Lib.hid hO
            clear hres hv hO d0 d1 d2 d3 d4 d5 d6 hm
            have d0 : w5.cell? ⟨xb, 0, none⟩ = some (.int .u8 p) := hH2.cell rfl
            have d1 : w5.cell? ⟨xb, 1, none⟩ = some (.int .u8 q) := hH2.cell rfl
            have d2 : w5.cell? ⟨xb, 2, none⟩ = some (.int .i64 A) := hH2.cell rfl
            have d3 : w5.cell? ⟨xb, 3, none⟩ = some (.int .i64 B) := hH2.cell rfl
            have d4 : w5.cell? ⟨xb, 4, none⟩ = some (.bool g) := hH2.cell rfl
            have d5 : w5.cell? ⟨xb, 5, none⟩ = some (.slice a1 n1 c1) := hH2.cell rfl
            have d6 : w5.cell? ⟨xb, 6, none⟩ = some (.slice a2 n2 c2) := hH2.cell rfl
            go_wp2_with fail
            refine (rone17_any _ _ _ _ _ _ q A _ HO.out.two HQ.out.2.1).mono ?_
            rintro e w6 hres2
            rw [← HR.out] at hres2
            obtain ⟨i, er, L'⟩ := R
            simp only at hres2 HO HSM2
            obtain ⟨r2', rfl, hD2, _⟩ := HO.out.right hres2
            have HD2 := Lib.hid hD2
            clear hres2 hD2 hH2 d0 d1 d2 d3 d4 d5 d6 HR HO HD HH
            obtain ⟨ra, rc, hr2, hrs2⟩ := HD2.out.two.rowSteps
            have y2 := HD2.out.two.c2
            rw [hr2] at y2
            have hf2 := hrs2.few
            clear hr2 hrs2
            go_wp2_with fail
            refine wp_region_T (fun _ => True) (fun w' : World => w'.cell? ⟨qb, 2, none⟩ = some (.slice ra L'.length rc)) 99 18 (by rfl) (by kernel_rfl) ?_
            have hT0 : w6.drew.cell? ⟨qb, 2, none⟩ = some (.slice ra L'.length rc) := y2
            refine wpAnyT_take' (i := 0) (some 173) (v := ?_) rfl rfl (by kernel_rfl) (by kernel_rfl) (by kernel_rfl) (by decide) (fun _ _ _ h => h) (Or.inl ⟨by rfl, ?_⟩) (fun _ => trivial) hT0 ?_
            rotate_left
            · (intro w hSw; (try dsimp only at hSw); go_simp); try with_reducible rfl
            try simp only [Act.put, List.setIfInBounds_toArray, List.set_cons_zero, List.set_cons_succ]
            refine wpAnyT_take' (i := 1) (some 174) (v := ?_) rfl rfl (by kernel_rfl) (by kernel_rfl) (by kernel_rfl) (by decide) (fun _ _ _ h => h) (Or.inl ⟨by rfl, ?_⟩) (fun _ => trivial) hT0 ?_
            rotate_left
            · (intro w hSw; (try dsimp only at hSw); go_simp); try with_reducible rfl
            try simp only [Act.put, List.setIfInBounds_toArray, List.set_cons_zero, List.set_cons_succ]
            refine wpAnyT_take' (i := 2) (some 175) (v := ?_) rfl rfl (by kernel_rfl) (by kernel_rfl) (by kernel_rfl) (by decide) (fun _ _ _ h => h) (Or.inl ⟨by rfl, ?_⟩) (fun _ => trivial) hT0 ?_
            rotate_left
            · (intro w hSw; (try dsimp only at hSw); go_simp); try with_reducible rfl
            try simp only [Act.put, List.setIfInBounds_toArray, List.set_cons_zero, List.set_cons_succ]
            refine wpAnyT_take' (i := 3) (some 176) (v := ?_) rfl rfl (by kernel_rfl) (by kernel_rfl) (by kernel_rfl) (by decide) (fun _ _ _ h => h) (Or.inl ⟨by rfl, ?_⟩) (fun _ => trivial) hT0 ?_
            rotate_left
            · (intro w hSw; (try dsimp only at hSw); go_simp); try with_reducible rfl
            try simp only [Act.put, List.setIfInBounds_toArray, List.set_cons_zero, List.set_cons_succ]
            refine wpAnyT_take' (i := 4) (some 177) (v := ?_) rfl rfl (by kernel_rfl) (by kernel_rfl) (by kernel_rfl) (by decide) (fun _ _ _ h => h) (Or.inl ⟨by rfl, ?_⟩) (fun _ => trivial) hT0 ?_
            rotate_left
            · (intro w hSw; (try dsimp only at hSw); go_simp); try with_reducible rfl
            try simp only [Act.put, List.setIfInBounds_toArray, List.set_cons_zero, List.set_cons_succ]
            refine wpAnyT_take' (i := 5) (some 178) (v := ?_) rfl rfl (by kernel_rfl) (by kernel_rfl) (by kernel_rfl) (by decide) (fun _ _ _ h => h) (Or.inl ⟨by rfl, ?_⟩) (fun _ => trivial) hT0 ?_
            rotate_left
            · (intro w hSw; (try dsimp only at hSw); go_simp); try with_reducible rfl
            try simp only [Act.put, List.setIfInBounds_toArray, List.set_cons_zero, List.set_cons_succ]
            refine wpAnyT_take' (i := 6) (some 179) (v := ?_) rfl rfl (by kernel_rfl) (by kernel_rfl) (by kernel_rfl) (by decide) (fun _ _ _ h => h) (Or.inl ⟨by rfl, ?_⟩) (fun _ => trivial) hT0 ?_
            rotate_left
            · (intro w hSw; (try dsimp only at hSw); go_simp); try with_reducible rfl
            try simp only [Act.put, List.setIfInBounds_toArray, List.set_cons_zero, List.set_cons_succ]
            refine wpAnyT_take' (i := 7) (some 180) (v := ?_) rfl rfl (by kernel_rfl) (by kernel_rfl) (by kernel_rfl) (by decide) (fun _ _ _ h => h) (Or.inl ⟨by rfl, ?_⟩) (fun _ => trivial) hT0 ?_
            rotate_left
            · (intro w hSw; (try dsimp only at hSw); go_simp); try with_reducible rfl
            try simp only [Act.put, List.setIfInBounds_toArray, List.set_cons_zero, List.set_cons_succ]
            refine wpAnyT_take' (i := 8) (some 181) (v := ?_) rfl rfl (by kernel_rfl) (by kernel_rfl) (by kernel_rfl) (by decide) (fun _ _ _ h => h) (Or.inl ⟨by rfl, ?_⟩) (fun _ => trivial) hT0 ?_
            rotate_left
            · (intro w hSw; (try dsimp only at hSw); go_simp); try with_reducible rfl
            try simp only [Act.put, List.setIfInBounds_toArray, List.set_cons_zero, List.set_cons_succ]
            refine wpAnyT_take' (i := 9) (some 182) (v := ?_) rfl rfl (by kernel_rfl) (by kernel_rfl) (by kernel_rfl) (by decide) (fun _ _ _ h => h) (Or.inl ⟨by rfl, ?_⟩) (fun _ => trivial) hT0 ?_
            rotate_left
            · (intro w hSw; (try dsimp only at hSw); go_simp); try with_reducible rfl
            try simp only [Act.put, List.setIfInBounds_toArray, List.set_cons_zero, List.set_cons_succ]
            refine wpAnyT_take' (i := 11) (some 184) (v := ?_) rfl rfl (by kernel_rfl) (by kernel_rfl) (by kernel_rfl) (by decide) (fun _ _ _ h => h) (Or.inl ⟨by rfl, ?_⟩) (fun _ => trivial) hT0 ?_
            rotate_left
            · (intro w hSw; (try dsimp only at hSw); go_simp); try with_reducible rfl
            try simp only [Act.put, List.setIfInBounds_toArray, List.set_cons_zero, List.set_cons_succ]
            refine wpAnyT_take' (i := 12) (some 185) (v := ?_) rfl rfl (by kernel_rfl) (by kernel_rfl) (by kernel_rfl) (by decide) (fun _ _ _ h => h) (Or.inl ⟨by rfl, ?_⟩) (fun _ => trivial) hT0 ?_
            rotate_left
            · (intro w hSw; (try dsimp only at hSw); go_simp); try with_reducible rfl
            try simp only [Act.put, List.setIfInBounds_toArray, List.set_cons_zero, List.set_cons_succ]
            refine wpAnyT_take' (i := 13) (some 186) (v := ?_) rfl rfl (by kernel_rfl) (by kernel_rfl) (by kernel_rfl) (by decide) (fun _ _ _ h => h) (Or.inl ⟨by rfl, ?_⟩) (fun _ => trivial) hT0 ?_
            rotate_left
            · (intro w hSw; (try dsimp only at hSw); go_simp); try with_reducible rfl
            try simp only [Act.put, List.setIfInBounds_toArray, List.set_cons_zero, List.set_cons_succ]
            refine wpAnyT_take' (i := 14) (some 187) (v := ?_) rfl rfl (by kernel_rfl) (by kernel_rfl) (by kernel_rfl) (by decide) (fun _ _ _ h => h) (Or.inl ⟨by rfl, ?_⟩) (fun _ => trivial) hT0 ?_
            rotate_left
            · (intro w hSw; (try dsimp only at hSw); go_simp); try with_reducible rfl
            try simp only [Act.put, List.setIfInBounds_toArray, List.set_cons_zero, List.set_cons_succ]
            refine wpAnyT_take' (i := 15) (some 188) (v := ?_) rfl rfl (by kernel_rfl) (by kernel_rfl) (by kernel_rfl) (by decide) (fun _ _ _ h => h) (Or.inl ⟨by rfl, ?_⟩) (fun _ => trivial) hT0 ?_
            rotate_left
            · (intro w hSw; (try dsimp only at hSw); go_simp); try with_reducible rfl
            try simp only [Act.put, List.setIfInBounds_toArray, List.set_cons_zero, List.set_cons_succ]
            refine wpAnyT_one (i := 10) (by kernel_rfl) rfl (fun K hK => ?_)
            go_simp
            refine (len_yes (HD2.out.more (Ext.refl _).drew).one).mono ?_
            rintro e w8 ⟨rfl, rfl⟩
            try simp only []
            refine hK _ _ (fun _ => trivial) hT0 ?_
            clear hK K
            try simp only [Act.put, List.setIfInBounds_toArray, List.set_cons_zero, List.set_cons_succ]
            refine wpAnyT_take' (i := 16) (some 189) (v := ?_) rfl rfl (by kernel_rfl) (by kernel_rfl) (by kernel_rfl) (by decide) (fun _ _ _ h => h) (Or.inl ⟨by rfl, ?_⟩) (fun _ => trivial) hT0 ?_
            rotate_left
            · (intro w hSw; (try dsimp only at hSw); go_simp); try with_reducible rfl
            try simp only [Act.put, List.setIfInBounds_toArray, List.set_cons_zero, List.set_cons_succ]
            refine wpAnyT_take' (i := 17) (some 190) (v := ?_) rfl rfl (by kernel_rfl) (by kernel_rfl) (by kernel_rfl) (by decide) (fun _ _ _ h => h) (Or.inl ⟨by rfl, ?_⟩) (fun _ => trivial) hT0 ?_
            rotate_left
            · (intro w hSw; (try dsimp only at hSw); go_simp); try with_reducible rfl
            try simp only [Act.put, List.setIfInBounds_toArray, List.set_cons_zero, List.set_cons_succ]
            refine wpAnyT_done (by kernel_rfl) ?_ _
            try simp only [Act.put, List.setIfInBounds_toArray, List.set_cons_zero, List.set_cons_succ]
            clear hT0 y2
            go_wp2
            go_roundw
            case rel => exact ⟨j + 1, by omega, by go_num, _, _, _, _, HD2.out.more (Ext.refl _).drew, HSM2.out⟩
            case measure => simp [intOf]; omega
          · have Hm := Lib.hid hm
            go_wp2_with fail
            refine (one_any _ _ _ _ _ _ _ q A _ HD.out.one HQ.out.2.1 HQ.out.2.2.1).mono ?_
            rintro e w5 hres
            obtain ⟨R, hR⟩ : ∃ R, R = stepR b pars L (opStep q A 0) 4 := ⟨_, rfl⟩
            have HSM2 := Lib.hid (sm_step (b := b) (pars := pars) (k := 4) HSM.out (op := q) (x := A) (y := 0))
            rw [← hR] at hres HSM2
            have HR := Lib.hid hR
            clear hR
            obtain ⟨r1', rfl, hO, hv⟩ := HD.out.left hres
            have hH2 := HH.out.mv hv
            have HO := Lib.hid hO
            clear hres hv hO d0 d1 d2 d3 d4 d5 d6 hm
            have d0 : w5.cell? ⟨xb, 0, none⟩ = some (.int .u8 p) := hH2.cell rfl
            have d1 : w5.cell? ⟨xb, 1, none⟩ = some (.int .u8 q) := hH2.cell rfl
            have d2 : w5.cell? ⟨xb, 2, none⟩ = some (.int .i64 A) := hH2.cell rfl
            have d3 : w5.cell? ⟨xb, 3, none⟩ = some (.int .i64 B) := hH2.cell rfl
            have d4 : w5.cell? ⟨xb, 4, none⟩ = some (.bool g) := hH2.cell rfl
            have d5 : w5.cell? ⟨xb, 5, none⟩ = some (.slice a1 n1 c1) := hH2.cell rfl
            have d6 : w5.cell? ⟨xb, 6, none⟩ = some (.slice a2 n2 c2) := hH2.cell rfl
            go_wp2_with fail
            refine (rone17_any _ _ _ _ _ _ q A _ HO.out.two HQ.out.2.1).mono ?_
            rintro e w6 hres2
            rw [← HR.out] at hres2
            obtain ⟨i, er, L'⟩ := R
            simp only at hres2 HO HSM2
            obtain ⟨r2', rfl, hD2, _⟩ := HO.out.right hres2
            have HD2 := Lib.hid hD2
            clear hres2 hD2 hH2 d0 d1 d2 d3 d4 d5 d6 HR HO HD HH
            obtain ⟨ra, rc, hr2, hrs2⟩ := HD2.out.two.rowSteps
            have y2 := HD2.out.two.c2
            rw [hr2] at y2
            have hf2 := hrs2.few
            clear hr2 hrs2
            go_wp2_with fail
            refine wp_region_T (fun _ => True) (fun w' : World => w'.cell? ⟨qb, 2, none⟩ = some (.slice ra L'.length rc)) 99 18 (by rfl) (by kernel_rfl) ?_
            have hT0 : w6.drew.cell? ⟨qb, 2, none⟩ = some (.slice ra L'.length rc) := y2
            refine wpAnyT_take' (i := 0) (some 173) (v := ?_) rfl rfl (by kernel_rfl) (by kernel_rfl) (by kernel_rfl) (by decide) (fun _ _ _ h => h) (Or.inl ⟨by rfl, ?_⟩) (fun _ => trivial) hT0 ?_
            rotate_left
            · (intro w hSw; (try dsimp only at hSw); go_simp); try with_reducible rfl
            try simp only [Act.put, List.setIfInBounds_toArray, List.set_cons_zero, List.set_cons_succ]
            refine wpAnyT_take' (i := 1) (some 174) (v := ?_) rfl rfl (by kernel_rfl) (by kernel_rfl) (by kernel_rfl) (by decide) (fun _ _ _ h => h) (Or.inl ⟨by rfl, ?_⟩) (fun _ => trivial) hT0 ?_
            rotate_left
            · (intro w hSw; (try dsimp only at hSw); go_simp); try with_reducible rfl
            try simp only [Act.put, List.setIfInBounds_toArray, List.set_cons_zero, List.set_cons_succ]
            refine wpAnyT_take' (i := 2) (some 175) (v := ?_) rfl rfl (by kernel_rfl) (by kernel_rfl) (by kernel_rfl) (by decide) (fun _ _ _ h => h) (Or.inl ⟨by rfl, ?_⟩) (fun _ => trivial) hT0 ?_
            rotate_left
            · (intro w hSw; (try dsimp only at hSw); go_simp); try with_reducible rfl
            try simp only [Act.put, List.setIfInBounds_toArray, List.set_cons_zero, List.set_cons_succ]
            refine wpAnyT_take' (i := 3) (some 176) (v := ?_) rfl rfl (by kernel_rfl) (by kernel_rfl) (by kernel_rfl) (by decide) (fun _ _ _ h => h) (Or.inl ⟨by rfl, ?_⟩) (fun _ => trivial) hT0 ?_
            rotate_left
            · (intro w hSw; (try dsimp only at hSw); go_simp); try with_reducible rfl
            try simp only [Act.put, List.setIfInBounds_toArray, List.set_cons_zero, List.set_cons_succ]
            refine wpAnyT_take' (i := 4) (some 177) (v := ?_) rfl rfl (by kernel_rfl) (by kernel_rfl) (by kernel_rfl) (by decide) (fun _ _ _ h => h) (Or.inl ⟨by rfl, ?_⟩) (fun _ => trivial) hT0 ?_
            rotate_left
            · (intro w hSw; (try dsimp only at hSw); go_simp); try with_reducible rfl
            try simp only [Act.put, List.setIfInBounds_toArray, List.set_cons_zero, List.set_cons_succ]
            refine wpAnyT_take' (i := 5) (some 178) (v := ?_) rfl rfl (by kernel_rfl) (by kernel_rfl) (by kernel_rfl) (by decide) (fun _ _ _ h => h) (Or.inl ⟨by rfl, ?_⟩) (fun _ => trivial) hT0 ?_
            rotate_left
            · (intro w hSw; (try dsimp only at hSw); go_simp); try with_reducible rfl
            try simp only [Act.put, List.setIfInBounds_toArray, List.set_cons_zero, List.set_cons_succ]
            refine wpAnyT_take' (i := 6) (some 179) (v := ?_) rfl rfl (by kernel_rfl) (by kernel_rfl) (by kernel_rfl) (by decide) (fun _ _ _ h => h) (Or.inl ⟨by rfl, ?_⟩) (fun _ => trivial) hT0 ?_
            rotate_left
            · (intro w hSw; (try dsimp only at hSw); go_simp); try with_reducible rfl
            try simp only [Act.put, List.setIfInBounds_toArray, List.set_cons_zero, List.set_cons_succ]
            refine wpAnyT_take' (i := 7) (some 180) (v := ?_) rfl rfl (by kernel_rfl) (by kernel_rfl) (by kernel_rfl) (by decide) (fun _ _ _ h => h) (Or.inl ⟨by rfl, ?_⟩) (fun _ => trivial) hT0 ?_
            rotate_left
            · (intro w hSw; (try dsimp only at hSw); go_simp); try with_reducible rfl
            try simp only [Act.put, List.setIfInBounds_toArray, List.set_cons_zero, List.set_cons_succ]
            refine wpAnyT_take' (i := 8) (some 181) (v := ?_) rfl rfl (by kernel_rfl) (by kernel_rfl) (by kernel_rfl) (by decide) (fun _ _ _ h => h) (Or.inl ⟨by rfl, ?_⟩) (fun _ => trivial) hT0 ?_
            rotate_left
            · (intro w hSw; (try dsimp only at hSw); go_simp); try with_reducible rfl
            try simp only [Act.put, List.setIfInBounds_toArray, List.set_cons_zero, List.set_cons_succ]
            refine wpAnyT_take' (i := 9) (some 182) (v := ?_) rfl rfl (by kernel_rfl) (by kernel_rfl) (by kernel_rfl) (by decide) (fun _ _ _ h => h) (Or.inl ⟨by rfl, ?_⟩) (fun _ => trivial) hT0 ?_
            rotate_left
            · (intro w hSw; (try dsimp only at hSw); go_simp); try with_reducible rfl
            try simp only [Act.put, List.setIfInBounds_toArray, List.set_cons_zero, List.set_cons_succ]
            refine wpAnyT_take' (i := 11) (some 184) (v := ?_) rfl rfl (by kernel_rfl) (by kernel_rfl) (by kernel_rfl) (by decide) (fun _ _ _ h => h) (Or.inl ⟨by rfl, ?_⟩) (fun _ => trivial) hT0 ?_
            rotate_left
            · (intro w hSw; (try dsimp only at hSw); go_simp); try with_reducible rfl
            try simp only [Act.put, List.setIfInBounds_toArray, List.set_cons_zero, List.set_cons_succ]
            refine wpAnyT_take' (i := 12) (some 185) (v := ?_) rfl rfl (by kernel_rfl) (by kernel_rfl) (by kernel_rfl) (by decide) (fun _ _ _ h => h) (Or.inl ⟨by rfl, ?_⟩) (fun _ => trivial) hT0 ?_
            rotate_left
            · (intro w hSw; (try dsimp only at hSw); go_simp); try with_reducible rfl
            try simp only [Act.put, List.setIfInBounds_toArray, List.set_cons_zero, List.set_cons_succ]
            refine wpAnyT_take' (i := 13) (some 186) (v := ?_) rfl rfl (by kernel_rfl) (by kernel_rfl) (by kernel_rfl) (by decide) (fun _ _ _ h => h) (Or.inl ⟨by rfl, ?_⟩) (fun _ => trivial) hT0 ?_
            rotate_left
            · (intro w hSw; (try dsimp only at hSw); go_simp); try with_reducible rfl
            try simp only [Act.put, List.setIfInBounds_toArray, List.set_cons_zero, List.set_cons_succ]
            refine wpAnyT_take' (i := 14) (some 187) (v := ?_) rfl rfl (by kernel_rfl) (by kernel_rfl) (by kernel_rfl) (by decide) (fun _ _ _ h => h) (Or.inl ⟨by rfl, ?_⟩) (fun _ => trivial) hT0 ?_
            rotate_left
            · (intro w hSw; (try dsimp only at hSw); go_simp); try with_reducible rfl
            try simp only [Act.put, List.setIfInBounds_toArray, List.set_cons_zero, List.set_cons_succ]
            refine wpAnyT_take' (i := 15) (some 188) (v := ?_) rfl rfl (by kernel_rfl) (by kernel_rfl) (by kernel_rfl) (by decide) (fun _ _ _ h => h) (Or.inl ⟨by rfl, ?_⟩) (fun _ => trivial) hT0 ?_
            rotate_left
            · (intro w hSw; (try dsimp only at hSw); go_simp); try with_reducible rfl
            try simp only [Act.put, List.setIfInBounds_toArray, List.set_cons_zero, List.set_cons_succ]
            refine wpAnyT_one (i := 10) (by kernel_rfl) rfl (fun K hK => ?_)
            go_simp
            refine (len_yes (HD2.out.more (Ext.refl _).drew).one).mono ?_
            rintro e w8 ⟨rfl, rfl⟩
            try simp only []
            refine hK _ _ (fun _ => trivial) hT0 ?_
            clear hK K
            try simp only [Act.put, List.setIfInBounds_toArray, List.set_cons_zero, List.set_cons_succ]
            refine wpAnyT_take' (i := 16) (some 189) (v := ?_) rfl rfl (by kernel_rfl) (by kernel_rfl) (by kernel_rfl) (by decide) (fun _ _ _ h => h) (Or.inl ⟨by rfl, ?_⟩) (fun _ => trivial) hT0 ?_
            rotate_left
            · (intro w hSw; (try dsimp only at hSw); go_simp); try with_reducible rfl
            try simp only [Act.put, List.setIfInBounds_toArray, List.set_cons_zero, List.set_cons_succ]
            refine wpAnyT_take' (i := 17) (some 190) (v := ?_) rfl rfl (by kernel_rfl) (by kernel_rfl) (by kernel_rfl) (by decide) (fun _ _ _ h => h) (Or.inl ⟨by rfl, ?_⟩) (fun _ => trivial) hT0 ?_
            rotate_left
            · (intro w hSw; (try dsimp only at hSw); go_simp); try with_reducible rfl
            try simp only [Act.put, List.setIfInBounds_toArray, List.set_cons_zero, List.set_cons_succ]
            refine wpAnyT_done (by kernel_rfl) ?_ _
            try simp only [Act.put, List.setIfInBounds_toArray, List.set_cons_zero, List.set_cons_succ]
            clear hT0 y2
            go_wp2
            go_roundw
            case rel => exact ⟨j + 1, by omega, by go_num, _, _, _, _, HD2.out.more (Ext.refl _).drew, HSM2.out⟩
            case measure => simp [intOf]; omega
          · have Hm := Lib.hid hm
            go_wp2_with fail
            refine (two_any _ _ _ _ _ _ _ q A B _ HD.out.one HQ.out.2.1 HQ.out.2.2.1 HQ.out.2.2.2).mono ?_
            rintro e w5 hres
            obtain ⟨R, hR⟩ : ∃ R, R = stepR b pars L (opStep q A B) 3 := ⟨_, rfl⟩
            have HSM2 := Lib.hid (sm_step (b := b) (pars := pars) (k := 3) HSM.out (op := q) (x := A) (y := B))
            rw [← hR] at hres HSM2
            have HR := Lib.hid hR
            clear hR
            obtain ⟨r1', rfl, hO, hv⟩ := HD.out.left hres
            have hH2 := HH.out.mv hv
            have HO := Lib.hid hO
            clear hres hv hO d0 d1 d2 d3 d4 d5 d6 hm
            have d0 : w5.cell? ⟨xb, 0, none⟩ = some (.int .u8 p) := hH2.cell rfl
            have d1 : w5.cell? ⟨xb, 1, none⟩ = some (.int .u8 q) := hH2.cell rfl
            have d2 : w5.cell? ⟨xb, 2, none⟩ = some (.int .i64 A) := hH2.cell rfl
            have d3 : w5.cell? ⟨xb, 3, none⟩ = some (.int .i64 B) := hH2.cell rfl
            have d4 : w5.cell? ⟨xb, 4, none⟩ = some (.bool g) := hH2.cell rfl
            have d5 : w5.cell? ⟨xb, 5, none⟩ = some (.slice a1 n1 c1) := hH2.cell rfl
            have d6 : w5.cell? ⟨xb, 6, none⟩ = some (.slice a2 n2 c2) := hH2.cell rfl
            go_wp2_with fail
            refine (rtwo17_any _ _ _ _ _ _ q A B _ HO.out.two HQ.out.2.1).mono ?_
            rintro e w6 hres2
            rw [← HR.out] at hres2
            obtain ⟨i, er, L'⟩ := R
            simp only at hres2 HO HSM2
            obtain ⟨r2', rfl, hD2, _⟩ := HO.out.right hres2
            have HD2 := Lib.hid hD2
            clear hres2 hD2 hH2 d0 d1 d2 d3 d4 d5 d6 HR HO HD HH
            obtain ⟨ra, rc, hr2, hrs2⟩ := HD2.out.two.rowSteps
            have y2 := HD2.out.two.c2
            rw [hr2] at y2
            have hf2 := hrs2.few
            clear hr2 hrs2
            go_wp2_with fail
            refine wp_region_T (fun _ => True) (fun w' : World => w'.cell? ⟨qb, 2, none⟩ = some (.slice ra L'.length rc)) 99 18 (by rfl) (by kernel_rfl) ?_
            have hT0 : w6.drew.cell? ⟨qb, 2, none⟩ = some (.slice ra L'.length rc) := y2
            refine wpAnyT_take' (i := 0) (some 173) (v := ?_) rfl rfl (by kernel_rfl) (by kernel_rfl) (by kernel_rfl) (by decide) (fun _ _ _ h => h) (Or.inl ⟨by rfl, ?_⟩) (fun _ => trivial) hT0 ?_
            rotate_left
            · (intro w hSw; (try dsimp only at hSw); go_simp); try with_reducible rfl
            try simp only [Act.put, List.setIfInBounds_toArray, List.set_cons_zero, List.set_cons_succ]
            refine wpAnyT_take' (i := 1) (some 174) (v := ?_) rfl rfl (by kernel_rfl) (by kernel_rfl) (by kernel_rfl) (by decide) (fun _ _ _ h => h) (Or.inl ⟨by rfl, ?_⟩) (fun _ => trivial) hT0 ?_
            rotate_left
            · (intro w hSw; (try dsimp only at hSw); go_simp); try with_reducible rfl
            try simp only [Act.put, List.setIfInBounds_toArray, List.set_cons_zero, List.set_cons_succ]
            refine wpAnyT_take' (i := 2) (some 175) (v := ?_) rfl rfl (by kernel_rfl) (by kernel_rfl) (by kernel_rfl) (by decide) (fun _ _ _ h => h) (Or.inl ⟨by rfl, ?_⟩) (fun _ => trivial) hT0 ?_
            rotate_left
            · (intro w hSw; (try dsimp only at hSw); go_simp); try with_reducible rfl
            try simp only [Act.put, List.setIfInBounds_toArray, List.set_cons_zero, List.set_cons_succ]
            refine wpAnyT_take' (i := 3) (some 176) (v := ?_) rfl rfl (by kernel_rfl) (by kernel_rfl) (by kernel_rfl) (by decide) (fun _ _ _ h => h) (Or.inl ⟨by rfl, ?_⟩) (fun _ => trivial) hT0 ?_
            rotate_left
            · (intro w hSw; (try dsimp only at hSw); go_simp); try with_reducible rfl
            try simp only [Act.put, List.setIfInBounds_toArray, List.set_cons_zero, List.set_cons_succ]
            refine wpAnyT_take' (i := 4) (some 177) (v := ?_) rfl rfl (by kernel_rfl) (by kernel_rfl) (by kernel_rfl) (by decide) (fun _ _ _ h => h) (Or.inl ⟨by rfl, ?_⟩) (fun _ => trivial) hT0 ?_
            rotate_left
            · (intro w hSw; (try dsimp only at hSw); go_simp); try with_reducible rfl
            try simp only [Act.put, List.setIfInBounds_toArray, List.set_cons_zero, List.set_cons_succ]
            refine wpAnyT_take' (i := 5) (some 178) (v := ?_) rfl rfl (by kernel_rfl) (by kernel_rfl) (by kernel_rfl) (by decide) (fun _ _ _ h => h) (Or.inl ⟨by rfl, ?_⟩) (fun _ => trivial) hT0 ?_
            rotate_left
            · (intro w hSw; (try dsimp only at hSw); go_simp); try with_reducible rfl
            try simp only [Act.put, List.setIfInBounds_toArray, List.set_cons_zero, List.set_cons_succ]
            refine wpAnyT_take' (i := 6) (some 179) (v := ?_) rfl rfl (by kernel_rfl) (by kernel_rfl) (by kernel_rfl) (by decide) (fun _ _ _ h => h) (Or.inl ⟨by rfl, ?_⟩) (fun _ => trivial) hT0 ?_
            rotate_left
            · (intro w hSw; (try dsimp only at hSw); go_simp); try with_reducible rfl
            try simp only [Act.put, List.setIfInBounds_toArray, List.set_cons_zero, List.set_cons_succ]
            refine wpAnyT_take' (i := 7) (some 180) (v := ?_) rfl rfl (by kernel_rfl) (by kernel_rfl) (by kernel_rfl) (by decide) (fun _ _ _ h => h) (Or.inl ⟨by rfl, ?_⟩) (fun _ => trivial) hT0 ?_
            rotate_left
            · (intro w hSw; (try dsimp only at hSw); go_simp); try with_reducible rfl
            try simp only [Act.put, List.setIfInBounds_toArray, List.set_cons_zero, List.set_cons_succ]
            refine wpAnyT_take' (i := 8) (some 181) (v := ?_) rfl rfl (by kernel_rfl) (by kernel_rfl) (by kernel_rfl) (by decide) (fun _ _ _ h => h) (Or.inl ⟨by rfl, ?_⟩) (fun _ => trivial) hT0 ?_
            rotate_left
            · (intro w hSw; (try dsimp only at hSw); go_simp); try with_reducible rfl
            try simp only [Act.put, List.setIfInBounds_toArray, List.set_cons_zero, List.set_cons_succ]
            refine wpAnyT_take' (i := 9) (some 182) (v := ?_) rfl rfl (by kernel_rfl) (by kernel_rfl) (by kernel_rfl) (by decide) (fun _ _ _ h => h) (Or.inl ⟨by rfl, ?_⟩) (fun _ => trivial) hT0 ?_
            rotate_left
            · (intro w hSw; (try dsimp only at hSw); go_simp); try with_reducible rfl
            try simp only [Act.put, List.setIfInBounds_toArray, List.set_cons_zero, List.set_cons_succ]
            refine wpAnyT_take' (i := 11) (some 184) (v := ?_) rfl rfl (by kernel_rfl) (by kernel_rfl) (by kernel_rfl) (by decide) (fun _ _ _ h => h) (Or.inl ⟨by rfl, ?_⟩) (fun _ => trivial) hT0 ?_
            rotate_left
            · (intro w hSw; (try dsimp only at hSw); go_simp); try with_reducible rfl
            try simp only [Act.put, List.setIfInBounds_toArray, List.set_cons_zero, List.set_cons_succ]
            refine wpAnyT_take' (i := 12) (some 185) (v := ?_) rfl rfl (by kernel_rfl) (by kernel_rfl) (by kernel_rfl) (by decide) (fun _ _ _ h => h) (Or.inl ⟨by rfl, ?_⟩) (fun _ => trivial) hT0 ?_
            rotate_left
            · (intro w hSw; (try dsimp only at hSw); go_simp); try with_reducible rfl
            try simp only [Act.put, List.setIfInBounds_toArray, List.set_cons_zero, List.set_cons_succ]
            refine wpAnyT_take' (i := 13) (some 186) (v := ?_) rfl rfl (by kernel_rfl) (by kernel_rfl) (by kernel_rfl) (by decide) (fun _ _ _ h => h) (Or.inl ⟨by rfl, ?_⟩) (fun _ => trivial) hT0 ?_
            rotate_left
            · (intro w hSw; (try dsimp only at hSw); go_simp); try with_reducible rfl
            try simp only [Act.put, List.setIfInBounds_toArray, List.set_cons_zero, List.set_cons_succ]
            refine wpAnyT_take' (i := 14) (some 187) (v := ?_) rfl rfl (by kernel_rfl) (by kernel_rfl) (by kernel_rfl) (by decide) (fun _ _ _ h => h) (Or.inl ⟨by rfl, ?_⟩) (fun _ => trivial) hT0 ?_
            rotate_left
            · (intro w hSw; (try dsimp only at hSw); go_simp); try with_reducible rfl
            try simp only [Act.put, List.setIfInBounds_toArray, List.set_cons_zero, List.set_cons_succ]
            refine wpAnyT_take' (i := 15) (some 188) (v := ?_) rfl rfl (by kernel_rfl) (by kernel_rfl) (by kernel_rfl) (by decide) (fun _ _ _ h => h) (Or.inl ⟨by rfl, ?_⟩) (fun _ => trivial) hT0 ?_
            rotate_left
            · (intro w hSw; (try dsimp only at hSw); go_simp); try with_reducible rfl
            try simp only [Act.put, List.setIfInBounds_toArray, List.set_cons_zero, List.set_cons_succ]
            refine wpAnyT_one (i := 10) (by kernel_rfl) rfl (fun K hK => ?_)
            go_simp
            refine (len_yes (HD2.out.more (Ext.refl _).drew).one).mono ?_
            rintro e w8 ⟨rfl, rfl⟩
            try simp only []
            refine hK _ _ (fun _ => trivial) hT0 ?_
            clear hK K
            try simp only [Act.put, List.setIfInBounds_toArray, List.set_cons_zero, List.set_cons_succ]
            refine wpAnyT_take' (i := 16) (some 189) (v := ?_) rfl rfl (by kernel_rfl) (by kernel_rfl) (by kernel_rfl) (by decide) (fun _ _ _ h => h) (Or.inl ⟨by rfl, ?_⟩) (fun _ => trivial) hT0 ?_
            rotate_left
            · (intro w hSw; (try dsimp only at hSw); go_simp); try with_reducible rfl
            try simp only [Act.put, List.setIfInBounds_toArray, List.set_cons_zero, List.set_cons_succ]
            refine wpAnyT_take' (i := 17) (some 190) (v := ?_) rfl rfl (by kernel_rfl) (by kernel_rfl) (by kernel_rfl) (by decide) (fun _ _ _ h => h) (Or.inl ⟨by rfl, ?_⟩) (fun _ => trivial) hT0 ?_
            rotate_left
            · (intro w hSw; (try dsimp only at hSw); go_simp); try with_reducible rfl
            try simp only [Act.put, List.setIfInBounds_toArray, List.set_cons_zero, List.set_cons_succ]
            refine wpAnyT_done (by kernel_rfl) ?_ _
            try simp only [Act.put, List.setIfInBounds_toArray, List.set_cons_zero, List.set_cons_succ]
            clear hT0 y2
            go_wp2
            go_roundw
            case rel => exact ⟨j + 1, by omega, by go_num, _, _, _, _, HD2.out.more (Ext.refl _).drew, HSM2.out⟩
            case measure => simp [intOf]; omega
          · have Hm := Lib.hid hm
            go_wp2_with fail
            refine (two_any _ _ _ _ _ _ _ q A B _ HD.out.one HQ.out.2.1 HQ.out.2.2.1 HQ.out.2.2.2).mono ?_
            rintro e w5 hres
            obtain ⟨R, hR⟩ : ∃ R, R = stepR b pars L (opStep q A B) 3 := ⟨_, rfl⟩
            have HSM2 := Lib.hid (sm_step (b := b) (pars := pars) (k := 3) HSM.out (op := q) (x := A) (y := B))
            rw [← hR] at hres HSM2
            have HR := Lib.hid hR
            clear hR
            obtain ⟨r1', rfl, hO, hv⟩ := HD.out.left hres
            have hH2 := HH.out.mv hv
            have HO := Lib.hid hO
            clear hres hv hO d0 d1 d2 d3 d4 d5 d6 hm
            have d0 : w5.cell? ⟨xb, 0, none⟩ = some (.int .u8 p) := hH2.cell rfl
            have d1 : w5.cell? ⟨xb, 1, none⟩ = some (.int .u8 q) := hH2.cell rfl
            have d2 : w5.cell? ⟨xb, 2, none⟩ = some (.int .i64 A) := hH2.cell rfl
            have d3 : w5.cell? ⟨xb, 3, none⟩ = some (.int .i64 B) := hH2.cell rfl
            have d4 : w5.cell? ⟨xb, 4, none⟩ = some (.bool g) := hH2.cell rfl
            have d5 : w5.cell? ⟨xb, 5, none⟩ = some (.slice a1 n1 c1) := hH2.cell rfl
            have d6 : w5.cell? ⟨xb, 6, none⟩ = some (.slice a2 n2 c2) := hH2.cell rfl
            go_wp2_with fail
            refine (rtwo17_any _ _ _ _ _ _ q A B _ HO.out.two HQ.out.2.1).mono ?_
            rintro e w6 hres2
            rw [← HR.out] at hres2
            obtain ⟨i, er, L'⟩ := R
            simp only at hres2 HO HSM2
            obtain ⟨r2', rfl, hD2, _⟩ := HO.out.right hres2
            have HD2 := Lib.hid hD2
            clear hres2 hD2 hH2 d0 d1 d2 d3 d4 d5 d6 HR HO HD HH
            obtain ⟨ra, rc, hr2, hrs2⟩ := HD2.out.two.rowSteps
            have y2 := HD2.out.two.c2
            rw [hr2] at y2
            have hf2 := hrs2.few
            clear hr2 hrs2
            go_wp2_with fail
            refine wp_region_T (fun _ => True) (fun w' : World => w'.cell? ⟨qb, 2, none⟩ = some (.slice ra L'.length rc)) 99 18 (by rfl) (by kernel_rfl) ?_
            have hT0 : w6.drew.cell? ⟨qb, 2, none⟩ = some (.slice ra L'.length rc) := y2
            refine wpAnyT_take' (i := 0) (some 173) (v := ?_) rfl rfl (by kernel_rfl) (by kernel_rfl) (by kernel_rfl) (by decide) (fun _ _ _ h => h) (Or.inl ⟨by rfl, ?_⟩) (fun _ => trivial) hT0 ?_
            rotate_left
            · (intro w hSw; (try dsimp only at hSw); go_simp); try with_reducible rfl
            try simp only [Act.put, List.setIfInBounds_toArray, List.set_cons_zero, List.set_cons_succ]
            refine wpAnyT_take' (i := 1) (some 174) (v := ?_) rfl rfl (by kernel_rfl) (by kernel_rfl) (by kernel_rfl) (by decide) (fun _ _ _ h => h) (Or.inl ⟨by rfl, ?_⟩) (fun _ => trivial) hT0 ?_
            rotate_left
            · (intro w hSw; (try dsimp only at hSw); go_simp); try with_reducible rfl
            try simp only [Act.put, List.setIfInBounds_toArray, List.set_cons_zero, List.set_cons_succ]
            refine wpAnyT_take' (i := 2) (some 175) (v := ?_) rfl rfl (by kernel_rfl) (by kernel_rfl) (by kernel_rfl) (by decide) (fun _ _ _ h => h) (Or.inl ⟨by rfl, ?_⟩) (fun _ => trivial) hT0 ?_
            rotate_left
            · (intro w hSw; (try dsimp only at hSw); go_simp); try with_reducible rfl
            try simp only [Act.put, List.setIfInBounds_toArray, List.set_cons_zero, List.set_cons_succ]
            refine wpAnyT_take' (i := 3) (some 176) (v := ?_) rfl rfl (by kernel_rfl) (by kernel_rfl) (by kernel_rfl) (by decide) (fun _ _ _ h => h) (Or.inl ⟨by rfl, ?_⟩) (fun _ => trivial) hT0 ?_
            rotate_left
            · (intro w hSw; (try dsimp only at hSw); go_simp); try with_reducible rfl
            try simp only [Act.put, List.setIfInBounds_toArray, List.set_cons_zero, List.set_cons_succ]
            refine wpAnyT_take' (i := 4) (some 177) (v := ?_) rfl rfl (by kernel_rfl) (by kernel_rfl) (by kernel_rfl) (by decide) (fun _ _ _ h => h) (Or.inl ⟨by rfl, ?_⟩) (fun _ => trivial) hT0 ?_
            rotate_left
            · (intro w hSw; (try dsimp only at hSw); go_simp); try with_reducible rfl
            try simp only [Act.put, List.setIfInBounds_toArray, List.set_cons_zero, List.set_cons_succ]
            refine wpAnyT_take' (i := 5) (some 178) (v := ?_) rfl rfl (by kernel_rfl) (by kernel_rfl) (by kernel_rfl) (by decide) (fun _ _ _ h => h) (Or.inl ⟨by rfl, ?_⟩) (fun _ => trivial) hT0 ?_
            rotate_left
            · (intro w hSw; (try dsimp only at hSw); go_simp); try with_reducible rfl
            try simp only [Act.put, List.setIfInBounds_toArray, List.set_cons_zero, List.set_cons_succ]
            refine wpAnyT_take' (i := 6) (some 179) (v := ?_) rfl rfl (by kernel_rfl) (by kernel_rfl) (by kernel_rfl) (by decide) (fun _ _ _ h => h) (Or.inl ⟨by rfl, ?_⟩) (fun _ => trivial) hT0 ?_
            rotate_left
            · (intro w hSw; (try dsimp only at hSw); go_simp); try with_reducible rfl
            try simp only [Act.put, List.setIfInBounds_toArray, List.set_cons_zero, List.set_cons_succ]
            refine wpAnyT_take' (i := 7) (some 180) (v := ?_) rfl rfl (by kernel_rfl) (by kernel_rfl) (by kernel_rfl) (by decide) (fun _ _ _ h => h) (Or.inl ⟨by rfl, ?_⟩) (fun _ => trivial) hT0 ?_
            rotate_left
            · (intro w hSw; (try dsimp only at hSw); go_simp); try with_reducible rfl
            try simp only [Act.put, List.setIfInBounds_toArray, List.set_cons_zero, List.set_cons_succ]
            refine wpAnyT_take' (i := 8) (some 181) (v := ?_) rfl rfl (by kernel_rfl) (by kernel_rfl) (by kernel_rfl) (by decide) (fun _ _ _ h => h) (Or.inl ⟨by rfl, ?_⟩) (fun _ => trivial) hT0 ?_
            rotate_left
            · (intro w hSw; (try dsimp only at hSw); go_simp); try with_reducible rfl
            try simp only [Act.put, List.setIfInBounds_toArray, List.set_cons_zero, List.set_cons_succ]
            refine wpAnyT_take' (i := 9) (some 182) (v := ?_) rfl rfl (by kernel_rfl) (by kernel_rfl) (by kernel_rfl) (by decide) (fun _ _ _ h => h) (Or.inl ⟨by rfl, ?_⟩) (fun _ => trivial) hT0 ?_
            rotate_left
            · (intro w hSw; (try dsimp only at hSw); go_simp); try with_reducible rfl
            try simp only [Act.put, List.setIfInBounds_toArray, List.set_cons_zero, List.set_cons_succ]
            refine wpAnyT_take' (i := 11) (some 184) (v := ?_) rfl rfl (by kernel_rfl) (by kernel_rfl) (by kernel_rfl) (by decide) (fun _ _ _ h => h) (Or.inl ⟨by rfl, ?_⟩) (fun _ => trivial) hT0 ?_
            rotate_left
            · (intro w hSw; (try dsimp only at hSw); go_simp); try with_reducible rfl
            try simp only [Act.put, List.setIfInBounds_toArray, List.set_cons_zero, List.set_cons_succ]
            refine wpAnyT_take' (i := 12) (some 185) (v := ?_) rfl rfl (by kernel_rfl) (by kernel_rfl) (by kernel_rfl) (by decide) (fun _ _ _ h => h) (Or.inl ⟨by rfl, ?_⟩) (fun _ => trivial) hT0 ?_
            rotate_left
            · (intro w hSw; (try dsimp only at hSw); go_simp); try with_reducible rfl
            try simp only [Act.put, List.setIfInBounds_toArray, List.set_cons_zero, List.set_cons_succ]
            refine wpAnyT_take' (i := 13) (some 186) (v := ?_) rfl rfl (by kernel_rfl) (by kernel_rfl) (by kernel_rfl) (by decide) (fun _ _ _ h => h) (Or.inl ⟨by rfl, ?_⟩) (fun _ => trivial) hT0 ?_
            rotate_left
            · (intro w hSw; (try dsimp only at hSw); go_simp); try with_reducible rfl
            try simp only [Act.put, List.setIfInBounds_toArray, List.set_cons_zero, List.set_cons_succ]
            refine wpAnyT_take' (i := 14) (some 187) (v := ?_) rfl rfl (by kernel_rfl) (by kernel_rfl) (by kernel_rfl) (by decide) (fun _ _ _ h => h) (Or.inl ⟨by rfl, ?_⟩) (fun _ => trivial) hT0 ?_
            rotate_left
            · (intro w hSw; (try dsimp only at hSw); go_simp); try with_reducible rfl
            try simp only [Act.put, List.setIfInBounds_toArray, List.set_cons_zero, List.set_cons_succ]
            refine wpAnyT_take' (i := 15) (some 188) (v := ?_) rfl rfl (by kernel_rfl) (by kernel_rfl) (by kernel_rfl) (by decide) (fun _ _ _ h => h) (Or.inl ⟨by rfl, ?_⟩) (fun _ => trivial) hT0 ?_
            rotate_left
            · (intro w hSw; (try dsimp only at hSw); go_simp); try with_reducible rfl
            try simp only [Act.put, List.setIfInBounds_toArray, List.set_cons_zero, List.set_cons_succ]
            refine wpAnyT_one (i := 10) (by kernel_rfl) rfl (fun K hK => ?_)
            go_simp
            refine (len_yes (HD2.out.more (Ext.refl _).drew).one).mono ?_
            rintro e w8 ⟨rfl, rfl⟩
            try simp only []
            refine hK _ _ (fun _ => trivial) hT0 ?_
            clear hK K
            try simp only [Act.put, List.setIfInBounds_toArray, List.set_cons_zero, List.set_cons_succ]
            refine wpAnyT_take' (i := 16) (some 189) (v := ?_) rfl rfl (by kernel_rfl) (by kernel_rfl) (by kernel_rfl) (by decide) (fun _ _ _ h => h) (Or.inl ⟨by rfl, ?_⟩) (fun _ => trivial) hT0 ?_
            rotate_left
            · (intro w hSw; (try dsimp only at hSw); go_simp); try with_reducible rfl
            try simp only [Act.put, List.setIfInBounds_toArray, List.set_cons_zero, List.set_cons_succ]
            refine wpAnyT_take' (i := 17) (some 190) (v := ?_) rfl rfl (by kernel_rfl) (by kernel_rfl) (by kernel_rfl) (by decide) (fun _ _ _ h => h) (Or.inl ⟨by rfl, ?_⟩) (fun _ => trivial) hT0 ?_
            rotate_left
            · (intro w hSw; (try dsimp only at hSw); go_simp); try with_reducible rfl
            try simp only [Act.put, List.setIfInBounds_toArray, List.set_cons_zero, List.set_cons_succ]
            refine wpAnyT_done (by kernel_rfl) ?_ _
            try simp only [Act.put, List.setIfInBounds_toArray, List.set_cons_zero, List.set_cons_succ]
            clear hT0 y2
            go_wp2
            go_roundw
            case rel => exact ⟨j + 1, by omega, by go_num, _, _, _, _, HD2.out.more (Ext.refl _).drew, HSM2.out⟩
            case measure => simp [intOf]; omega
          · have Hm := Lib.hid hm
            go_wp2_with fail
            obtain ⟨W5, hW5⟩ : ∃ W5, W5 = wq.alloc (.cells #[.string ⟨#[120]⟩, .int .i64 B] 57) := ⟨_, rfl⟩
            obtain ⟨yb, hyb⟩ : ∃ yb, yb = wq.heap.size := ⟨_, rfl⟩
            have e5 : Ext wq W5 := by rw [hW5]; exact Ext.of_alloc _ _
            have ht5 : Tells W5 (some ⟨yb, 0, none⟩) 1 1 [(⟨#[120]⟩, B)] := tells_at (by rw [hW5, hyb]; simp [go_sem]) (by rw [hW5, hyb]; simp [go_sem])
            rw [← hW5, ← hyb]
            clear hW5 hyb
            refine (tape_yes _ _ _ _ _ _ _ A _ _ _ _ _ (HD.out.one.kept e5) ht5).mono ?_
            rintro e w6 ⟨v, rfl, E6, hres, hres'⟩
            have HD6 := Lib.hid (HD.out.more (e5.trans E6))
            have HH6 := Lib.hid ((HH.out.ext e5).ext E6)
            have HFW := Lib.hid HD.out.one.fewL
            have hlb := HD.out.one.good.len
            clear d0 d1 d2 d3 d4 d5 d6 hm e5 ht5 E6 HD HH
            obtain ⟨tv, er, hv, hval⟩ : ∃ (tv : Value) (er : Nat), v = .tuple #[tv, .int .i64 (er : Int)] ∧ TVal pars A L [(⟨#[120]⟩, B)] tv er w6 := tval_of hres hres' HFW.out (by omega) (by simp)
            subst hv
            obtain ⟨t0, t1, ta, tn, tc, ua, un, uc, htv⟩ := hval.form
            subst htv
            have HV := Lib.hid hval
            clear hres hres' hval
            have d0 : w6.cell? ⟨xb, 0, none⟩ = some (.int .u8 p) := HH6.out.cell rfl
            have d1 : w6.cell? ⟨xb, 1, none⟩ = some (.int .u8 q) := HH6.out.cell rfl
            have d2 : w6.cell? ⟨xb, 2, none⟩ = some (.int .i64 A) := HH6.out.cell rfl
            have d3 : w6.cell? ⟨xb, 3, none⟩ = some (.int .i64 B) := HH6.out.cell rfl
            have d4 : w6.cell? ⟨xb, 4, none⟩ = some (.bool g) := HH6.out.cell rfl
            have d5 : w6.cell? ⟨xb, 5, none⟩ = some (.slice a1 n1 c1) := HH6.out.cell rfl
            have d6 : w6.cell? ⟨xb, 6, none⟩ = some (.slice a2 n2 c2) := HH6.out.cell rfl
            have hxw := HH6.out.lt
            go_wp2_with fail
            obtain ⟨W7, hW7⟩ : ∃ W7, W7 = (w6.alloc (.cells #[.int .i64 t0, .int .i64 t1, .slice ta tn tc, .slice ua un uc] 53)).alloc (.cells #[.string ⟨#[120]⟩, .int .i64 B] 57) := ⟨_, rfl⟩
            obtain ⟨tb, htb⟩ : ∃ tb, tb = w6.heap.size := ⟨_, rfl⟩
            obtain ⟨zb, hzb⟩ : ∃ zb, zb = w6.heap.size + 1 := ⟨_, rfl⟩
            have e7 : Ext w6 W7 := by rw [hW7]; exact (Ext.of_alloc _ _).alloc _
            have ht7 : Tells W7 (some ⟨zb, 0, none⟩) 1 1 [(⟨#[120]⟩, B)] := tells_at (by rw [hW7, hzb]; simp [go_sem]) (by rw [hW7, hzb]; simp [go_sem])
            have s0 : W7.cell? ⟨tb, 0, none⟩ = some (.int .i64 t0) := by rw [hW7, htb]; simp [go_sem]
            have s1 : W7.cell? ⟨tb, 1, none⟩ = some (.int .i64 t1) := by rw [hW7, htb]; simp [go_sem]
            have s2 : W7.cell? ⟨tb, 2, none⟩ = some (.slice ta tn tc) := by rw [hW7, htb]; simp [go_sem]
            have s3 : W7.cell? ⟨tb, 3, none⟩ = some (.slice ua un uc) := by rw [hW7, htb]; simp [go_sem]
            rw [← hW7, ← hzb, ← htb]
            clear hW7 htb hzb
            refine (rtape_any _ _ _ _ _ _ A _ _ _ _ _ (HD6.out.more e7).two ht7 HSM.out).mono ?_
            rintro e w8 ⟨v, rfl, E8, hr8⟩
            have HD8 := Lib.hid (HD6.out.more (e7.trans E8))
            replace s0 := E8.cell s0
            replace s1 := E8.cell s1
            replace s2 := E8.cell s2
            replace s3 := E8.cell s3
            obtain ⟨ra, rc, hrr, hrs8⟩ := HD8.out.two.rowSteps
            have hT8 := ht7.ext E8
            obtain ⟨v0, v1, va, vn, vc, wa, wn, wc, hv8, hs8⟩ := rval_of hr8 hrr hrs8 hT8 HV.out (e7.trans E8)
            subst hv8
            have HS8 := Lib.hid hs8
            have htw := World.block_lt_of_cell? _ _ s0
            simp at htw
            clear hr8 hrr hrs8 hT8 ht7 e7 E8 d0 d1 d2 d3 d4 d5 d6 hxw HV HH6
            go_wp2_with fail
            refine ((HS8.out _ (Ext.of_alloc _ _))).mono ?_
            rintro e w9 ⟨_, rfl, E9, rfl⟩
            have HD2 := Lib.hid (HD8.out.more ((Ext.of_alloc _ _).trans E9))
            have HSM2 := HSM
            obtain ⟨L', hL'⟩ : ∃ L', L' = L := ⟨_, rfl⟩
            rw [← hL'] at HD2 HSM2
            clear hL' E9 s0 s1 s2 s3 htw HD8 HD6 HS8
            obtain ⟨ra, rc, hr2, hrs2⟩ := HD2.out.two.rowSteps
            have y2 := HD2.out.two.c2
            rw [hr2] at y2
            have hf2 := hrs2.few
            clear hr2 hrs2
            go_wp2_with fail
            refine wp_region_T (fun _ => True) (fun w' : World => w'.cell? ⟨qb, 2, none⟩ = some (.slice ra L'.length rc)) 99 18 (by rfl) (by kernel_rfl) ?_
            have hT0 : w9.drew.cell? ⟨qb, 2, none⟩ = some (.slice ra L'.length rc) := y2
            refine wpAnyT_take' (i := 0) (some 173) (v := ?_) rfl rfl (by kernel_rfl) (by kernel_rfl) (by kernel_rfl) (by decide) (fun _ _ _ h => h) (Or.inl ⟨by rfl, ?_⟩) (fun _ => trivial) hT0 ?_
            rotate_left
            · (intro w hSw; (try dsimp only at hSw); go_simp); try with_reducible rfl
            try simp only [Act.put, List.setIfInBounds_toArray, List.set_cons_zero, List.set_cons_succ]
            refine wpAnyT_take' (i := 1) (some 174) (v := ?_) rfl rfl (by kernel_rfl) (by kernel_rfl) (by kernel_rfl) (by decide) (fun _ _ _ h => h) (Or.inl ⟨by rfl, ?_⟩) (fun _ => trivial) hT0 ?_
            rotate_left
            · (intro w hSw; (try dsimp only at hSw); go_simp); try with_reducible rfl
            try simp only [Act.put, List.setIfInBounds_toArray, List.set_cons_zero, List.set_cons_succ]
            refine wpAnyT_take' (i := 2) (some 175) (v := ?_) rfl rfl (by kernel_rfl) (by kernel_rfl) (by kernel_rfl) (by decide) (fun _ _ _ h => h) (Or.inl ⟨by rfl, ?_⟩) (fun _ => trivial) hT0 ?_
            rotate_left
            · (intro w hSw; (try dsimp only at hSw); go_simp); try with_reducible rfl
            try simp only [Act.put, List.setIfInBounds_toArray, List.set_cons_zero, List.set_cons_succ]
            refine wpAnyT_take' (i := 3) (some 176) (v := ?_) rfl rfl (by kernel_rfl) (by kernel_rfl) (by kernel_rfl) (by decide) (fun _ _ _ h => h) (Or.inl ⟨by rfl, ?_⟩) (fun _ => trivial) hT0 ?_
            rotate_left
            · (intro w hSw; (try dsimp only at hSw); go_simp); try with_reducible rfl
            try simp only [Act.put, List.setIfInBounds_toArray, List.set_cons_zero, List.set_cons_succ]
            refine wpAnyT_take' (i := 4) (some 177) (v := ?_) rfl rfl (by kernel_rfl) (by kernel_rfl) (by kernel_rfl) (by decide) (fun _ _ _ h => h) (Or.inl ⟨by rfl, ?_⟩) (fun _ => trivial) hT0 ?_
            rotate_left
            · (intro w hSw; (try dsimp only at hSw); go_simp); try with_reducible rfl
            try simp only [Act.put, List.setIfInBounds_toArray, List.set_cons_zero, List.set_cons_succ]
            refine wpAnyT_take' (i := 5) (some 178) (v := ?_) rfl rfl (by kernel_rfl) (by kernel_rfl) (by kernel_rfl) (by decide) (fun _ _ _ h => h) (Or.inl ⟨by rfl, ?_⟩) (fun _ => trivial) hT0 ?_
            rotate_left
            · (intro w hSw; (try dsimp only at hSw); go_simp); try with_reducible rfl
            try simp only [Act.put, List.setIfInBounds_toArray, List.set_cons_zero, List.set_cons_succ]
            refine wpAnyT_take' (i := 6) (some 179) (v := ?_) rfl rfl (by kernel_rfl) (by kernel_rfl) (by kernel_rfl) (by decide) (fun _ _ _ h => h) (Or.inl ⟨by rfl, ?_⟩) (fun _ => trivial) hT0 ?_
            rotate_left
            · (intro w hSw; (try dsimp only at hSw); go_simp); try with_reducible rfl
            try simp only [Act.put, List.setIfInBounds_toArray, List.set_cons_zero, List.set_cons_succ]
            refine wpAnyT_take' (i := 7) (some 180) (v := ?_) rfl rfl (by kernel_rfl) (by kernel_rfl) (by kernel_rfl) (by decide) (fun _ _ _ h => h) (Or.inl ⟨by rfl, ?_⟩) (fun _ => trivial) hT0 ?_
            rotate_left
            · (intro w hSw; (try dsimp only at hSw); go_simp); try with_reducible rfl
            try simp only [Act.put, List.setIfInBounds_toArray, List.set_cons_zero, List.set_cons_succ]
            refine wpAnyT_take' (i := 8) (some 181) (v := ?_) rfl rfl (by kernel_rfl) (by kernel_rfl) (by kernel_rfl) (by decide) (fun _ _ _ h => h) (Or.inl ⟨by rfl, ?_⟩) (fun _ => trivial) hT0 ?_
            rotate_left
            · (intro w hSw; (try dsimp only at hSw); go_simp); try with_reducible rfl
            try simp only [Act.put, List.setIfInBounds_toArray, List.set_cons_zero, List.set_cons_succ]
            refine wpAnyT_take' (i := 9) (some 182) (v := ?_) rfl rfl (by kernel_rfl) (by kernel_rfl) (by kernel_rfl) (by decide) (fun _ _ _ h => h) (Or.inl ⟨by rfl, ?_⟩) (fun _ => trivial) hT0 ?_
            rotate_left
            · (intro w hSw; (try dsimp only at hSw); go_simp); try with_reducible rfl
            try simp only [Act.put, List.setIfInBounds_toArray, List.set_cons_zero, List.set_cons_succ]
            refine wpAnyT_take' (i := 11) (some 184) (v := ?_) rfl rfl (by kernel_rfl) (by kernel_rfl) (by kernel_rfl) (by decide) (fun _ _ _ h => h) (Or.inl ⟨by rfl, ?_⟩) (fun _ => trivial) hT0 ?_
            rotate_left
            · (intro w hSw; (try dsimp only at hSw); go_simp); try with_reducible rfl
            try simp only [Act.put, List.setIfInBounds_toArray, List.set_cons_zero, List.set_cons_succ]
            refine wpAnyT_take' (i := 12) (some 185) (v := ?_) rfl rfl (by kernel_rfl) (by kernel_rfl) (by kernel_rfl) (by decide) (fun _ _ _ h => h) (Or.inl ⟨by rfl, ?_⟩) (fun _ => trivial) hT0 ?_
            rotate_left
            · (intro w hSw; (try dsimp only at hSw); go_simp); try with_reducible rfl
            try simp only [Act.put, List.setIfInBounds_toArray, List.set_cons_zero, List.set_cons_succ]
            refine wpAnyT_take' (i := 13) (some 186) (v := ?_) rfl rfl (by kernel_rfl) (by kernel_rfl) (by kernel_rfl) (by decide) (fun _ _ _ h => h) (Or.inl ⟨by rfl, ?_⟩) (fun _ => trivial) hT0 ?_
            rotate_left
            · (intro w hSw; (try dsimp only at hSw); go_simp); try with_reducible rfl
            try simp only [Act.put, List.setIfInBounds_toArray, List.set_cons_zero, List.set_cons_succ]
            refine wpAnyT_take' (i := 14) (some 187) (v := ?_) rfl rfl (by kernel_rfl) (by kernel_rfl) (by kernel_rfl) (by decide) (fun _ _ _ h => h) (Or.inl ⟨by rfl, ?_⟩) (fun _ => trivial) hT0 ?_
            rotate_left
            · (intro w hSw; (try dsimp only at hSw); go_simp); try with_reducible rfl
            try simp only [Act.put, List.setIfInBounds_toArray, List.set_cons_zero, List.set_cons_succ]
            refine wpAnyT_take' (i := 15) (some 188) (v := ?_) rfl rfl (by kernel_rfl) (by kernel_rfl) (by kernel_rfl) (by decide) (fun _ _ _ h => h) (Or.inl ⟨by rfl, ?_⟩) (fun _ => trivial) hT0 ?_
            rotate_left
            · (intro w hSw; (try dsimp only at hSw); go_simp); try with_reducible rfl
            try simp only [Act.put, List.setIfInBounds_toArray, List.set_cons_zero, List.set_cons_succ]
            refine wpAnyT_one (i := 10) (by kernel_rfl) rfl (fun K hK => ?_)
            go_simp
            refine (len_yes (HD2.out.more (Ext.refl _).drew).one).mono ?_
            rintro e w8 ⟨rfl, rfl⟩
            try simp only []
            refine hK _ _ (fun _ => trivial) hT0 ?_
            clear hK K
            try simp only [Act.put, List.setIfInBounds_toArray, List.set_cons_zero, List.set_cons_succ]
            refine wpAnyT_take' (i := 16) (some 189) (v := ?_) rfl rfl (by kernel_rfl) (by kernel_rfl) (by kernel_rfl) (by decide) (fun _ _ _ h => h) (Or.inl ⟨by rfl, ?_⟩) (fun _ => trivial) hT0 ?_
            rotate_left
            · (intro w hSw; (try dsimp only at hSw); go_simp); try with_reducible rfl
            try simp only [Act.put, List.setIfInBounds_toArray, List.set_cons_zero, List.set_cons_succ]
            refine wpAnyT_take' (i := 17) (some 190) (v := ?_) rfl rfl (by kernel_rfl) (by kernel_rfl) (by kernel_rfl) (by decide) (fun _ _ _ h => h) (Or.inl ⟨by rfl, ?_⟩) (fun _ => trivial) hT0 ?_
            rotate_left
            · (intro w hSw; (try dsimp only at hSw); go_simp); try with_reducible rfl
            try simp only [Act.put, List.setIfInBounds_toArray, List.set_cons_zero, List.set_cons_succ]
            refine wpAnyT_done (by kernel_rfl) ?_ _
            try simp only [Act.put, List.setIfInBounds_toArray, List.set_cons_zero, List.set_cons_succ]
            clear hT0 y2
            go_wp2
            go_roundw
            case rel => exact ⟨j + 1, by omega, by go_num, _, _, _, _, HD2.out.more (Ext.refl _).drew, HSM2.out⟩
            case measure => simp [intOf]; omega
    · have hjn : (j < n ∧ ¬ j < 80) ∨ ¬ j < n := by omega
      clear hlt
      rcases hjn with ⟨hjn, hj80⟩ | hjn
      · have hx1 : ((j : Nat) : Int) < n := by omega
        have hx2 : ¬ ((j : Nat) : Int) < 80 := by omega
        go_wp2_with fail
        refine (head17 _).mono ?_
        rintro e w3 ⟨_, rfl, E3, rfl⟩
        go_wp2
        go_ret
        exact Post.mk (HD0.out.ext.trans E3) rfl
      · have hx1 : ¬ ((j : Nat) : Int) < n := by omega
        go_wp2_with fail
        refine (head17 _).mono ?_
        rintro e w3 ⟨_, rfl, E3, rfl⟩
        go_wp2
        go_ret
        exact Post.mk (HD0.out.ext.trans E3) rfl
end Go.Proofs.YtbncdghbnnefdaaGreat
