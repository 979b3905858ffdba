/- The law 'TapeOwn' returns true for every input, and leaves what it was handed as it was: no condition. -/
import Derived.WalkKit
import Derived.ProofKit
import Derived.OpenShut
import Derived.ShutString
import Derived.ChangeOld
import Derived.Below
import Derived.Lib.SmallJoins
import Derived.Test.YtbncdghbnnefdaaRows
import Derived.Test.YtbncdghbnnefdaaM16

namespace Go.Proofs.Ytbncdghbnnefdaa
open Go.RowKit

set_option maxRecDepth 100000 in
set_option maxHeartbeats 16000000 in
theorem own_law0 (a : Option Addr) (n c : Nat) (w : World) (hA : Asks w a n) :
    Calls Try.prog 5 #[.slice a n c] w (Post w fun v _ => v = .bool true) := by
  have HA := Lib.hid hA
  have hfew := hA.few
  unfold maxLen at hfew
  clear hA
  go_enter Try.func5, Try.ntmps5
  go_wp2_with fail
  refine (new_yes 100 _ (by omega) (by omega)).mono ?_
  rintro e w1 ⟨pb, mb, rfl, E1, x1, x2, M1⟩
  have HS := Lib.hid (Solo.mk E1 M1 : Solo w w1 pb mb (.slice none 0 0) 100 0 [])
  clear E1 M1 x1 x2
  go_wp2_with fail
  refine (par_any _ _ _ _ _ _ _ _ HS.out.one).mono ?_
  rintro e w2 hr
  rw [head_par] at hr
  obtain ⟨r1, rfl, hS, _⟩ := HS.out.left hr
  clear hr HS
  go_wp2_with fail
  go_loopw [5] (fun k wr => ∃ j : Nat, j ≤ 40 ∧ k = .int .i64 j ∧ ∃ (row : Value) (pars : Nat) (L : List Step), Solo w wr pb mb row 100 pars L ∧ L ≠ []) (fun k _ => 40 - (intOf k).toNat)
  case atStart => exact ⟨0, by omega, rfl, _, _, _, hS, by simp [hL1]⟩
  case round =>
    clear hS
    obtain ⟨j, hj, rfl, row, pars, L, hS, hL0⟩ := hrel
    have HS := Lib.hid hS
    have HL0 := Lib.hid hL0
    clear hS hL0
    by_cases hlt : j < n ∧ j < 40
    · obtain ⟨hlt, h40⟩ := hlt
      obtain ⟨b', off, rfl, p, q, A, B, g, a1, n1, c1, z1, a2, n2, c2, z2, hp, hq, hA, hB, hr1, hr2, k0, k1, k2, k3, k4, k5, k6⟩ := HA.out.at hlt
      have HK := Lib.hid (And.intro k1 (And.intro k2 (And.intro k3 (And.intro k4 (And.intro k5 k6)))))
      replace k4 := HS.out.ext.cell k4
      replace k5 := HS.out.ext.cell k5
      replace k6 := HS.out.ext.cell k6
      obtain ⟨r, hr⟩ : ∃ r, r = (decide (n1 ≤ 3) && decide (n2 ≤ 3)) := ⟨_, rfl⟩
      have HM := Lib.hid (fun W => small06 g a1 a2 n1 c1 n2 c2 W)
      rw [← hr] at HM
      have Hr := Lib.hid hr
      have HR1 := Lib.hid hr1
      have HR2 := Lib.hid hr2
      have HQ := Lib.hid (And.intro hp (And.intro hq (And.intro hA hB)))
      have hlt' : ((j : Nat) : Int) < n := by omega
      have hlt2 : ((j : Nat) : Int) < 40 := by omega
      clear hr hr1 hr2 hp hq hA hB k0 k1 k2 k3
      go_wp2_with fail
      refine (HM.out _).mono ?_
      rintro e w2 ⟨_, rfl, E2, rfl⟩
      clear HM
      cases r
      · go_wp2_with fail
        refine (head17 _).mono ?_
        rintro e w3 ⟨_, rfl, E3, rfl⟩
        go_wp2
        go_ret
        exact Post.mk ((HS.out.ext.trans E2).trans E3) rfl
      · obtain ⟨hn1, hn2⟩ : n1 ≤ 3 ∧ n2 ≤ 3 := by have := Hr.out; simp at this; omega
        obtain ⟨nn, ht1, hi1⟩ := HR1.out.is (show n1 ≤ 6 by omega)
        obtain ⟨dd, ht2, hi2⟩ := HR2.out.is (show n2 ≤ 6 by omega)
        have HS2 := Lib.hid (HS.out.more E2)
        replace k4 := E2.cell k4
        replace k5 := E2.cell k5
        replace k6 := E2.cell k6
        have HI := Lib.hid (And.intro hi1 (And.intro hi2 (And.intro (lt_top6 ht1) (lt_top6 ht2))))
        clear hi1 hi2 ht1 ht2 hn1 hn2 E2 HS Hr HR1 HR2
        go_wp2_with fail
        refine (num_all _ _ _ _ _ _ _ g a1 a2 n1 c1 n2 c2 nn dd _ HS2.out.one (HI.out.1.ext HS2.out.ext) (HI.out.2.1.ext HS2.out.ext) HI.out.2.2.1 HI.out.2.2.2).mono ?_
        rintro e w3 hres
        obtain ⟨M, hM⟩ := num_pre 100 L g nn dd
        obtain ⟨r3, rfl, hS3, _⟩ := HS2.out.left hres
        rw [hM] at hS3
        have HS3 := Lib.hid hS3
        clear hres hS3 hM k4 k5 k6 HS2 HI
        have k1 := HS3.out.ext.cell HK.out.1
        have k2 := HS3.out.ext.cell HK.out.2.1
        have k3 := HS3.out.ext.cell HK.out.2.2.1
        go_wp2_with fail
        refine wp_region_T (fun _ => True) (fun w' : World => w'.cell? ⟨b', off + j * 7 + 1, none⟩ = some (.int .u8 q) ∧ w'.cell? ⟨b', off + j * 7 + 2, none⟩ = some (.int .i64 A) ∧ w'.cell? ⟨b', off + j * 7 + 3, none⟩ = some (.int .i64 B)) 99 17 (by rfl) (by kernel_rfl) ?_
        have hT0 : w3.drew.cell? ⟨b', off + j * 7 + 1, none⟩ = some (.int .u8 q) ∧ w3.drew.cell? ⟨b', off + j * 7 + 2, none⟩ = some (.int .i64 A) ∧ w3.drew.cell? ⟨b', off + j * 7 + 3, none⟩ = some (.int .i64 B) := ⟨k1, k2, k3⟩
        refine wpAnyT_take' (i := 0) (some 52) (v := ?_) rfl rfl (by kernel_rfl) (by kernel_rfl) (by kernel_rfl) (by decide) (fun _ _ _ h => h) (Or.inl ⟨by rfl, ?_⟩) (fun _ => trivial) hT0 ?_
        rotate_left
        · (intro w hSw; (try dsimp only at hSw); go_simp); try with_reducible rfl
        try simp only [Act.put, List.setIfInBounds_toArray, List.set_cons_zero, List.set_cons_succ]
        refine wpAnyT_take' (i := 1) (some 53) (v := ?_) rfl rfl (by kernel_rfl) (by kernel_rfl) (by kernel_rfl) (by decide) (fun _ _ _ h => h) (Or.inl ⟨by rfl, ?_⟩) (fun _ => trivial) hT0 ?_
        rotate_left
        · (intro w hSw; (try dsimp only at hSw); go_simp); try with_reducible rfl
        try simp only [Act.put, List.setIfInBounds_toArray, List.set_cons_zero, List.set_cons_succ]
        refine wpAnyT_take' (i := 2) (some 54) (v := ?_) rfl rfl (by kernel_rfl) (by kernel_rfl) (by kernel_rfl) (by decide) (fun _ _ _ h => h) (Or.inl ⟨by rfl, ?_⟩) (fun _ => trivial) hT0 ?_
        rotate_left
        · (intro w hSw; (try dsimp only at hSw); go_simp); try with_reducible rfl
        try simp only [Act.put, List.setIfInBounds_toArray, List.set_cons_zero, List.set_cons_succ]
        refine wpAnyT_take' (i := 3) (some 55) (v := ?_) rfl rfl (by kernel_rfl) (by kernel_rfl) (by kernel_rfl) (by decide) (fun _ _ _ h => h) (Or.inl ⟨by rfl, ?_⟩) (fun _ => trivial) hT0 ?_
        rotate_left
        · (intro w hSw; (try dsimp only at hSw); go_simp); try with_reducible rfl
        try simp only [Act.put, List.setIfInBounds_toArray, List.set_cons_zero, List.set_cons_succ]
        refine wpAnyT_take' (i := 4) (some 56) (v := ?_) rfl rfl (by kernel_rfl) (by kernel_rfl) (by kernel_rfl) (by decide) (fun _ _ _ h => h) (Or.inl ⟨by rfl, ?_⟩) (fun _ => trivial) hT0 ?_
        rotate_left
        · (intro w hSw; (try dsimp only at hSw); go_simp); try with_reducible rfl
        try simp only [Act.put, List.setIfInBounds_toArray, List.set_cons_zero, List.set_cons_succ]
        refine wpAnyT_take' (i := 5) (some 57) (v := ?_) rfl rfl (by kernel_rfl) (by kernel_rfl) (by kernel_rfl) (by decide) (fun _ _ _ h => h) (Or.inl ⟨by rfl, ?_⟩) (fun _ => trivial) hT0 ?_
        rotate_left
        · (intro w hSw; (try dsimp only at hSw); go_simp); try with_reducible rfl
        try simp only [Act.put, List.setIfInBounds_toArray, List.set_cons_zero, List.set_cons_succ]
        refine wpAnyT_take' (i := 6) (some 58) (v := ?_) rfl rfl (by kernel_rfl) (by kernel_rfl) (by kernel_rfl) (by decide) (fun _ _ _ h => h) (Or.inl ⟨by rfl, ?_⟩) (fun _ => trivial) hT0 ?_
        rotate_left
        · (intro w hSw; (try dsimp only at hSw); go_simp); try with_reducible rfl
        try simp only [Act.put, List.setIfInBounds_toArray, List.set_cons_zero, List.set_cons_succ]
        refine wpAnyT_take' (i := 7) (some 59) (v := ?_) rfl rfl (by kernel_rfl) (by kernel_rfl) (by kernel_rfl) (by decide) (fun _ _ _ h => h) (Or.inl ⟨by rfl, ?_⟩) (fun _ => trivial) hT0 ?_
        rotate_left
        · (intro w hSw; (try dsimp only at hSw); go_simp); try with_reducible rfl
        try simp only [Act.put, List.setIfInBounds_toArray, List.set_cons_zero, List.set_cons_succ]
        refine wpAnyT_take' (i := 8) (some 60) (v := ?_) rfl rfl (by kernel_rfl) (by kernel_rfl) (by kernel_rfl) (by decide) (fun _ _ _ h => h) (Or.inl ⟨by rfl, ?_⟩) (fun _ => trivial) hT0 ?_
        rotate_left
        · (intro w hSw; (try dsimp only at hSw); go_simp); try with_reducible rfl
        try simp only [Act.put, List.setIfInBounds_toArray, List.set_cons_zero, List.set_cons_succ]
        refine wpAnyT_take' (i := 9) (some 61) (v := ?_) rfl rfl (by kernel_rfl) (by kernel_rfl) (by kernel_rfl) (by decide) (fun _ _ _ h => h) (Or.inl ⟨by rfl, ?_⟩) (fun _ => trivial) hT0 ?_
        rotate_left
        · (intro w hSw; (try dsimp only at hSw); go_simp); try with_reducible rfl
        try simp only [Act.put, List.setIfInBounds_toArray, List.set_cons_zero, List.set_cons_succ]
        refine wpAnyT_take' (i := 10) (some 62) (v := ?_) rfl rfl (by kernel_rfl) (by kernel_rfl) (by kernel_rfl) (by decide) (fun _ _ _ h => h) (Or.inl ⟨by rfl, ?_⟩) (fun _ => trivial) hT0 ?_
        rotate_left
        · (intro w hSw; (try dsimp only at hSw); go_simp); try with_reducible rfl
        try simp only [Act.put, List.setIfInBounds_toArray, List.set_cons_zero, List.set_cons_succ]
        refine wpAnyT_take' (i := 11) (some 63) (v := ?_) rfl rfl (by kernel_rfl) (by kernel_rfl) (by kernel_rfl) (by decide) (fun _ _ _ h => h) (Or.inl ⟨by rfl, ?_⟩) (fun _ => trivial) hT0 ?_
        rotate_left
        · (intro w hSw; (try dsimp only at hSw); go_simp); try with_reducible rfl
        try simp only [Act.put, List.setIfInBounds_toArray, List.set_cons_zero, List.set_cons_succ]
        refine wpAnyT_take' (i := 12) (some 64) (v := ?_) rfl rfl (by kernel_rfl) (by kernel_rfl) (by kernel_rfl) (by decide) (fun _ _ _ h => h) (Or.inl ⟨by rfl, ?_⟩) (fun _ => trivial) hT0 ?_
        rotate_left
        · (intro w hSw; (try dsimp only at hSw); go_simp); try with_reducible rfl
        try simp only [Act.put, List.setIfInBounds_toArray, List.set_cons_zero, List.set_cons_succ]
        refine wpAnyT_take' (i := 13) (some 65) (v := ?_) rfl rfl (by kernel_rfl) (by kernel_rfl) (by kernel_rfl) (by decide) (fun _ _ _ h => h) (Or.inl ⟨by rfl, ?_⟩) (fun _ => trivial) hT0 ?_
        rotate_left
        · (intro w hSw; (try dsimp only at hSw); go_simp); try with_reducible rfl
        try simp only [Act.put, List.setIfInBounds_toArray, List.set_cons_zero, List.set_cons_succ]
        refine wpAnyT_take' (i := 14) (some 66) (v := ?_) rfl rfl (by kernel_rfl) (by kernel_rfl) (by kernel_rfl) (by decide) (fun _ _ _ h => h) (Or.inl ⟨by rfl, ?_⟩) (fun _ => trivial) hT0 ?_
        rotate_left
        · (intro w hSw; (try dsimp only at hSw); go_simp); try with_reducible rfl
        try simp only [Act.put, List.setIfInBounds_toArray, List.set_cons_zero, List.set_cons_succ]
        refine wpAnyT_take' (i := 15) (some 67) (v := ?_) rfl rfl (by kernel_rfl) (by kernel_rfl) (by kernel_rfl) (by decide) (fun _ _ _ h => h) (Or.inl ⟨by rfl, ?_⟩) (fun _ => trivial) hT0 ?_
        rotate_left
        · (intro w hSw; (try dsimp only at hSw); go_simp); try with_reducible rfl
        try simp only [Act.put, List.setIfInBounds_toArray, List.set_cons_zero, List.set_cons_succ]
        refine wpAnyT_one (i := 16) (by kernel_rfl) rfl (fun K hK => ?_)
        go_simp
        refine (two_any _ _ _ _ _ _ _ q A B _ (HS3.out.more (Ext.refl _).drew).one HQ.out.2.1 HQ.out.2.2.1 HQ.out.2.2.2).mono ?_
        rintro e w4 hres
        obtain ⟨M2, hM2⟩ := step_pre 100 pars (L ++ M) (opStep q A B) 3
        obtain ⟨r4, rfl, hS4, _⟩ := (HS3.out.more (Ext.refl _).drew).left hres
        rw [hM2] at hS4
        have HS4 := Lib.hid hS4
        have hT1 : w4.cell? ⟨b', off + j * 7 + 1, none⟩ = some (.int .u8 q) ∧ w4.cell? ⟨b', off + j * 7 + 2, none⟩ = some (.int .i64 A) ∧ w4.cell? ⟨b', off + j * 7 + 3, none⟩ = some (.int .i64 B) := ⟨HS4.out.ext.cell HK.out.1, HS4.out.ext.cell HK.out.2.1, HS4.out.ext.cell HK.out.2.2.1⟩
        try simp only []
        refine hK _ _ (fun _ => trivial) hT1 ?_
        clear hK K
        try simp only [Act.put, List.setIfInBounds_toArray, List.set_cons_zero, List.set_cons_succ]
        refine wpAnyT_done (by kernel_rfl) ?_ _
        try simp only [Act.put, List.setIfInBounds_toArray, List.set_cons_zero, List.set_cons_succ]
        have hne : L ++ M ++ M2 ≠ [] := by
          intro e
          have := HL0.out
          simp at e
          exact this e.1
        clear hT1 hT0 hres hM2 hS4 HS3 k1 k2 k3
        go_wp2
        go_roundw
        case rel => exact ⟨j + 1, by omega, by go_num, _, _, _, HS4.out, hne⟩
        case measure => simp [intOf]; omega
    · have hjn : (j < n ∧ ¬ j < 40) ∨ ¬ j < n := by omega
      clear hlt
      rcases hjn with ⟨hjn, hj40⟩ | hjn
      · have hx1 : ((j : Nat) : Int) < n := by omega
        have hx2 : ¬ ((j : Nat) : Int) < 40 := by omega
        obtain ⟨W0, rfl⟩ : ∃ W0 : World, W0 = wr := ⟨_, rfl⟩
        go_wp2_with fail
        obtain ⟨N0, hN0⟩ : ∃ N0, N0 = W0.heap.size := ⟨_, rfl⟩
        obtain ⟨W1, hW1⟩ : ∃ W1, W1 = W0.alloc (.cells #[.string ⟨#[120]⟩, .int .i64 0] 58) := ⟨_, rfl⟩
        have bN : W1.heap[N0]? = some (.cells #[.string ⟨#[120]⟩, .int .i64 0] 58 (0, 0)) := by rw [hW1, hN0]; exact heap_alloc_new _ _
        have sW1 : W1.heap.size = N0 + 1 := by rw [hW1, hN0]; simp
        have eW1 : Ext W0 W1 := by rw [hW1]; exact Ext.of_alloc _ _
        have hTl1 : Tells W1 (some ⟨N0, 0, none⟩) 1 1 [(⟨#[120]⟩, 0)] := tells_one (by simp [World.cell?, bN]) (by simp [World.cell?, bN])
        rw [← hW1, ← hN0]
        have HN0 := Lib.hid hN0
        clear hW1 hx1 hN0
        have HCK := Lib.hid (good_check0 (x := ⟨#[120]⟩) HS.out.one.good HL0.out)
        have hlen := HS.out.one.good.len
        refine (tape_yes _ _ _ _ _ _ _ 0 _ _ _ _ _ (HS.out.one.kept eW1) hTl1).mono ?_
        rintro e w5 ⟨v, rfl, E5, hres, _⟩
        obtain ⟨rva, tva, cellsA, rfl, hrowA, htelA⟩ := hres HCK.out
        obtain ⟨g, ca, rfl, hg1, hg2, hWr⟩ := Wr.of hrowA HS.out.one.fewL HL0.out
        obtain ⟨ata, cta, rfl, _⟩ := htelA.tells (by decide)
        have h1 : [((⟨#[120]⟩, 0) : ByteArray × Int)].length = 1 := rfl
        rw [h1]
        rw [sW1] at hg1 hWr
        clear hres hrowA htelA
        have HWr := Lib.hid hWr
        have HTl := Lib.hid hTl1
        have HE := Lib.hid (And.intro eW1 E5)
        have b5 := E5.block bN
        clear hWr hTl1 eW1 E5 bN sW1
        go_wp2_with fail
        obtain ⟨ta, hta⟩ : ∃ ta, ta = w5.heap.size := ⟨_, rfl⟩
        obtain ⟨W2, hW2⟩ : ∃ W2, W2 = w5.alloc (.cells #[.int .i64 pars, .int .i64 0, .slice (some ⟨g, 0, none⟩) L.length ca, .slice ata 1 cta] 46) := ⟨_, rfl⟩
        have sW2 : W2.heap.size = ta + 1 := by rw [hW2, hta]; simp
        have eW2 : Ext w5 W2 := by rw [hW2]; exact Ext.of_alloc _ _
        have q2 : W2.cell? ⟨ta, 2, none⟩ = some (.slice (some ⟨g, 0, none⟩) L.length ca) := by rw [hW2, hta]; simp [go_sem]
        rw [← hW2, ← hta]
        have lN : N0 < ta := by rw [hta]; exact (Array.getElem?_eq_some_iff.1 b5).1
        have Hta := Lib.hid hta
        clear hW2 hta
        refine (tape_yes _ _ _ _ _ _ _ 0 _ _ _ _ _ (HS.out.one.kept ((HE.out.1.trans HE.out.2).trans eW2)) ((HTl.out.ext HE.out.2).ext eW2)).mono ?_
        rintro e w6 ⟨v, rfl, E6, hres, _⟩
        obtain ⟨rvb, tvb, cellsB, rfl, hrowB, htelB⟩ := hres HCK.out
        obtain ⟨arb, crb, hrb⟩ := hrowB.form
        obtain ⟨atb, ctb, htb, _⟩ := htelB.tells (by decide)
        subst hrb htb
        rw [h1] at htelB ⊢
        rw [sW2] at hrowB htelB
        have HRB := Lib.hid hrowB
        have HTB := Lib.hid htelB
        have q2' := E6.cell q2
        have HE2 := Lib.hid (And.intro eW2 E6)
        have b6 := E6.block (eW2.block b5)
        have x0 : w6.cell? ⟨N0, 0, none⟩ = some (.string ⟨#[120]⟩) := by simp [World.cell?, b6]
        have f0 : w6.frozen? ⟨N0, 0, none⟩ = false := by simp [World.frozen?, b6]
        have l6 : N0 < w6.heap.size := (Array.getElem?_eq_some_iff.1 b6).1
        have l5 : ta < w6.heap.size := by have := World.block_lt_of_cell? _ _ q2'; simpa using this
        clear hres hrowB htelB q2 eW2 E6 b5 h1
        go_wp2_with fail
        obtain ⟨tb, htb⟩ : ∃ tb, tb = w6.heap.size := ⟨_, rfl⟩
        obtain ⟨W8, hW8⟩ : ∃ W8, W8 = ((w6.setCell ⟨N0, 0, none⟩ (.string ⟨#[121]⟩)).alloc (.cells #[.int .i64 pars, .int .i64 0, .slice arb L.length crb, .slice atb 1 ctb] 46)) := ⟨_, rfl⟩
        have hTurn : Turn W0 W8 ta tb g N0 (ta + 1) ca pars L.length (.slice arb L.length crb) (.slice atb 1 ctb) L [(⟨#[120]⟩, 0)] := by
          have eA : Ext W0 w6 := ((HE.out.1.trans HE.out.2).trans HE2.out.1).trans HE2.out.2
          have eS : Ext W0 (w6.setCell ⟨N0, 0, none⟩ (.string ⟨#[121]⟩)) := Below.setCell (p := ⟨N0, 0, none⟩) eA (by rw [← HN0.out]; exact Nat.le_refl _) _
          have hWr6 : Wr w6 (N0 + 1) w5.heap.size g L.length := HWr.out.ext (HE2.out.1.trans HE2.out.2) (Nat.le_refl _) hg2
          rw [← Hta.out] at hWr6 hg2
          rw [hW8]
          refine ⟨eS.alloc _, ⟨cellsB, (HRB.out.set (p := ⟨N0, 0, none⟩) (by show N0 < _; omega) _).ext (Ext.of_alloc _ _)⟩, ownsRow_ext (ownsRow_set (p := ⟨N0, 0, none⟩) HTB.out (by show N0 < _; omega) _) (Ext.of_alloc _ _), ?_, ?_, ?_, ?_, ?_, ?_, HN0.out.symm, by omega, by omega, hg2, by omega⟩
          · exact ((hWr6.mono (show N0 ≤ N0 + 1 by omega)).set (p := ⟨N0, 0, none⟩) (by intro e; simp at e; omega)).ext (Ext.of_alloc _ _) (by simp; omega) (by simp; omega)
          · refine (Ext.of_alloc _ _).cell ?_
            rw [World.cell?_setCell_other _ _ _ _ (by first | (simp; done) | (simp; omega))]
            exact q2'
          all_goals rw [htb]; simp [go_sem]
        have HT8 := Lib.hid hTurn
        rw [← hW8, ← htb]
        clear hTurn htb hW8 HWr HRB HTB HE HE2 q2' x0 f0 l6 l5 b6 sW2 hg1 hg2 Hta HTl
        go_loopw [11] (fun k wq => ∃ i : Nat, i ≤ L.length ∧ k = .int .i64 i ∧ Turn W0 wq ta tb g N0 (ta + 1) ca pars L.length (.slice arb L.length crb) (.slice atb 1 ctb) L [(⟨#[120]⟩, 0)]) (fun k _ => L.length - (intOf k).toNat)
        case atStart => exact ⟨0, Nat.zero_le _, rfl, HT8.out⟩
        case round =>
          clear HT8
          obtain ⟨i, hi, rfl, hT⟩ := hrel
          have y2 := hT.ca
          by_cases hil : i < L.length
          · have hil' : ((i : Nat) : Int) < L.length := by omega
            obtain ⟨ai, ni, ci, hl1, hl2, _⟩ := hT.wr.limbs i hil
            have HTu := Lib.hid hT
            clear hT
            go_wp2_with fail
            go_loopw [12] (fun k wq => ∃ m : Nat, m ≤ ni ∧ k = .int .i64 m ∧ Turn W0 wq ta tb g N0 (ta + 1) ca pars L.length (.slice arb L.length crb) (.slice atb 1 ctb) L [(⟨#[120]⟩, 0)] ∧ wq.cell? ⟨g, i * 6 + 4, none⟩ = some (.slice ai ni ci)) (fun k _ => ni - (intOf k).toNat)
            case atStart => exact ⟨0, Nat.zero_le _, rfl, HTu.out, hl1⟩
            case round =>
              clear HTu hl1 y2
              obtain ⟨m, hm, rfl, hT, hc4⟩ := hrel
              have y2 := hT.ca
              by_cases hml : m < ni
              · have hml' : ((m : Nat) : Int) < ni := by omega
                obtain ⟨ai', ni', ci', hd1, hd2, hd3⟩ := hT.wr.limbs i hil
                rw [hc4] at hd1
                cases hd1
                rcases hd3 with hd3 | ⟨gi, rfl, n1, n2, n3, n4, n5⟩
                · omega
                · obtain ⟨x, hx⟩ := n5 m hml
                  have hf4 := n4 m
                  have hT' := hT.set (p := ⟨gi, m, none⟩) (u := .int .u64 0) n3 n2 (fun e => absurd e n1)
                  have hc' : (wr.setCell ⟨gi, m, none⟩ (.int .u64 0)).cell? ⟨g, i * 6 + 4, none⟩ = some (.slice (some ⟨gi, 0, none⟩) ni ci) := by
                    rw [World.cell?_setCell_other _ _ _ _ (by intro e; exact n1 (congrArg Addr.block e))]
                    exact hc4
                  have HT' := Lib.hid hT'
                  have Hc' := Lib.hid hc'
                  clear hT hT' hc' n4 n5
                  go_wp2
                  go_roundw
                  case rel => exact ⟨m + 1, by omega, by go_num, HT'.out, Hc'.out⟩
                  case measure => simp [intOf]; omega
              · have hml' : ¬ ((m : Nat) : Int) < ni := by omega
                obtain ⟨x, hx⟩ := hT.wr.cellA i hil
                have hf1 := hT.wr.fr (i * 6 + 1)
                have hT' := hT.set (p := ⟨g, i * 6 + 1, none⟩) (u := .int .i64 99) hT.l3 hT.l4 (fun _ => ⟨i, rfl⟩)
                have HT' := Lib.hid hT'
                clear hT hT'
                go_wp2
                go_roundw
                case rel => exact ⟨i + 1, by omega, by go_num, HT'.out⟩
                case measure => simp [intOf]; omega
          · have hil' : ¬ ((i : Nat) : Int) < L.length := by omega
            have HT := Lib.hid hT
            have HMk := Lib.hid (HS.out.one.kept hT.ext)
            clear hT
            go_wp2_with fail
            refine (one_any _ _ _ _ _ _ _ 7 0 _ HMk.out (by omega) rfl).mono ?_
            rintro e w9 hres
            obtain ⟨M, hM⟩ := step_pre 100 pars L (opStep 7 0 0) 4
            obtain ⟨row9, rfl, hS9, hv9⟩ := (HS.out.more HT.out.ext).left hres
            rw [hM] at hS9
            obtain ⟨L', hL'⟩ : ∃ L', L' = L ++ M := ⟨_, rfl⟩
            rw [← hL'] at hS9
            have hne : L' ≠ [] := by rw [hL']; intro e; have := HL0.out; simp at e; exact this e.1
            have htk : L'.take L.length = L := by rw [hL']; simp
            have hle : L.length ≤ L'.length := by rw [hL']; simp
            obtain ⟨lp1, lp2, lp3⟩ := HS.out.one.lts
            rw [← HN0.out] at lp1 lp2 lp3
            have hup : Up N0 wr w9 := hv9.up lp1 lp2 (fun k hk => (lp3 k hk).2)
            obtain ⟨cellsB9, hrB⟩ := HT.out.row
            have rowB := hup.orow (show N0 ≤ ta + 1 by omega) hrB
            have telB : OwnT w9 (ta + 1) (.slice atb 1 ctb) [(⟨#[120]⟩, 0)] := hup.ownsRow (show N0 ≤ ta + 1 by omega) HT.out.tel
            have ltb : N0 ≤ tb := by have := HT.out.l2; omega
            have p0 := hup.cell (p := ⟨tb, 0, none⟩) ltb HT.out.cb0
            have p1 := hup.cell (p := ⟨tb, 1, none⟩) ltb HT.out.cb1
            have p2 := hup.cell (p := ⟨tb, 2, none⟩) ltb HT.out.cb2
            have p3 := hup.cell (p := ⟨tb, 3, none⟩) ltb HT.out.cb3
            have HS9 := Lib.hid hS9
            have HRB := Lib.hid rowB
            have HTB := Lib.hid telB
            have HTK := Lib.hid htk
            have hlen9 := hS9.one.good.len
            clear hS9 rowB telB htk hL' hM hup hv9 hres lp1 lp2 lp3 HMk hrB HT y2 ltb
            go_wp2_with fail
            obtain ⟨W9, hW9⟩ : ∃ W9, W9 = w9.alloc (.cells #[.string ⟨#[120]⟩, .int .i64 0] 58) := ⟨_, rfl⟩
            obtain ⟨t9, ht9⟩ : ∃ t9, t9 = w9.heap.size := ⟨_, rfl⟩
            have e9 : Ext w9 W9 := by rw [hW9]; exact Ext.of_alloc _ _
            have hTl9 : Tells W9 (some ⟨t9, 0, none⟩) 1 1 [(⟨#[120]⟩, 0)] := tells_one (by rw [hW9, ht9]; simp [go_sem]) (by rw [hW9, ht9]; simp [go_sem])
            rw [← hW9, ← ht9]
            clear hW9 ht9
            refine (tape_yes _ _ _ _ _ _ _ 0 _ _ _ _ _ (HS9.out.one.kept e9) hTl9).mono ?_
            rintro e w10 ⟨v, rfl, E10, hres, _⟩
            obtain ⟨rvc, tvc, cellsC, rfl, hrowC, htelC⟩ := hres (good_check0 HS9.out.one.good hne)
            obtain ⟨gc, cc, rfl, _, _, _⟩ := Wr.of hrowC HS9.out.one.fewL hne
            obtain ⟨arc, crc, hrc, hstC⟩ := hrowC.rowSteps HS9.out.one.fewL (by omega)
            cases hrc
            have hcap : L'.length ≤ cc := by
              rcases hrowC.own.1.2 with ⟨e, e0⟩ | ⟨g', cap', cur', e, _, _, e1, _⟩
              · cases e
              · cases e; exact e1
            obtain ⟨atc, ctc, rfl, htC⟩ := htelC.tells (by decide)
            have E9 := e9.trans E10
            obtain ⟨arb', crb', hb', hstB⟩ := (HRB.out.ext E9).rowSteps HS.out.one.fewL (by omega)
            cases hb'
            obtain ⟨atb', ctb', htb', htB⟩ := (show OwnT w10 (ta + 1) (.slice atb 1 ctb) [(⟨#[120]⟩, 0)] from ownsRow_ext HTB.out E9).tells (by decide)
            have h1 : [((⟨#[120]⟩, 0) : ByteArray × Int)].length = 1 := rfl
            rw [h1] at htb' htB htC
            rw [h1]
            cases htb'
            obtain ⟨bb, ob, tt, rfl, htt, z0, _⟩ := htB.at (show 0 < 1 by omega)
            cases htt
            simp only [Nat.zero_mul, Nat.add_zero] at z0
            replace p0 := E9.cell p0
            replace p1 := E9.cell p1
            replace p2 := E9.cell p2
            replace p3 := E9.cell p3
            have HSC := Lib.hid (hstC.take hle HTK.out cc)
            have HSB := Lib.hid hstB
            have HTC := Lib.hid htC
            have HTB' := Lib.hid htB
            have HEX := Lib.hid (HS9.out.ext.trans E9)
            have hlc : ¬ ((L'.length : Nat) : Int) < L.length := by omega
            have ltb := World.block_lt_of_cell? _ _ p0
            simp at ltb
            have lbb := World.block_lt_of_cell? _ _ z0
            simp at lbb
            clear hres hrowC htelC hstC hstB htC htB e9 E10 E9 hTl9 HTK HRB HTB HS9 h1 hne
            go_wp2_with fail
            refine (tsame_any _ _ pars 0 pars 0 L L [(⟨#[120]⟩, 0)] [(⟨#[120]⟩, 0)] _ ⟨_, _, _, _, _, _, rfl, HSB.out.ext (Ext.of_alloc _ _), HTB'.out.ext (Ext.of_alloc _ _)⟩ ⟨_, _, _, _, _, _, rfl, HSC.out.ext (Ext.of_alloc _ _), HTC.out.ext (Ext.of_alloc _ _)⟩).mono ?_
            rintro e w11 ⟨_, rfl, E11, rfl⟩
            rw [sameP_self]
            go_wp2_with fail
            refine (head17 _).mono ?_
            rintro e w12 ⟨_, rfl, E12, rfl⟩
            go_wp2
            go_ret
            exact Post.mk (((HEX.out.alloc _).trans E11).trans E12) rfl
      · have hx1 : ¬ ((j : Nat) : Int) < n := by omega
        obtain ⟨W0, rfl⟩ : ∃ W0 : World, W0 = wr := ⟨_, rfl⟩
        go_wp2_with fail
        obtain ⟨N0, hN0⟩ : ∃ N0, N0 = W0.heap.size := ⟨_, rfl⟩
        obtain ⟨W1, hW1⟩ : ∃ W1, W1 = W0.alloc (.cells #[.string ⟨#[120]⟩, .int .i64 0] 58) := ⟨_, rfl⟩
        have bN : W1.heap[N0]? = some (.cells #[.string ⟨#[120]⟩, .int .i64 0] 58 (0, 0)) := by rw [hW1, hN0]; exact heap_alloc_new _ _
        have sW1 : W1.heap.size = N0 + 1 := by rw [hW1, hN0]; simp
        have eW1 : Ext W0 W1 := by rw [hW1]; exact Ext.of_alloc _ _
        have hTl1 : Tells W1 (some ⟨N0, 0, none⟩) 1 1 [(⟨#[120]⟩, 0)] := tells_one (by simp [World.cell?, bN]) (by simp [World.cell?, bN])
        rw [← hW1, ← hN0]
        have HN0 := Lib.hid hN0
        clear hW1 hx1 hN0
        have HCK := Lib.hid (good_check0 (x := ⟨#[120]⟩) HS.out.one.good HL0.out)
        have hlen := HS.out.one.good.len
        refine (tape_yes _ _ _ _ _ _ _ 0 _ _ _ _ _ (HS.out.one.kept eW1) hTl1).mono ?_
        rintro e w5 ⟨v, rfl, E5, hres, _⟩
        obtain ⟨rva, tva, cellsA, rfl, hrowA, htelA⟩ := hres HCK.out
        obtain ⟨g, ca, rfl, hg1, hg2, hWr⟩ := Wr.of hrowA HS.out.one.fewL HL0.out
        obtain ⟨ata, cta, rfl, _⟩ := htelA.tells (by decide)
        have h1 : [((⟨#[120]⟩, 0) : ByteArray × Int)].length = 1 := rfl
        rw [h1]
        rw [sW1] at hg1 hWr
        clear hres hrowA htelA
        have HWr := Lib.hid hWr
        have HTl := Lib.hid hTl1
        have HE := Lib.hid (And.intro eW1 E5)
        have b5 := E5.block bN
        clear hWr hTl1 eW1 E5 bN sW1
        go_wp2_with fail
        obtain ⟨ta, hta⟩ : ∃ ta, ta = w5.heap.size := ⟨_, rfl⟩
        obtain ⟨W2, hW2⟩ : ∃ W2, W2 = w5.alloc (.cells #[.int .i64 pars, .int .i64 0, .slice (some ⟨g, 0, none⟩) L.length ca, .slice ata 1 cta] 46) := ⟨_, rfl⟩
        have sW2 : W2.heap.size = ta + 1 := by rw [hW2, hta]; simp
        have eW2 : Ext w5 W2 := by rw [hW2]; exact Ext.of_alloc _ _
        have q2 : W2.cell? ⟨ta, 2, none⟩ = some (.slice (some ⟨g, 0, none⟩) L.length ca) := by rw [hW2, hta]; simp [go_sem]
        rw [← hW2, ← hta]
        have lN : N0 < ta := by rw [hta]; exact (Array.getElem?_eq_some_iff.1 b5).1
        have Hta := Lib.hid hta
        clear hW2 hta
        refine (tape_yes _ _ _ _ _ _ _ 0 _ _ _ _ _ (HS.out.one.kept ((HE.out.1.trans HE.out.2).trans eW2)) ((HTl.out.ext HE.out.2).ext eW2)).mono ?_
        rintro e w6 ⟨v, rfl, E6, hres, _⟩
        obtain ⟨rvb, tvb, cellsB, rfl, hrowB, htelB⟩ := hres HCK.out
        obtain ⟨arb, crb, hrb⟩ := hrowB.form
        obtain ⟨atb, ctb, htb, _⟩ := htelB.tells (by decide)
        subst hrb htb
        rw [h1] at htelB ⊢
        rw [sW2] at hrowB htelB
        have HRB := Lib.hid hrowB
        have HTB := Lib.hid htelB
        have q2' := E6.cell q2
        have HE2 := Lib.hid (And.intro eW2 E6)
        have b6 := E6.block (eW2.block b5)
        have x0 : w6.cell? ⟨N0, 0, none⟩ = some (.string ⟨#[120]⟩) := by simp [World.cell?, b6]
        have f0 : w6.frozen? ⟨N0, 0, none⟩ = false := by simp [World.frozen?, b6]
        have l6 : N0 < w6.heap.size := (Array.getElem?_eq_some_iff.1 b6).1
        have l5 : ta < w6.heap.size := by have := World.block_lt_of_cell? _ _ q2'; simpa using this
        clear hres hrowB htelB q2 eW2 E6 b5 h1
        go_wp2_with fail
        obtain ⟨tb, htb⟩ : ∃ tb, tb = w6.heap.size := ⟨_, rfl⟩
        obtain ⟨W8, hW8⟩ : ∃ W8, W8 = ((w6.setCell ⟨N0, 0, none⟩ (.string ⟨#[121]⟩)).alloc (.cells #[.int .i64 pars, .int .i64 0, .slice arb L.length crb, .slice atb 1 ctb] 46)) := ⟨_, rfl⟩
        have hTurn : Turn W0 W8 ta tb g N0 (ta + 1) ca pars L.length (.slice arb L.length crb) (.slice atb 1 ctb) L [(⟨#[120]⟩, 0)] := by
          have eA : Ext W0 w6 := ((HE.out.1.trans HE.out.2).trans HE2.out.1).trans HE2.out.2
          have eS : Ext W0 (w6.setCell ⟨N0, 0, none⟩ (.string ⟨#[121]⟩)) := Below.setCell (p := ⟨N0, 0, none⟩) eA (by rw [← HN0.out]; exact Nat.le_refl _) _
          have hWr6 : Wr w6 (N0 + 1) w5.heap.size g L.length := HWr.out.ext (HE2.out.1.trans HE2.out.2) (Nat.le_refl _) hg2
          rw [← Hta.out] at hWr6 hg2
          rw [hW8]
          refine ⟨eS.alloc _, ⟨cellsB, (HRB.out.set (p := ⟨N0, 0, none⟩) (by show N0 < _; omega) _).ext (Ext.of_alloc _ _)⟩, ownsRow_ext (ownsRow_set (p := ⟨N0, 0, none⟩) HTB.out (by show N0 < _; omega) _) (Ext.of_alloc _ _), ?_, ?_, ?_, ?_, ?_, ?_, HN0.out.symm, by omega, by omega, hg2, by omega⟩
          · exact ((hWr6.mono (show N0 ≤ N0 + 1 by omega)).set (p := ⟨N0, 0, none⟩) (by intro e; simp at e; omega)).ext (Ext.of_alloc _ _) (by simp; omega) (by simp; omega)
          · refine (Ext.of_alloc _ _).cell ?_
            rw [World.cell?_setCell_other _ _ _ _ (by first | (simp; done) | (simp; omega))]
            exact q2'
          all_goals rw [htb]; simp [go_sem]
        have HT8 := Lib.hid hTurn
        rw [← hW8, ← htb]
        clear hTurn htb hW8 HWr HRB HTB HE HE2 q2' x0 f0 l6 l5 b6 sW2 hg1 hg2 Hta HTl
        go_loopw [11] (fun k wq => ∃ i : Nat, i ≤ L.length ∧ k = .int .i64 i ∧ Turn W0 wq ta tb g N0 (ta + 1) ca pars L.length (.slice arb L.length crb) (.slice atb 1 ctb) L [(⟨#[120]⟩, 0)]) (fun k _ => L.length - (intOf k).toNat)
        case atStart => exact ⟨0, Nat.zero_le _, rfl, HT8.out⟩
        case round =>
          clear HT8
          obtain ⟨i, hi, rfl, hT⟩ := hrel
          have y2 := hT.ca
          by_cases hil : i < L.length
          · have hil' : ((i : Nat) : Int) < L.length := by omega
            obtain ⟨ai, ni, ci, hl1, hl2, _⟩ := hT.wr.limbs i hil
            have HTu := Lib.hid hT
            clear hT
            go_wp2_with fail
            go_loopw [12] (fun k wq => ∃ m : Nat, m ≤ ni ∧ k = .int .i64 m ∧ Turn W0 wq ta tb g N0 (ta + 1) ca pars L.length (.slice arb L.length crb) (.slice atb 1 ctb) L [(⟨#[120]⟩, 0)] ∧ wq.cell? ⟨g, i * 6 + 4, none⟩ = some (.slice ai ni ci)) (fun k _ => ni - (intOf k).toNat)
            case atStart => exact ⟨0, Nat.zero_le _, rfl, HTu.out, hl1⟩
            case round =>
              clear HTu hl1 y2
              obtain ⟨m, hm, rfl, hT, hc4⟩ := hrel
              have y2 := hT.ca
              by_cases hml : m < ni
              · have hml' : ((m : Nat) : Int) < ni := by omega
                obtain ⟨ai', ni', ci', hd1, hd2, hd3⟩ := hT.wr.limbs i hil
                rw [hc4] at hd1
                cases hd1
                rcases hd3 with hd3 | ⟨gi, rfl, n1, n2, n3, n4, n5⟩
                · omega
                · obtain ⟨x, hx⟩ := n5 m hml
                  have hf4 := n4 m
                  have hT' := hT.set (p := ⟨gi, m, none⟩) (u := .int .u64 0) n3 n2 (fun e => absurd e n1)
                  have hc' : (wr.setCell ⟨gi, m, none⟩ (.int .u64 0)).cell? ⟨g, i * 6 + 4, none⟩ = some (.slice (some ⟨gi, 0, none⟩) ni ci) := by
                    rw [World.cell?_setCell_other _ _ _ _ (by intro e; exact n1 (congrArg Addr.block e))]
                    exact hc4
                  have HT' := Lib.hid hT'
                  have Hc' := Lib.hid hc'
                  clear hT hT' hc' n4 n5
                  go_wp2
                  go_roundw
                  case rel => exact ⟨m + 1, by omega, by go_num, HT'.out, Hc'.out⟩
                  case measure => simp [intOf]; omega
              · have hml' : ¬ ((m : Nat) : Int) < ni := by omega
                obtain ⟨x, hx⟩ := hT.wr.cellA i hil
                have hf1 := hT.wr.fr (i * 6 + 1)
                have hT' := hT.set (p := ⟨g, i * 6 + 1, none⟩) (u := .int .i64 99) hT.l3 hT.l4 (fun _ => ⟨i, rfl⟩)
                have HT' := Lib.hid hT'
                clear hT hT'
                go_wp2
                go_roundw
                case rel => exact ⟨i + 1, by omega, by go_num, HT'.out⟩
                case measure => simp [intOf]; omega
          · have hil' : ¬ ((i : Nat) : Int) < L.length := by omega
            have HT := Lib.hid hT
            have HMk := Lib.hid (HS.out.one.kept hT.ext)
            clear hT
            go_wp2_with fail
            refine (one_any _ _ _ _ _ _ _ 7 0 _ HMk.out (by omega) rfl).mono ?_
            rintro e w9 hres
            obtain ⟨M, hM⟩ := step_pre 100 pars L (opStep 7 0 0) 4
            obtain ⟨row9, rfl, hS9, hv9⟩ := (HS.out.more HT.out.ext).left hres
            rw [hM] at hS9
            obtain ⟨L', hL'⟩ : ∃ L', L' = L ++ M := ⟨_, rfl⟩
            rw [← hL'] at hS9
            have hne : L' ≠ [] := by rw [hL']; intro e; have := HL0.out; simp at e; exact this e.1
            have htk : L'.take L.length = L := by rw [hL']; simp
            have hle : L.length ≤ L'.length := by rw [hL']; simp
            obtain ⟨lp1, lp2, lp3⟩ := HS.out.one.lts
            rw [← HN0.out] at lp1 lp2 lp3
            have hup : Up N0 wr w9 := hv9.up lp1 lp2 (fun k hk => (lp3 k hk).2)
            obtain ⟨cellsB9, hrB⟩ := HT.out.row
            have rowB := hup.orow (show N0 ≤ ta + 1 by omega) hrB
            have telB : OwnT w9 (ta + 1) (.slice atb 1 ctb) [(⟨#[120]⟩, 0)] := hup.ownsRow (show N0 ≤ ta + 1 by omega) HT.out.tel
            have ltb : N0 ≤ tb := by have := HT.out.l2; omega
            have p0 := hup.cell (p := ⟨tb, 0, none⟩) ltb HT.out.cb0
            have p1 := hup.cell (p := ⟨tb, 1, none⟩) ltb HT.out.cb1
            have p2 := hup.cell (p := ⟨tb, 2, none⟩) ltb HT.out.cb2
            have p3 := hup.cell (p := ⟨tb, 3, none⟩) ltb HT.out.cb3
            have HS9 := Lib.hid hS9
            have HRB := Lib.hid rowB
            have HTB := Lib.hid telB
            have HTK := Lib.hid htk
            have hlen9 := hS9.one.good.len
            clear hS9 rowB telB htk hL' hM hup hv9 hres lp1 lp2 lp3 HMk hrB HT y2 ltb
            go_wp2_with fail
            obtain ⟨W9, hW9⟩ : ∃ W9, W9 = w9.alloc (.cells #[.string ⟨#[120]⟩, .int .i64 0] 58) := ⟨_, rfl⟩
            obtain ⟨t9, ht9⟩ : ∃ t9, t9 = w9.heap.size := ⟨_, rfl⟩
            have e9 : Ext w9 W9 := by rw [hW9]; exact Ext.of_alloc _ _
            have hTl9 : Tells W9 (some ⟨t9, 0, none⟩) 1 1 [(⟨#[120]⟩, 0)] := tells_one (by rw [hW9, ht9]; simp [go_sem]) (by rw [hW9, ht9]; simp [go_sem])
            rw [← hW9, ← ht9]
            clear hW9 ht9
            refine (tape_yes _ _ _ _ _ _ _ 0 _ _ _ _ _ (HS9.out.one.kept e9) hTl9).mono ?_
            rintro e w10 ⟨v, rfl, E10, hres, _⟩
            obtain ⟨rvc, tvc, cellsC, rfl, hrowC, htelC⟩ := hres (good_check0 HS9.out.one.good hne)
            obtain ⟨gc, cc, rfl, _, _, _⟩ := Wr.of hrowC HS9.out.one.fewL hne
            obtain ⟨arc, crc, hrc, hstC⟩ := hrowC.rowSteps HS9.out.one.fewL (by omega)
            cases hrc
            have hcap : L'.length ≤ cc := by
              rcases hrowC.own.1.2 with ⟨e, e0⟩ | ⟨g', cap', cur', e, _, _, e1, _⟩
              · cases e
              · cases e; exact e1
            obtain ⟨atc, ctc, rfl, htC⟩ := htelC.tells (by decide)
            have E9 := e9.trans E10
            obtain ⟨arb', crb', hb', hstB⟩ := (HRB.out.ext E9).rowSteps HS.out.one.fewL (by omega)
            cases hb'
            obtain ⟨atb', ctb', htb', htB⟩ := (show OwnT w10 (ta + 1) (.slice atb 1 ctb) [(⟨#[120]⟩, 0)] from ownsRow_ext HTB.out E9).tells (by decide)
            have h1 : [((⟨#[120]⟩, 0) : ByteArray × Int)].length = 1 := rfl
            rw [h1] at htb' htB htC
            rw [h1]
            cases htb'
            obtain ⟨bb, ob, tt, rfl, htt, z0, _⟩ := htB.at (show 0 < 1 by omega)
            cases htt
            simp only [Nat.zero_mul, Nat.add_zero] at z0
            replace p0 := E9.cell p0
            replace p1 := E9.cell p1
            replace p2 := E9.cell p2
            replace p3 := E9.cell p3
            have HSC := Lib.hid (hstC.take hle HTK.out cc)
            have HSB := Lib.hid hstB
            have HTC := Lib.hid htC
            have HTB' := Lib.hid htB
            have HEX := Lib.hid (HS9.out.ext.trans E9)
            have hlc : ¬ ((L'.length : Nat) : Int) < L.length := by omega
            have ltb := World.block_lt_of_cell? _ _ p0
            simp at ltb
            have lbb := World.block_lt_of_cell? _ _ z0
            simp at lbb
            clear hres hrowC htelC hstC hstB htC htB e9 E10 E9 hTl9 HTK HRB HTB HS9 h1 hne
            go_wp2_with fail
            refine (tsame_any _ _ pars 0 pars 0 L L [(⟨#[120]⟩, 0)] [(⟨#[120]⟩, 0)] _ ⟨_, _, _, _, _, _, rfl, HSB.out.ext (Ext.of_alloc _ _), HTB'.out.ext (Ext.of_alloc _ _)⟩ ⟨_, _, _, _, _, _, rfl, HSC.out.ext (Ext.of_alloc _ _), HTC.out.ext (Ext.of_alloc _ _)⟩).mono ?_
            rintro e w11 ⟨_, rfl, E11, rfl⟩
            rw [sameP_self]
            go_wp2_with fail
            refine (head17 _).mono ?_
            rintro e w12 ⟨_, rfl, E12, rfl⟩
            go_wp2
            go_ret
            exact Post.mk (((HEX.out.alloc _).trans E11).trans E12) rfl
end Go.Proofs.Ytbncdghbnnefdaa

namespace Go.Proofs.Ytbncdghbnnefdaa
open Go.RowKit

theorem own_law (a0 : Option Addr) (n0 c0 : Nat) (w : World) (hA : Asks w a0 n0) :
    Calls Try.prog 5 #[.slice a0 n0 c0] w fun e w' => e = .returned (.bool true) ∧ Below w.heap.size w w' := by
  refine (own_law0 a0 n0 c0 w hA).mono ?_
  rintro e w' ⟨_, rfl, E, rfl⟩
  exact ⟨rfl, E⟩
end Go.Proofs.Ytbncdghbnnefdaa

namespace Go.Proofs.Ytbncdghbnnefdaa.tapeOwn
open Go.ChangeShapes Go.WideShapes Go.ChangeAt Go.RowKit
open Go.ChangeMaps (open_string shut_string)
set_option linter.unusedVariables false

theorem own : ownKnob Try.prog.godebug = none := by kernel_rfl
theorem laidOut : laidOutB Try.prog = true := by kernel_rfl

set_option maxRecDepth 100000 in
theorem lifted (os : Os) (started : os.Started) (H : Type) (enc : TypeId × Value → H) :
    ReturnsInHanded {} Try.checked os 5 .any (Rows.tapeOwnSpec.pre6 enc Try.prog Try.f5 Rows.tapeOwnRow.domain false) (Rows.tapeOwnSpec.post enc Try.prog Try.f5 false true false false) := by
  refine returnsInHanded_of_change (C := Try.checked) own started (by kernel_rfl) Try.func5
    (ChangeSpec.witness6 (enc := enc) (C := Try.checked) false ⟨#[], #[.slice none 0 0], []⟩ 8 (by kernel_rfl) (by kernel_rfl) (by kernel_rfl) (by kernel_rfl)) ?_
  intro W base args ds gs before hval0 hW hcnd _
  have hval : ∀ (j : Nat) t v, Try.f5.params[j]? = some t → args[j]? = some v → Value.okWide Try.prog W .any base t v := hval0
  have hW' := hW
  obtain ⟨p, q, hA0, hV, rfl, hfz, hnd⟩ := hW
  have hA : DataW.TrodAll enc Try.prog W 0 (fun _ => true) true Try.f5.params.toList args.toList ds p := hA0
  rw [Try.params5] at hA hval
  obtain ⟨v0, vs0, d0, ds0, p0, q0, hargs, rfl, rfl, h0, r0⟩ := trodAll_cons hA
  obtain ⟨rfl, rfl, rfl⟩ := trodAll_nil r0
  obtain rfl : args = #[v0] := by cases args; simp_all
  obtain ⟨rfl, rfl⟩ := trodVars_none hV
  have k0 := h0
  have lt0 : ∀ x ∈ p0, x.block < W.heap.size := by obtain ⟨m, hm⟩ := k0; exact DataW.trod_lt m _ _ _ hm
  obtain ⟨a0, n0, c0, rfl⟩ := okWide_slice Try.underlying22 (hval 0 22 v0 rfl rfl)
  have f0 : Asks W a0 n0 := by
    obtain ⟨fuel, hf⟩ := h0
    obtain ⟨a9, n9, k9, hcs, hg⟩ := asks_of (show DataW.trod _ _ _ _ _ _ fuel 22 [.slice a0 n0 c0] = _ from hf)
    cases hcs
    exact hg
  clear hA0 hval0
  refine (Go.Proofs.Ytbncdghbnnefdaa.own_law a0 n0 c0 W f0).mono fun e W' ⟨he, bel⟩ => ?_
  subst he
  exact ⟨_, rfl, _, _, _, [], _, [], hW', trodAll_mk1 (shut_bool Try.underlying4 _), (trodAll_cons_mk (Below.trod laidOut (by kernel_rfl) (of_decide_eq_true (by kernel_rfl)) k0 bel lt0) trodAll_mk0), rfl, bel.frame _, fun h => by cases h⟩

theorem over : Rows.tapeOwnRow.holds Try.pinned (OpenSpec.ofChange Rows.tapeOwnSpec) :=
  OpenClaim.holds_of_wide 5 Try.f5 rfl rfl rfl rfl rfl rfl rfl ⟨rfl, rfl, rfl, rfl, rfl⟩ rfl rfl rfl rfl rfl (by kernel_rfl) Try.func5 (by kernel_rfl)
    (of_decide_eq_true (by kernel_rfl)) (by unfold Func.isWrapper; first | (rw [if_pos (by decide +kernel)]; kernel_rfl) | (rw [if_neg (by decide +kernel)]; exact ⟨rfl, rfl⟩))
    (fun os started H enc _ => lifted os started H enc)

theorem proved : Rows.TapeOwnSaid :=
  over
#print axioms proved
end Go.Proofs.Ytbncdghbnnefdaa.tapeOwn
