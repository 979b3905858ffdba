/- Parts of the proof: contracts of the functions that the law reaches, and the arithmetic that they rest on; no condition beyond those that each theorem states. -/
import Derived.Test.YtbncdghbnnefdaaM16

namespace Go.Proofs.Ytbncdghbnnefdaa
open Go.RowKit

set_option maxRecDepth 100000 in
set_option maxHeartbeats 16000000 in
theorem may_yes (b : Nat) (a : Option Addr) (n c : Nat) (w : World) (hA : Asks w a n) (hb1 : 1 ≤ b) (hb2 : b ≤ 20000) :
    Calls Try.prog 3 #[.int .i64 b, .slice a n c] w (Post w fun v _ => v = .bool true) := by
  have HA := Lib.hid hA
  have hfew := hA.few
  unfold maxLen at hfew
  clear hA
  go_enter Try.func3, Try.ntmps3
  go_wp2_with fail
  refine (new_yes b _ hb1 hb2).mono ?_
  rintro e w1 ⟨pb, mb, rfl, E1, x1, x2, M1⟩
  have hS : Solo w w1 pb mb (.slice none 0 0) b 0 [] := ⟨E1, M1⟩
  clear E1 M1
  go_wp2_with fail
  go_loopw [7] (fun k wr => ∃ j : Nat, j ≤ 80 ∧ k = .int .i64 j ∧ ∃ (row : Value) (pars : Nat) (L : List Step), Solo w wr pb mb row b pars L) (fun k _ => 80 - (intOf k).toNat)
  case atStart => exact ⟨0, by omega, rfl, _, _, _, hS⟩
  case round =>
    clear hS
    obtain ⟨j, hj, rfl, row, pars, L, hS⟩ := hrel
    by_cases hlt : j < n ∧ j < 80
    · obtain ⟨hlt, h80⟩ := hlt
      obtain ⟨b', off, rfl, p, q, A, B, g, a1, n1, c1, z1, a2, n2, c2, z2, hp, hq, hA, hB, hr1, hr2, k0, k1, k2, k3, k4, k5, k6⟩ := HA.out.at hlt
      replace k0 := hS.ext.cell k0
      replace k1 := hS.ext.cell k1
      replace k2 := hS.ext.cell k2
      replace k3 := hS.ext.cell k3
      replace k4 := hS.ext.cell k4
      replace k5 := hS.ext.cell k5
      replace k6 := hS.ext.cell k6
      have HS := Lib.hid hS
      obtain ⟨r, hr⟩ : ∃ r, r = (decide (n1 ≤ 3) && decide (n2 ≤ 3)) := ⟨_, rfl⟩
      have HM := Lib.hid (fun W => small06 g a1 a2 n1 c1 n2 c2 W)
      rw [← hr] at HM
      have Hr := Lib.hid hr
      have HR1 := Lib.hid hr1
      have HR2 := Lib.hid hr2
      have HQ := Lib.hid (And.intro hp (And.intro hq (And.intro hA hB)))
      have hlt' : ((j : Nat) : Int) < n := by omega
      have hlt2 : ((j : Nat) : Int) < 80 := by omega
      clear hS hr hr1 hr2 hp hq hA hB
      go_wp2_with fail
      refine (HM.out _).mono ?_
      rintro e w2 ⟨_, rfl, E2, rfl⟩
      clear HM
      cases r
      · go_wp2_with fail
        refine (head17 _).mono ?_
        rintro e w3 ⟨_, rfl, E3, rfl⟩
        go_wp2
        go_ret
        exact Post.mk (((HS.out.ext.alloc _).trans E2).trans E3) rfl
      · obtain ⟨hn1, hn2⟩ : n1 ≤ 3 ∧ n2 ≤ 3 := by have := Hr.out; simp at this; omega
        obtain ⟨nn, ht1, hi1⟩ := HR1.out.is (show n1 ≤ 6 by omega)
        obtain ⟨dd, ht2, hi2⟩ := HR2.out.is (show n2 ≤ 6 by omega)
        have HI := Lib.hid (And.intro hi1 (And.intro hi2 (And.intro (lt_top6 ht1) (lt_top6 ht2))))
        have hS2 : Solo w w2 pb mb row b pars L := HS.out.more ((Ext.of_alloc _ _).trans E2)
        obtain ⟨xb, hxb⟩ : ∃ xb, xb = wr.heap.size := ⟨_, rfl⟩
        have hH : Has w2 pb mb row xb (.cells #[.int .u8 p, .int .u8 q, .int .i64 A, .int .i64 B, .bool g, .slice a1 n1 c1, .slice a2 n2 c2] 35 (0, 0)) := by
          obtain ⟨l1, l2, l3⟩ := HS.out.one.lts
          refine ⟨E2.block (by rw [hxb]; exact heap_alloc_new _ _), by omega, by omega, fun e => ?_⟩
          have := (l3 _ e).2
          omega
        rw [← hxb]
        clear hxb E2 HS Hr HR1 HR2 hn1 hn2 ht1 ht2 hi1 hi2 k0 k1 k2 k3 k4 k5 k6 hlt hlt' hlt2
        go_wp2_with fail
        go_loopw [9] (fun k wq => ∃ i : Nat, i ≤ 2 ∧ k = .int .i64 i ∧ ∃ (row : Value) (pars : Nat) (L : List Step), Solo w wq pb mb row b pars L ∧ Has wq pb mb row xb (.cells #[.int .u8 p, .int .u8 q, .int .i64 A, .int .i64 B, .bool g, .slice a1 n1 c1, .slice a2 n2 c2] 35 (0, 0)) ∧ Hid (i = 1 → nextL b pars L p q A B g nn dd = L)) (fun k _ => 2 - (intOf k).toNat)
        case atStart => exact ⟨0, by omega, rfl, row, pars, L, hS2, hH, Lib.hid (fun h => by omega)⟩
        case round =>
          clear hS2 hH
          obtain ⟨i, hi, rfl, row, pars, L, hS, hH, hN⟩ := hrel
          by_cases hlt3 : i < 2
          · have hlt3' : ((i : Nat) : Int) < 2 := by omega
            have d0 : wr.cell? ⟨xb, 0, none⟩ = some (.int .u8 p) := hH.cell rfl
            have d1 : wr.cell? ⟨xb, 1, none⟩ = some (.int .u8 q) := hH.cell rfl
            have d2 : wr.cell? ⟨xb, 2, none⟩ = some (.int .i64 A) := hH.cell rfl
            have d3 : wr.cell? ⟨xb, 3, none⟩ = some (.int .i64 B) := hH.cell rfl
            have d4 : wr.cell? ⟨xb, 4, none⟩ = some (.bool g) := hH.cell rfl
            have d5 : wr.cell? ⟨xb, 5, none⟩ = some (.slice a1 n1 c1) := hH.cell rfl
            have d6 : wr.cell? ⟨xb, 6, none⟩ = some (.slice a2 n2 c2) := hH.cell rfl
            have HS := Lib.hid hS
            have HH := Lib.hid hH
            clear hS hH
            go_wp2_with fail
            refine (len_yes HS.out.one).mono ?_
            rintro e w5 ⟨rfl, rfl⟩
            have hm : p % 8 = 0 ∨ p % 8 = 1 ∨ p % 8 = 2 ∨ p % 8 = 3 ∨ p % 8 = 4 ∨ p % 8 = 5 ∨ p % 8 = 6 ∨ p % 8 = 7 := by omega
            rcases hm with hm | hm | hm | hm | hm | hm | hm | hm
            · have Hm := Lib.hid hm
              go_wp2_with fail
              refine (num_all _ _ _ _ _ _ _ g a1 a2 n1 c1 n2 c2 nn dd _ HS.out.one (HI.out.1.ext HS.out.ext) (HI.out.2.1.ext HS.out.ext) HI.out.2.2.1 HI.out.2.2.2).mono ?_
              rintro e w6 hres
              have hF1 := num_ok (bud := b) (L := L) (g := g) (n := nn) (d := dd)
              have hF2 := num_err (bud := b) (L := L) (g := g) (n := nn) (d := dd)
              have hF4 := num_again b L g nn dd
              rw [← next_num (bud := b) (pars := pars) (what := p) (op := q) (A := A) (B := B) (g := g) (n := nn) (d := dd) (by have := Hm.out; omega)] at hF4
              have hF3 := hN.out
              rw [next_num (by have := Hm.out; omega)] at hF3
              obtain ⟨R, hR⟩ : ∃ R, R = numR b L g nn dd := ⟨_, rfl⟩
              rw [← hR] at hres hF1 hF2 hF3 hF4
              clear hR
              obtain ⟨at', er, L'⟩ := R
              simp only at hres hF1 hF2 hF3 hF4
              obtain ⟨row', rfl, hS', hv⟩ := HS.out.left hres
              have hH' := HH.out.mv hv
              have HF4 := Lib.hid hF4
              clear hv hres hF4 d0 d1 d2 d3 d4 d5 d6 hm
              by_cases her : er = 0
              · subst her
                have hat := hF1 rfl
                have hat' : ((at' : Nat) : Int) < L'.length := by omega
                clear hF1 hF2 hat
                by_cases h0 : i = 0
                · subst h0
                  clear hF3
                  go_wp2_with fail
                  refine (len_yes hS'.one).mono ?_
                  rintro e w7 ⟨rfl, rfl⟩
                  go_wp2
                  exact ⟨⟨1, by omega, by go_num, row', pars, L', hS', hH', Lib.hid (fun _ => HF4.out)⟩, by simp [intOf]⟩
                · have h1 : i = 1 := by omega
                  subst h1
                  obtain rfl := hF3 rfl
                  clear hF3
                  go_wp2_with fail
                  refine (len_yes hS'.one).mono ?_
                  rintro e w7 ⟨rfl, rfl⟩
                  go_wp2_with fail
                  refine (len_yes hS'.one).mono ?_
                  rintro e w7 ⟨rfl, rfl⟩
                  go_wp2
                  exact ⟨⟨2, by omega, by go_num, row', pars, _, hS', hH', Lib.hid (fun h => by omega)⟩, by simp [intOf]⟩
              · obtain rfl := hF2 her
                have her' : ¬ ((er : Nat) : Int) = 0 := by omega
                clear hF1 hF2 hF3 her
                go_wp2_with fail
                refine (len_yes hS'.one).mono ?_
                rintro e w7 ⟨rfl, rfl⟩
                go_wp2
                exact ⟨⟨i + 1, by omega, by go_num, row', pars, _, hS', hH', Lib.hid (fun _ => HF4.out)⟩, by simp [intOf]; omega⟩
            · have Hm := Lib.hid hm
              go_wp2_with fail
              refine (num_all _ _ _ _ _ _ _ g a1 a2 n1 c1 n2 c2 nn dd _ HS.out.one (HI.out.1.ext HS.out.ext) (HI.out.2.1.ext HS.out.ext) HI.out.2.2.1 HI.out.2.2.2).mono ?_
              rintro e w6 hres
              have hF1 := num_ok (bud := b) (L := L) (g := g) (n := nn) (d := dd)
              have hF2 := num_err (bud := b) (L := L) (g := g) (n := nn) (d := dd)
              have hF4 := num_again b L g nn dd
              rw [← next_num (bud := b) (pars := pars) (what := p) (op := q) (A := A) (B := B) (g := g) (n := nn) (d := dd) (by have := Hm.out; omega)] at hF4
              have hF3 := hN.out
              rw [next_num (by have := Hm.out; omega)] at hF3
              obtain ⟨R, hR⟩ : ∃ R, R = numR b L g nn dd := ⟨_, rfl⟩
              rw [← hR] at hres hF1 hF2 hF3 hF4
              clear hR
              obtain ⟨at', er, L'⟩ := R
              simp only at hres hF1 hF2 hF3 hF4
              obtain ⟨row', rfl, hS', hv⟩ := HS.out.left hres
              have hH' := HH.out.mv hv
              have HF4 := Lib.hid hF4
              clear hv hres hF4 d0 d1 d2 d3 d4 d5 d6 hm
              by_cases her : er = 0
              · subst her
                have hat := hF1 rfl
                have hat' : ((at' : Nat) : Int) < L'.length := by omega
                clear hF1 hF2 hat
                by_cases h0 : i = 0
                · subst h0
                  clear hF3
                  go_wp2_with fail
                  refine (len_yes hS'.one).mono ?_
                  rintro e w7 ⟨rfl, rfl⟩
                  go_wp2
                  exact ⟨⟨1, by omega, by go_num, row', pars, L', hS', hH', Lib.hid (fun _ => HF4.out)⟩, by simp [intOf]⟩
                · have h1 : i = 1 := by omega
                  subst h1
                  obtain rfl := hF3 rfl
                  clear hF3
                  go_wp2_with fail
                  refine (len_yes hS'.one).mono ?_
                  rintro e w7 ⟨rfl, rfl⟩
                  go_wp2_with fail
                  refine (len_yes hS'.one).mono ?_
                  rintro e w7 ⟨rfl, rfl⟩
                  go_wp2
                  exact ⟨⟨2, by omega, by go_num, row', pars, _, hS', hH', Lib.hid (fun h => by omega)⟩, by simp [intOf]⟩
              · obtain rfl := hF2 her
                have her' : ¬ ((er : Nat) : Int) = 0 := by omega
                clear hF1 hF2 hF3 her
                go_wp2_with fail
                refine (len_yes hS'.one).mono ?_
                rintro e w7 ⟨rfl, rfl⟩
                go_wp2
                exact ⟨⟨i + 1, by omega, by go_num, row', pars, _, hS', hH', Lib.hid (fun _ => HF4.out)⟩, by simp [intOf]; omega⟩
            · by_cases h0 : i = 0
              · subst h0
                go_wp2_with fail
                refine (par_any _ _ _ _ _ _ _ _ HS.out.one).mono ?_
                rintro e w6 hres
                obtain ⟨row', rfl, hS', hv⟩ := HS.out.left hres
                have hH' := HH.out.mv hv
                have hnx := next_par (bud := b) (pars := (parR b pars L).2.2.1) (L := (parR b pars L).2.2.2) (op := q) (A := A) (B := B) (g := g) (n := nn) (d := dd) (what := p) (by omega)
                clear hv hres
                go_wp2
                exact ⟨⟨1, by omega, by go_num, row', _, _, hS', hH', Lib.hid (fun _ => hnx)⟩, by simp [intOf]⟩
              · have h1 : i = 1 := by omega
                subst h1
                go_wp2
                exact ⟨⟨2, by omega, by go_num, _, _, _, HS.out, HH.out, Lib.hid (fun h => by omega)⟩, by simp [intOf]⟩
            · have Hm := Lib.hid hm
              go_wp2_with fail
              refine (one_any _ _ _ _ _ _ _ q A _ HS.out.one HQ.out.2.1 HQ.out.2.2.1).mono ?_
              rintro e w6 hres
              have hF1 := step_ok (bud := b) (pars := pars) (L := L) (s := opStep q A 0) (k := 4)
              have hF2 := step_err (bud := b) (pars := pars) (L := L) (s := opStep q A 0) (k := 4)
              have hF4 := step_again b pars L (opStep q A 0) 4
              rw [← next_one (bud := b) (pars := pars) (what := p) (op := q) (A := A) (B := B) (g := g) (n := nn) (d := dd) (by have := Hm.out; omega)] at hF4
              have hF3 := hN.out
              rw [next_one (by have := Hm.out; omega)] at hF3
              obtain ⟨R, hR⟩ : ∃ R, R = stepR b pars L (opStep q A 0) 4 := ⟨_, rfl⟩
              rw [← hR] at hres hF1 hF2 hF3 hF4
              clear hR
              obtain ⟨at', er, L'⟩ := R
              simp only at hres hF1 hF2 hF3 hF4
              obtain ⟨row', rfl, hS', hv⟩ := HS.out.left hres
              have hH' := HH.out.mv hv
              have HF4 := Lib.hid hF4
              clear hv hres hF4 d0 d1 d2 d3 d4 d5 d6 hm
              by_cases her : er = 0
              · subst her
                have hat := hF1 rfl
                have hat' : ((at' : Nat) : Int) < L'.length := by omega
                clear hF1 hF2 hat
                by_cases h0 : i = 0
                · subst h0
                  clear hF3
                  go_wp2_with fail
                  refine (len_yes hS'.one).mono ?_
                  rintro e w7 ⟨rfl, rfl⟩
                  go_wp2
                  exact ⟨⟨1, by omega, by go_num, row', pars, L', hS', hH', Lib.hid (fun _ => HF4.out)⟩, by simp [intOf]⟩
                · have h1 : i = 1 := by omega
                  subst h1
                  obtain rfl := hF3 rfl
                  clear hF3
                  go_wp2_with fail
                  refine (len_yes hS'.one).mono ?_
                  rintro e w7 ⟨rfl, rfl⟩
                  go_wp2_with fail
                  refine (len_yes hS'.one).mono ?_
                  rintro e w7 ⟨rfl, rfl⟩
                  go_wp2
                  exact ⟨⟨2, by omega, by go_num, row', pars, _, hS', hH', Lib.hid (fun h => by omega)⟩, by simp [intOf]⟩
              · obtain rfl := hF2 her
                have her' : ¬ ((er : Nat) : Int) = 0 := by omega
                clear hF1 hF2 hF3 her
                go_wp2_with fail
                refine (len_yes hS'.one).mono ?_
                rintro e w7 ⟨rfl, rfl⟩
                go_wp2
                exact ⟨⟨i + 1, by omega, by go_num, row', pars, _, hS', hH', Lib.hid (fun _ => HF4.out)⟩, by simp [intOf]; omega⟩
            · have Hm := Lib.hid hm
              go_wp2_with fail
              refine (one_any _ _ _ _ _ _ _ q A _ HS.out.one HQ.out.2.1 HQ.out.2.2.1).mono ?_
              rintro e w6 hres
              have hF1 := step_ok (bud := b) (pars := pars) (L := L) (s := opStep q A 0) (k := 4)
              have hF2 := step_err (bud := b) (pars := pars) (L := L) (s := opStep q A 0) (k := 4)
              have hF4 := step_again b pars L (opStep q A 0) 4
              rw [← next_one (bud := b) (pars := pars) (what := p) (op := q) (A := A) (B := B) (g := g) (n := nn) (d := dd) (by have := Hm.out; omega)] at hF4
              have hF3 := hN.out
              rw [next_one (by have := Hm.out; omega)] at hF3
              obtain ⟨R, hR⟩ : ∃ R, R = stepR b pars L (opStep q A 0) 4 := ⟨_, rfl⟩
              rw [← hR] at hres hF1 hF2 hF3 hF4
              clear hR
              obtain ⟨at', er, L'⟩ := R
              simp only at hres hF1 hF2 hF3 hF4
              obtain ⟨row', rfl, hS', hv⟩ := HS.out.left hres
              have hH' := HH.out.mv hv
              have HF4 := Lib.hid hF4
              clear hv hres hF4 d0 d1 d2 d3 d4 d5 d6 hm
              by_cases her : er = 0
              · subst her
                have hat := hF1 rfl
                have hat' : ((at' : Nat) : Int) < L'.length := by omega
                clear hF1 hF2 hat
                by_cases h0 : i = 0
                · subst h0
                  clear hF3
                  go_wp2_with fail
                  refine (len_yes hS'.one).mono ?_
                  rintro e w7 ⟨rfl, rfl⟩
                  go_wp2
                  exact ⟨⟨1, by omega, by go_num, row', pars, L', hS', hH', Lib.hid (fun _ => HF4.out)⟩, by simp [intOf]⟩
                · have h1 : i = 1 := by omega
                  subst h1
                  obtain rfl := hF3 rfl
                  clear hF3
                  go_wp2_with fail
                  refine (len_yes hS'.one).mono ?_
                  rintro e w7 ⟨rfl, rfl⟩
                  go_wp2_with fail
                  refine (len_yes hS'.one).mono ?_
                  rintro e w7 ⟨rfl, rfl⟩
                  go_wp2
                  exact ⟨⟨2, by omega, by go_num, row', pars, _, hS', hH', Lib.hid (fun h => by omega)⟩, by simp [intOf]⟩
              · obtain rfl := hF2 her
                have her' : ¬ ((er : Nat) : Int) = 0 := by omega
                clear hF1 hF2 hF3 her
                go_wp2_with fail
                refine (len_yes hS'.one).mono ?_
                rintro e w7 ⟨rfl, rfl⟩
                go_wp2
                exact ⟨⟨i + 1, by omega, by go_num, row', pars, _, hS', hH', Lib.hid (fun _ => HF4.out)⟩, by simp [intOf]; omega⟩
            · have Hm := Lib.hid hm
              go_wp2_with fail
              refine (two_any _ _ _ _ _ _ _ q A B _ HS.out.one HQ.out.2.1 HQ.out.2.2.1 HQ.out.2.2.2).mono ?_
              rintro e w6 hres
              have hF1 := step_ok (bud := b) (pars := pars) (L := L) (s := opStep q A B) (k := 3)
              have hF2 := step_err (bud := b) (pars := pars) (L := L) (s := opStep q A B) (k := 3)
              have hF4 := step_again b pars L (opStep q A B) 3
              rw [← next_two (bud := b) (pars := pars) (what := p) (op := q) (A := A) (B := B) (g := g) (n := nn) (d := dd) (by have := Hm.out; omega)] at hF4
              have hF3 := hN.out
              rw [next_two (by have := Hm.out; omega)] at hF3
              obtain ⟨R, hR⟩ : ∃ R, R = stepR b pars L (opStep q A B) 3 := ⟨_, rfl⟩
              rw [← hR] at hres hF1 hF2 hF3 hF4
              clear hR
              obtain ⟨at', er, L'⟩ := R
              simp only at hres hF1 hF2 hF3 hF4
              obtain ⟨row', rfl, hS', hv⟩ := HS.out.left hres
              have hH' := HH.out.mv hv
              have HF4 := Lib.hid hF4
              clear hv hres hF4 d0 d1 d2 d3 d4 d5 d6 hm
              by_cases her : er = 0
              · subst her
                have hat := hF1 rfl
                have hat' : ((at' : Nat) : Int) < L'.length := by omega
                clear hF1 hF2 hat
                by_cases h0 : i = 0
                · subst h0
                  clear hF3
                  go_wp2_with fail
                  refine (len_yes hS'.one).mono ?_
                  rintro e w7 ⟨rfl, rfl⟩
                  go_wp2
                  exact ⟨⟨1, by omega, by go_num, row', pars, L', hS', hH', Lib.hid (fun _ => HF4.out)⟩, by simp [intOf]⟩
                · have h1 : i = 1 := by omega
                  subst h1
                  obtain rfl := hF3 rfl
                  clear hF3
                  go_wp2_with fail
                  refine (len_yes hS'.one).mono ?_
                  rintro e w7 ⟨rfl, rfl⟩
                  go_wp2_with fail
                  refine (len_yes hS'.one).mono ?_
                  rintro e w7 ⟨rfl, rfl⟩
                  go_wp2
                  exact ⟨⟨2, by omega, by go_num, row', pars, _, hS', hH', Lib.hid (fun h => by omega)⟩, by simp [intOf]⟩
              · obtain rfl := hF2 her
                have her' : ¬ ((er : Nat) : Int) = 0 := by omega
                clear hF1 hF2 hF3 her
                go_wp2_with fail
                refine (len_yes hS'.one).mono ?_
                rintro e w7 ⟨rfl, rfl⟩
                go_wp2
                exact ⟨⟨i + 1, by omega, by go_num, row', pars, _, hS', hH', Lib.hid (fun _ => HF4.out)⟩, by simp [intOf]; omega⟩
            · have Hm := Lib.hid hm
              go_wp2_with fail
              refine (two_any _ _ _ _ _ _ _ q A B _ HS.out.one HQ.out.2.1 HQ.out.2.2.1 HQ.out.2.2.2).mono ?_
              rintro e w6 hres
              have hF1 := step_ok (bud := b) (pars := pars) (L := L) (s := opStep q A B) (k := 3)
              have hF2 := step_err (bud := b) (pars := pars) (L := L) (s := opStep q A B) (k := 3)
              have hF4 := step_again b pars L (opStep q A B) 3
              rw [← next_two (bud := b) (pars := pars) (what := p) (op := q) (A := A) (B := B) (g := g) (n := nn) (d := dd) (by have := Hm.out; omega)] at hF4
              have hF3 := hN.out
              rw [next_two (by have := Hm.out; omega)] at hF3
              obtain ⟨R, hR⟩ : ∃ R, R = stepR b pars L (opStep q A B) 3 := ⟨_, rfl⟩
              rw [← hR] at hres hF1 hF2 hF3 hF4
              clear hR
              obtain ⟨at', er, L'⟩ := R
              simp only at hres hF1 hF2 hF3 hF4
              obtain ⟨row', rfl, hS', hv⟩ := HS.out.left hres
              have hH' := HH.out.mv hv
              have HF4 := Lib.hid hF4
              clear hv hres hF4 d0 d1 d2 d3 d4 d5 d6 hm
              by_cases her : er = 0
              · subst her
                have hat := hF1 rfl
                have hat' : ((at' : Nat) : Int) < L'.length := by omega
                clear hF1 hF2 hat
                by_cases h0 : i = 0
                · subst h0
                  clear hF3
                  go_wp2_with fail
                  refine (len_yes hS'.one).mono ?_
                  rintro e w7 ⟨rfl, rfl⟩
                  go_wp2
                  exact ⟨⟨1, by omega, by go_num, row', pars, L', hS', hH', Lib.hid (fun _ => HF4.out)⟩, by simp [intOf]⟩
                · have h1 : i = 1 := by omega
                  subst h1
                  obtain rfl := hF3 rfl
                  clear hF3
                  go_wp2_with fail
                  refine (len_yes hS'.one).mono ?_
                  rintro e w7 ⟨rfl, rfl⟩
                  go_wp2_with fail
                  refine (len_yes hS'.one).mono ?_
                  rintro e w7 ⟨rfl, rfl⟩
                  go_wp2
                  exact ⟨⟨2, by omega, by go_num, row', pars, _, hS', hH', Lib.hid (fun h => by omega)⟩, by simp [intOf]⟩
              · obtain rfl := hF2 her
                have her' : ¬ ((er : Nat) : Int) = 0 := by omega
                clear hF1 hF2 hF3 her
                go_wp2_with fail
                refine (len_yes hS'.one).mono ?_
                rintro e w7 ⟨rfl, rfl⟩
                go_wp2
                exact ⟨⟨i + 1, by omega, by go_num, row', pars, _, hS', hH', Lib.hid (fun _ => HF4.out)⟩, by simp [intOf]; omega⟩
            · by_cases h0 : i = 0
              · subst h0
                go_wp2_with fail
                refine (par_any _ _ _ _ _ _ _ _ HS.out.one).mono ?_
                rintro e w6 hres
                obtain ⟨row', rfl, hS', hv⟩ := HS.out.left hres
                have hH' := HH.out.mv hv
                have hnx := next_par (bud := b) (pars := (parR b pars L).2.2.1) (L := (parR b pars L).2.2.2) (op := q) (A := A) (B := B) (g := g) (n := nn) (d := dd) (what := p) (by omega)
                clear hv hres
                go_wp2
                exact ⟨⟨1, by omega, by go_num, row', _, _, hS', hH', Lib.hid (fun _ => hnx)⟩, by simp [intOf]⟩
              · have h1 : i = 1 := by omega
                subst h1
                go_wp2
                exact ⟨⟨2, by omega, by go_num, _, _, _, HS.out, HH.out, Lib.hid (fun h => by omega)⟩, by simp [intOf]⟩
          · go_wp2
            exact ⟨⟨j + 1, by omega, by go_num, _, _, _, hS⟩, by simp [intOf]; omega⟩
    · have HS := Lib.hid hS
      have hjn : (j < n ∧ ¬ j < 80) ∨ ¬ j < n := by omega
      clear hS hlt
      rcases hjn with ⟨hjn, hj80⟩ | hjn
      · have hx1 : ((j : Nat) : Int) < n := by omega
        have hx2 : ¬ ((j : Nat) : Int) < 80 := by omega
        go_wp2_with fail
        refine (len_yes HS.out.one).mono ?_
        rintro e w3 ⟨rfl, rfl⟩
        by_cases hl : L.length = 0
        · have hl' : ((L.length : Nat) : Int) = 0 := by omega
          go_wp2_with fail
          refine (head17 _).mono ?_
          rintro e w4 ⟨_, rfl, E4, rfl⟩
          go_wp2
          go_ret
          exact Post.mk (HS.out.ext.trans E4) rfl
        · have hl' : ¬ ((L.length : Nat) : Int) = 0 := by omega
          have hg := HS.out.one.good
          have HCK := Lib.hid (good_check hg hl)
          have HG := Lib.hid hg.apart
          have hlen := hg.len
          clear hg hl
          go_wp2_with fail
          refine (len_yes HS.out.one).mono ?_
          rintro e w3 ⟨rfl, rfl⟩
          go_wp2_with fail
          refine (tape_yes _ _ _ _ _ _ _ ((L.length : Int) - 1) none 0 0 [] _ HS.out.one (tells_nil _)).mono ?_
          rintro e w5 ⟨v, rfl, E5, hres, _⟩
          obtain ⟨rv, tv, cells, rfl, hrow, htell⟩ := hres HCK.out
          obtain ⟨ar, cr, rfl, hSt⟩ := hrow.rowSteps HS.out.one.fewL (by omega)
          have hcap : L.length ≤ cr := by
            rcases hrow.own.1.2 with ⟨e, e0⟩ | ⟨g', cap', cur', e, _, _, e1, _⟩
            · omega
            · cases e; exact e1
          obtain ⟨at', ct, rfl, hTl⟩ := htell.tells (by decide)
          have HST := Lib.hid hSt
          have HTL := Lib.hid hTl
          have HS5 := Lib.hid (HS.out.more E5)
          have h0 : ([] : List (ByteArray × Int)).length = 0 := rfl
          rw [h0] at HTL
          rw [h0]
          clear hrow htell hres hSt hTl HS h0 E5
          go_wp2_with fail
          obtain ⟨yb, hyb⟩ : ∃ yb, yb = w5.heap.size := ⟨_, rfl⟩
          obtain ⟨W6, hW6⟩ : ∃ W6, W6 = w5.alloc (.cells #[.int .i64 pars, .int .i64 ((L.length : Int) - 1), .slice ar L.length cr, .slice at' 0 ct] 46) := ⟨_, rfl⟩
          have z0 : W6.cell? ⟨yb, 0, none⟩ = some (.int .i64 pars) := by rw [hW6, hyb]; simp [go_sem]
          have z1 : W6.cell? ⟨yb, 1, none⟩ = some (.int .i64 ((L.length : Int) - 1)) := by rw [hW6, hyb]; simp [go_sem]
          have z2 : W6.cell? ⟨yb, 2, none⟩ = some (.slice ar L.length cr) := by rw [hW6, hyb]; simp [go_sem]
          have z3 : W6.cell? ⟨yb, 3, none⟩ = some (.slice at' 0 ct) := by rw [hW6, hyb]; simp [go_sem]
          have E6 : Ext w5 W6.drew := by rw [hW6]; exact (Ext.of_alloc _ _).drew
          rw [← hW6, ← hyb]
          clear hW6 hyb
          have hlb : ((L.length : Nat) : Int) ≤ b := by omega
          refine wp_region_T (fun _ => True) (fun w' : World => w'.cell? ⟨yb, 0, none⟩ = some (.int .i64 pars) ∧ w'.cell? ⟨yb, 1, none⟩ = some (.int .i64 ((L.length : Int) - 1)) ∧ w'.cell? ⟨yb, 2, none⟩ = some (.slice ar L.length cr) ∧ w'.cell? ⟨yb, 3, none⟩ = some (.slice at' 0 ct)) 99 22 (by rfl) (by kernel_rfl) ?_
          have hT0 : W6.drew.cell? ⟨yb, 0, none⟩ = some (.int .i64 pars) ∧ W6.drew.cell? ⟨yb, 1, none⟩ = some (.int .i64 ((L.length : Int) - 1)) ∧ W6.drew.cell? ⟨yb, 2, none⟩ = some (.slice ar L.length cr) ∧ W6.drew.cell? ⟨yb, 3, none⟩ = some (.slice at' 0 ct) := ⟨z0, z1, z2, z3⟩
          refine wpAnyT_take' (i := 0) (some 147) (v := ?_) rfl rfl (by kernel_rfl) (by kernel_rfl) (by kernel_rfl) (by decide) (fun _ _ _ h => h) (Or.inl ⟨by rfl, ?_⟩) (fun _ => trivial) hT0 ?_
          rotate_left
          · (intro w hSw; (try dsimp only at hSw); go_simp); try with_reducible rfl
          try simp only [Act.put, List.setIfInBounds_toArray, List.set_cons_zero, List.set_cons_succ]
          refine wpAnyT_take' (i := 1) (some 148) (v := ?_) rfl rfl (by kernel_rfl) (by kernel_rfl) (by kernel_rfl) (by decide) (fun _ _ _ h => h) (Or.inl ⟨by rfl, ?_⟩) (fun _ => trivial) hT0 ?_
          rotate_left
          · (intro w hSw; (try dsimp only at hSw); go_simp); try with_reducible rfl
          try simp only [Act.put, List.setIfInBounds_toArray, List.set_cons_zero, List.set_cons_succ]
          refine wpAnyT_take' (i := 2) (some 149) (v := ?_) rfl rfl (by kernel_rfl) (by kernel_rfl) (by kernel_rfl) (by decide) (fun _ _ _ h => h) (Or.inl ⟨by rfl, ?_⟩) (fun _ => trivial) hT0 ?_
          rotate_left
          · (intro w hSw; (try dsimp only at hSw); go_simp); try with_reducible rfl
          try simp only [Act.put, List.setIfInBounds_toArray, List.set_cons_zero, List.set_cons_succ]
          refine wpAnyT_take' (i := 3) (some 150) (v := ?_) rfl rfl (by kernel_rfl) (by kernel_rfl) (by kernel_rfl) (by decide) (fun _ _ _ h => h) (Or.inl ⟨by rfl, ?_⟩) (fun _ => trivial) hT0 ?_
          rotate_left
          · (intro w hSw; (try dsimp only at hSw); go_simp); try with_reducible rfl
          try simp only [Act.put, List.setIfInBounds_toArray, List.set_cons_zero, List.set_cons_succ]
          refine wpAnyT_one (i := 4) (by kernel_rfl) rfl (fun K hK => ?_)
          go_simp
          refine (check_any _ _ _ _ _ _ _ _ _ _ _ (HST.out.ext E6) (HTL.out.ext E6)).mono ?_
          rintro e w7 ⟨_, rfl, E7, rfl⟩
          rw [HCK.out]
          try simp only []
          have hT1 : w7.cell? ⟨yb, 0, none⟩ = some (.int .i64 pars) ∧ w7.cell? ⟨yb, 1, none⟩ = some (.int .i64 ((L.length : Int) - 1)) ∧ w7.cell? ⟨yb, 2, none⟩ = some (.slice ar L.length cr) ∧ w7.cell? ⟨yb, 3, none⟩ = some (.slice at' 0 ct) := ⟨E7.cell z0, E7.cell z1, E7.cell z2, E7.cell z3⟩
          refine hK _ _ (fun _ => trivial) hT1 ?_
          clear hK K
          try simp only [Act.put, List.setIfInBounds_toArray, List.set_cons_zero, List.set_cons_succ]
          refine wpAnyT_take' (i := 5) (some 152) (v := ?_) rfl rfl (by kernel_rfl) (by kernel_rfl) (by kernel_rfl) (by decide) (fun _ _ _ h => h) (Or.inl ⟨by rfl, ?_⟩) (fun _ => trivial) hT1 ?_
          rotate_left
          · (intro w hSw; (try dsimp only at hSw); go_simp); try with_reducible rfl
          try simp only [Act.put, List.setIfInBounds_toArray, List.set_cons_zero, List.set_cons_succ]
          refine wpAnyT_take' (i := 6) (some 153) (v := ?_) rfl rfl (by kernel_rfl) (by kernel_rfl) (by kernel_rfl) (by decide) (fun _ _ _ h => h) (Or.inl ⟨by rfl, ?_⟩) (fun _ => trivial) hT1 ?_
          rotate_left
          · (intro w hSw; (try dsimp only at hSw); go_simp); try with_reducible rfl
          try simp only [Act.put, List.setIfInBounds_toArray, List.set_cons_zero, List.set_cons_succ]
          refine wpAnyT_take' (i := 7) (some 154) (v := ?_) rfl rfl (by kernel_rfl) (by kernel_rfl) (by kernel_rfl) (by decide) (fun _ _ _ h => h) (Or.inl ⟨by rfl, ?_⟩) (fun _ => trivial) hT1 ?_
          rotate_left
          · (intro w hSw; (try dsimp only at hSw); go_simp); try with_reducible rfl
          try simp only [Act.put, List.setIfInBounds_toArray, List.set_cons_zero, List.set_cons_succ]
          refine wpAnyT_take' (i := 8) (some 155) (v := ?_) rfl rfl (by kernel_rfl) (by kernel_rfl) (by kernel_rfl) (by decide) (fun _ _ _ h => h) (Or.inl ⟨by rfl, ?_⟩) (fun _ => trivial) hT1 ?_
          rotate_left
          · (intro w hSw; (try dsimp only at hSw); go_simp); try with_reducible rfl
          try simp only [Act.put, List.setIfInBounds_toArray, List.set_cons_zero, List.set_cons_succ]
          refine wpAnyT_take' (i := 9) (some 156) (v := ?_) rfl rfl (by kernel_rfl) (by kernel_rfl) (by kernel_rfl) (by decide) (fun _ _ _ h => h) (Or.inl ⟨by rfl, ?_⟩) (fun _ => trivial) hT1 ?_
          rotate_left
          · (intro w hSw; (try dsimp only at hSw); go_simp); try with_reducible rfl
          try simp only [Act.put, List.setIfInBounds_toArray, List.set_cons_zero, List.set_cons_succ]
          refine wpAnyT_take' (i := 10) (some 157) (v := ?_) rfl rfl (by kernel_rfl) (by kernel_rfl) (by kernel_rfl) (by decide) (fun _ _ _ h => h) (Or.inl ⟨by rfl, ?_⟩) (fun _ => trivial) hT1 ?_
          rotate_left
          · (intro w hSw; (try dsimp only at hSw); go_simp); try with_reducible rfl
          try simp only [Act.put, List.setIfInBounds_toArray, List.set_cons_zero, List.set_cons_succ]
          refine wpAnyT_take' (i := 11) (some 158) (v := ?_) rfl rfl (by kernel_rfl) (by kernel_rfl) (by kernel_rfl) (by decide) (fun _ _ _ h => h) (Or.inl ⟨by rfl, ?_⟩) (fun _ => trivial) hT1 ?_
          rotate_left
          · (intro w hSw; (try dsimp only at hSw); go_simp); try with_reducible rfl
          try simp only [Act.put, List.setIfInBounds_toArray, List.set_cons_zero, List.set_cons_succ]
          refine wpAnyT_one (i := 12) (by kernel_rfl) rfl (fun K hK => ?_)
          go_simp
          refine (len_yes (HS5.out.one.kept (E6.trans E7))).mono ?_
          rintro e w8 ⟨rfl, rfl⟩
          try simp only []
          refine hK _ _ (fun _ => trivial) hT1 ?_
          clear hK K
          try simp only [Act.put, List.setIfInBounds_toArray, List.set_cons_zero, List.set_cons_succ]
          refine wpAnyT_take' (i := 13) (some 160) (v := ?_) rfl rfl (by kernel_rfl) (by kernel_rfl) (by kernel_rfl) (by decide) (fun _ _ _ h => h) (Or.inl ⟨by rfl, ?_⟩) (fun _ => trivial) hT1 ?_
          rotate_left
          · (intro w hSw; (try dsimp only at hSw); go_simp); try with_reducible rfl
          try simp only [Act.put, List.setIfInBounds_toArray, List.set_cons_zero, List.set_cons_succ]
          refine wpAnyT_take' (i := 14) (some 161) (v := ?_) rfl rfl (by kernel_rfl) (by kernel_rfl) (by kernel_rfl) (by decide) (fun _ _ _ h => h) (Or.inl ⟨by rfl, ?_⟩) (fun _ => trivial) hT1 ?_
          rotate_left
          · (intro w hSw; (try dsimp only at hSw); go_simp); try with_reducible rfl
          try simp only [Act.put, List.setIfInBounds_toArray, List.set_cons_zero, List.set_cons_succ]
          refine wpAnyT_take' (i := 15) (some 162) (v := ?_) rfl rfl (by kernel_rfl) (by kernel_rfl) (by kernel_rfl) (by decide) (fun _ _ _ h => h) (Or.inl ⟨by rfl, ?_⟩) (fun _ => trivial) hT1 ?_
          rotate_left
          · (intro w hSw; (try dsimp only at hSw); go_simp); try with_reducible rfl
          try simp only [Act.put, List.setIfInBounds_toArray, List.set_cons_zero, List.set_cons_succ]
          refine wpAnyT_take' (i := 16) (some 163) (v := ?_) rfl rfl (by kernel_rfl) (by kernel_rfl) (by kernel_rfl) (by decide) (fun _ _ _ h => h) (Or.inl ⟨by rfl, ?_⟩) (fun _ => trivial) hT1 ?_
          rotate_left
          · (intro w hSw; (try dsimp only at hSw); go_simp); try with_reducible rfl
          try simp only [Act.put, List.setIfInBounds_toArray, List.set_cons_zero, List.set_cons_succ]
          refine wpAnyT_take' (i := 17) (some 164) (v := ?_) rfl rfl (by kernel_rfl) (by kernel_rfl) (by kernel_rfl) (by decide) (fun _ _ _ h => h) (Or.inl ⟨by rfl, ?_⟩) (fun _ => trivial) hT1 ?_
          rotate_left
          · (intro w hSw; (try dsimp only at hSw); go_simp); try with_reducible rfl
          try simp only [Act.put, List.setIfInBounds_toArray, List.set_cons_zero, List.set_cons_succ]
          refine wpAnyT_take' (i := 18) (some 165) (v := ?_) rfl rfl (by kernel_rfl) (by kernel_rfl) (by kernel_rfl) (by decide) (fun _ _ _ h => h) (Or.inl ⟨by rfl, ?_⟩) (fun _ => trivial) hT1 ?_
          rotate_left
          · (intro w hSw; (try dsimp only at hSw); go_simp); try with_reducible rfl
          try simp only [Act.put, List.setIfInBounds_toArray, List.set_cons_zero, List.set_cons_succ]
          refine wpAnyT_take' (i := 19) (some 166) (v := ?_) rfl rfl (by kernel_rfl) (by kernel_rfl) (by kernel_rfl) (by decide) (fun _ _ _ h => h) (Or.inl ⟨by rfl, ?_⟩) (fun _ => trivial) hT1 ?_
          rotate_left
          · (intro w hSw; (try dsimp only at hSw); go_simp); try with_reducible rfl
          try simp only [Act.put, List.setIfInBounds_toArray, List.set_cons_zero, List.set_cons_succ]
          refine wpAnyT_take' (i := 20) (some 167) (v := ?_) rfl rfl (by kernel_rfl) (by kernel_rfl) (by kernel_rfl) (by decide) (fun _ _ _ h => h) (Or.inl ⟨by rfl, ?_⟩) (fun _ => trivial) hT1 ?_
          rotate_left
          · (intro w hSw; (try dsimp only at hSw); go_simp); try with_reducible rfl
          try simp only [Act.put, List.setIfInBounds_toArray, List.set_cons_zero, List.set_cons_succ]
          refine wpAnyT_take' (i := 21) (some 168) (v := ?_) rfl rfl (by kernel_rfl) (by kernel_rfl) (by kernel_rfl) (by decide) (fun _ _ _ h => h) (Or.inl ⟨by rfl, ?_⟩) (fun _ => trivial) hT1 ?_
          rotate_left
          · (intro w hSw; (try dsimp only at hSw); go_simp); try with_reducible rfl
          try simp only [Act.put, List.setIfInBounds_toArray, List.set_cons_zero, List.set_cons_succ]
          refine wpAnyT_done (by kernel_rfl) ?_ _
          try simp only [Act.put, List.setIfInBounds_toArray, List.set_cons_zero, List.set_cons_succ]
          obtain ⟨e0, e1, e2, e3⟩ := hT1
          have HX := Lib.hid ((HS5.out.ext.trans E6).trans E7)
          have HST7 := Lib.hid ((HST.out.ext E6).ext E7)
          have HTL7 := Lib.hid ((HTL.out.ext E6).ext E7)
          clear z0 z1 z2 z3 hT0 HST HTL HS5 E6 E7 HCK hx1 hl'
          have e167 : decide (b < L.length) = false := decide_eq_false (by omega)
          rw [e167]
          go_wp2_with fail
          clear e167
          go_loopw [15] (fun k wr => ∃ i : Nat, i ≤ L.length ∧ k = .int .i64 i ∧ Ext w7 wr) (fun k _ => L.length - (intOf k).toNat)
          case atStart => exact ⟨0, by omega, rfl, Ext.refl _⟩
          case round =>
            obtain ⟨i, hi, rfl, hext⟩ := hrel
            have y2 := hext.cell e2
            by_cases hil : i < L.length
            · have hil' : ((i : Nat) : Int) < L.length := by omega
              go_wp2_with fail
              go_loopw [16] (fun k wq => ∃ m : Nat, m ≤ i ∧ k = .int .i64 m ∧ Ext w7 wq) (fun k _ => i - (intOf k).toNat)
              case atStart => exact ⟨0, by omega, rfl, hext⟩
              case round =>
                clear y2 hext
                obtain ⟨m, hm, rfl, hext⟩ := hrel
                have y2 := hext.cell e2
                by_cases hmi : m < i
                · have hmi' : ((m : Nat) : Int) < i := by omega
                  obtain ⟨bb, off, s, rfl, hs, hs1⟩ := (HST7.out.ext hext).one hil
                  obtain ⟨bb', off', t, e', ht, ht1⟩ := (HST7.out.ext hext).one (show m < L.length by omega)
                  cases e'
                  have hyw := World.block_lt_of_cell? _ _ y2
                  simp at hyw
                  have hcr : ¬ cr = i := by omega
                  have hcr' : ¬ cr = m := by omega
                  have HSa := Lib.hid hs1
                  have HTa := Lib.hid ht1
                  have HP := Lib.hid (sameP_one HG.out hs ht hmi)
                  clear hs ht hs1 ht1
                  go_wp2_with fail
                  refine (tsame_any _ _ 0 0 0 0 [s] [t] [] [] _ ⟨_, _, _, _, _, _, rfl, (HSa.out _).ext ((Ext.of_alloc _ _).alloc _), tells_nil _⟩ ⟨_, _, _, _, _, _, rfl, (HTa.out _).ext ((Ext.of_alloc _ _).alloc _), tells_nil _⟩).mono ?_
                  rintro e w9 ⟨_, rfl, E9, rfl⟩
                  rw [HP.out]
                  have hx9 := ((hext.alloc _).alloc _).trans E9
                  clear hext E9 y2 HSa HTa HP
                  go_wp2
                  go_roundw
                  case rel => exact ⟨m + 1, by omega, by go_num, hx9⟩
                  case measure => simp [intOf]; omega
                · go_wp2
                  exact ⟨⟨i + 1, by omega, by go_num, hext⟩, by simp [intOf]; omega⟩
            · have y0 := hext.cell e0
              have y1 := hext.cell e1
              have y3 := hext.cell e3
              have HG7 := Lib.hid (HST7.out.ext hext)
              have HK7 := Lib.hid (HTL7.out.ext hext)
              have HXX := Lib.hid (HX.out.trans hext)
              clear e0 e1 e2 e3 hext HST7 HTL7 HX
              go_wp2_with fail
              refine (tsame_any _ _ pars ((L.length : Int) - 1) pars ((L.length : Int) - 1) L L [] [] _ ⟨_, _, _, _, _, _, rfl, HG7.out, HK7.out⟩ ⟨_, _, _, _, _, _, rfl, HG7.out, HK7.out⟩).mono ?_
              rintro e w9 ⟨_, rfl, E9, rfl⟩
              rw [sameP_self]
              go_wp2_with fail
              refine (head17 _).mono ?_
              rintro e w10 ⟨_, rfl, E10, rfl⟩
              go_wp2
              go_ret
              exact Post.mk ((HXX.out.trans E9).trans E10) rfl
      · have hx1 : ¬ ((j : Nat) : Int) < n := by omega
        go_wp2_with fail
        refine (len_yes HS.out.one).mono ?_
        rintro e w3 ⟨rfl, rfl⟩
        by_cases hl : L.length = 0
        · have hl' : ((L.length : Nat) : Int) = 0 := by omega
          go_wp2_with fail
          refine (head17 _).mono ?_
          rintro e w4 ⟨_, rfl, E4, rfl⟩
          go_wp2
          go_ret
          exact Post.mk (HS.out.ext.trans E4) rfl
        · have hl' : ¬ ((L.length : Nat) : Int) = 0 := by omega
          have hg := HS.out.one.good
          have HCK := Lib.hid (good_check hg hl)
          have HG := Lib.hid hg.apart
          have hlen := hg.len
          clear hg hl
          go_wp2_with fail
          refine (len_yes HS.out.one).mono ?_
          rintro e w3 ⟨rfl, rfl⟩
          go_wp2_with fail
          refine (tape_yes _ _ _ _ _ _ _ ((L.length : Int) - 1) none 0 0 [] _ HS.out.one (tells_nil _)).mono ?_
          rintro e w5 ⟨v, rfl, E5, hres, _⟩
          obtain ⟨rv, tv, cells, rfl, hrow, htell⟩ := hres HCK.out
          obtain ⟨ar, cr, rfl, hSt⟩ := hrow.rowSteps HS.out.one.fewL (by omega)
          have hcap : L.length ≤ cr := by
            rcases hrow.own.1.2 with ⟨e, e0⟩ | ⟨g', cap', cur', e, _, _, e1, _⟩
            · omega
            · cases e; exact e1
          obtain ⟨at', ct, rfl, hTl⟩ := htell.tells (by decide)
          have HST := Lib.hid hSt
          have HTL := Lib.hid hTl
          have HS5 := Lib.hid (HS.out.more E5)
          have h0 : ([] : List (ByteArray × Int)).length = 0 := rfl
          rw [h0] at HTL
          rw [h0]
          clear hrow htell hres hSt hTl HS h0 E5
          go_wp2_with fail
          obtain ⟨yb, hyb⟩ : ∃ yb, yb = w5.heap.size := ⟨_, rfl⟩
          obtain ⟨W6, hW6⟩ : ∃ W6, W6 = w5.alloc (.cells #[.int .i64 pars, .int .i64 ((L.length : Int) - 1), .slice ar L.length cr, .slice at' 0 ct] 46) := ⟨_, rfl⟩
          have z0 : W6.cell? ⟨yb, 0, none⟩ = some (.int .i64 pars) := by rw [hW6, hyb]; simp [go_sem]
          have z1 : W6.cell? ⟨yb, 1, none⟩ = some (.int .i64 ((L.length : Int) - 1)) := by rw [hW6, hyb]; simp [go_sem]
          have z2 : W6.cell? ⟨yb, 2, none⟩ = some (.slice ar L.length cr) := by rw [hW6, hyb]; simp [go_sem]
          have z3 : W6.cell? ⟨yb, 3, none⟩ = some (.slice at' 0 ct) := by rw [hW6, hyb]; simp [go_sem]
          have E6 : Ext w5 W6.drew := by rw [hW6]; exact (Ext.of_alloc _ _).drew
          rw [← hW6, ← hyb]
          clear hW6 hyb
          have hlb : ((L.length : Nat) : Int) ≤ b := by omega
          refine wp_region_T (fun _ => True) (fun w' : World => w'.cell? ⟨yb, 0, none⟩ = some (.int .i64 pars) ∧ w'.cell? ⟨yb, 1, none⟩ = some (.int .i64 ((L.length : Int) - 1)) ∧ w'.cell? ⟨yb, 2, none⟩ = some (.slice ar L.length cr) ∧ w'.cell? ⟨yb, 3, none⟩ = some (.slice at' 0 ct)) 99 22 (by rfl) (by kernel_rfl) ?_
          have hT0 : W6.drew.cell? ⟨yb, 0, none⟩ = some (.int .i64 pars) ∧ W6.drew.cell? ⟨yb, 1, none⟩ = some (.int .i64 ((L.length : Int) - 1)) ∧ W6.drew.cell? ⟨yb, 2, none⟩ = some (.slice ar L.length cr) ∧ W6.drew.cell? ⟨yb, 3, none⟩ = some (.slice at' 0 ct) := ⟨z0, z1, z2, z3⟩
          refine wpAnyT_take' (i := 0) (some 147) (v := ?_) rfl rfl (by kernel_rfl) (by kernel_rfl) (by kernel_rfl) (by decide) (fun _ _ _ h => h) (Or.inl ⟨by rfl, ?_⟩) (fun _ => trivial) hT0 ?_
          rotate_left
          · (intro w hSw; (try dsimp only at hSw); go_simp); try with_reducible rfl
          try simp only [Act.put, List.setIfInBounds_toArray, List.set_cons_zero, List.set_cons_succ]
          refine wpAnyT_take' (i := 1) (some 148) (v := ?_) rfl rfl (by kernel_rfl) (by kernel_rfl) (by kernel_rfl) (by decide) (fun _ _ _ h => h) (Or.inl ⟨by rfl, ?_⟩) (fun _ => trivial) hT0 ?_
          rotate_left
          · (intro w hSw; (try dsimp only at hSw); go_simp); try with_reducible rfl
          try simp only [Act.put, List.setIfInBounds_toArray, List.set_cons_zero, List.set_cons_succ]
          refine wpAnyT_take' (i := 2) (some 149) (v := ?_) rfl rfl (by kernel_rfl) (by kernel_rfl) (by kernel_rfl) (by decide) (fun _ _ _ h => h) (Or.inl ⟨by rfl, ?_⟩) (fun _ => trivial) hT0 ?_
          rotate_left
          · (intro w hSw; (try dsimp only at hSw); go_simp); try with_reducible rfl
          try simp only [Act.put, List.setIfInBounds_toArray, List.set_cons_zero, List.set_cons_succ]
          refine wpAnyT_take' (i := 3) (some 150) (v := ?_) rfl rfl (by kernel_rfl) (by kernel_rfl) (by kernel_rfl) (by decide) (fun _ _ _ h => h) (Or.inl ⟨by rfl, ?_⟩) (fun _ => trivial) hT0 ?_
          rotate_left
          · (intro w hSw; (try dsimp only at hSw); go_simp); try with_reducible rfl
          try simp only [Act.put, List.setIfInBounds_toArray, List.set_cons_zero, List.set_cons_succ]
          refine wpAnyT_one (i := 4) (by kernel_rfl) rfl (fun K hK => ?_)
          go_simp
          refine (check_any _ _ _ _ _ _ _ _ _ _ _ (HST.out.ext E6) (HTL.out.ext E6)).mono ?_
          rintro e w7 ⟨_, rfl, E7, rfl⟩
          rw [HCK.out]
          try simp only []
          have hT1 : w7.cell? ⟨yb, 0, none⟩ = some (.int .i64 pars) ∧ w7.cell? ⟨yb, 1, none⟩ = some (.int .i64 ((L.length : Int) - 1)) ∧ w7.cell? ⟨yb, 2, none⟩ = some (.slice ar L.length cr) ∧ w7.cell? ⟨yb, 3, none⟩ = some (.slice at' 0 ct) := ⟨E7.cell z0, E7.cell z1, E7.cell z2, E7.cell z3⟩
          refine hK _ _ (fun _ => trivial) hT1 ?_
          clear hK K
          try simp only [Act.put, List.setIfInBounds_toArray, List.set_cons_zero, List.set_cons_succ]
          refine wpAnyT_take' (i := 5) (some 152) (v := ?_) rfl rfl (by kernel_rfl) (by kernel_rfl) (by kernel_rfl) (by decide) (fun _ _ _ h => h) (Or.inl ⟨by rfl, ?_⟩) (fun _ => trivial) hT1 ?_
          rotate_left
          · (intro w hSw; (try dsimp only at hSw); go_simp); try with_reducible rfl
          try simp only [Act.put, List.setIfInBounds_toArray, List.set_cons_zero, List.set_cons_succ]
          refine wpAnyT_take' (i := 6) (some 153) (v := ?_) rfl rfl (by kernel_rfl) (by kernel_rfl) (by kernel_rfl) (by decide) (fun _ _ _ h => h) (Or.inl ⟨by rfl, ?_⟩) (fun _ => trivial) hT1 ?_
          rotate_left
          · (intro w hSw; (try dsimp only at hSw); go_simp); try with_reducible rfl
          try simp only [Act.put, List.setIfInBounds_toArray, List.set_cons_zero, List.set_cons_succ]
          refine wpAnyT_take' (i := 7) (some 154) (v := ?_) rfl rfl (by kernel_rfl) (by kernel_rfl) (by kernel_rfl) (by decide) (fun _ _ _ h => h) (Or.inl ⟨by rfl, ?_⟩) (fun _ => trivial) hT1 ?_
          rotate_left
          · (intro w hSw; (try dsimp only at hSw); go_simp); try with_reducible rfl
          try simp only [Act.put, List.setIfInBounds_toArray, List.set_cons_zero, List.set_cons_succ]
          refine wpAnyT_take' (i := 8) (some 155) (v := ?_) rfl rfl (by kernel_rfl) (by kernel_rfl) (by kernel_rfl) (by decide) (fun _ _ _ h => h) (Or.inl ⟨by rfl, ?_⟩) (fun _ => trivial) hT1 ?_
          rotate_left
          · (intro w hSw; (try dsimp only at hSw); go_simp); try with_reducible rfl
          try simp only [Act.put, List.setIfInBounds_toArray, List.set_cons_zero, List.set_cons_succ]
          refine wpAnyT_take' (i := 9) (some 156) (v := ?_) rfl rfl (by kernel_rfl) (by kernel_rfl) (by kernel_rfl) (by decide) (fun _ _ _ h => h) (Or.inl ⟨by rfl, ?_⟩) (fun _ => trivial) hT1 ?_
          rotate_left
          · (intro w hSw; (try dsimp only at hSw); go_simp); try with_reducible rfl
          try simp only [Act.put, List.setIfInBounds_toArray, List.set_cons_zero, List.set_cons_succ]
          refine wpAnyT_take' (i := 10) (some 157) (v := ?_) rfl rfl (by kernel_rfl) (by kernel_rfl) (by kernel_rfl) (by decide) (fun _ _ _ h => h) (Or.inl ⟨by rfl, ?_⟩) (fun _ => trivial) hT1 ?_
          rotate_left
          · (intro w hSw; (try dsimp only at hSw); go_simp); try with_reducible rfl
          try simp only [Act.put, List.setIfInBounds_toArray, List.set_cons_zero, List.set_cons_succ]
          refine wpAnyT_take' (i := 11) (some 158) (v := ?_) rfl rfl (by kernel_rfl) (by kernel_rfl) (by kernel_rfl) (by decide) (fun _ _ _ h => h) (Or.inl ⟨by rfl, ?_⟩) (fun _ => trivial) hT1 ?_
          rotate_left
          · (intro w hSw; (try dsimp only at hSw); go_simp); try with_reducible rfl
          try simp only [Act.put, List.setIfInBounds_toArray, List.set_cons_zero, List.set_cons_succ]
          refine wpAnyT_one (i := 12) (by kernel_rfl) rfl (fun K hK => ?_)
          go_simp
          refine (len_yes (HS5.out.one.kept (E6.trans E7))).mono ?_
          rintro e w8 ⟨rfl, rfl⟩
          try simp only []
          refine hK _ _ (fun _ => trivial) hT1 ?_
          clear hK K
          try simp only [Act.put, List.setIfInBounds_toArray, List.set_cons_zero, List.set_cons_succ]
          refine wpAnyT_take' (i := 13) (some 160) (v := ?_) rfl rfl (by kernel_rfl) (by kernel_rfl) (by kernel_rfl) (by decide) (fun _ _ _ h => h) (Or.inl ⟨by rfl, ?_⟩) (fun _ => trivial) hT1 ?_
          rotate_left
          · (intro w hSw; (try dsimp only at hSw); go_simp); try with_reducible rfl
          try simp only [Act.put, List.setIfInBounds_toArray, List.set_cons_zero, List.set_cons_succ]
          refine wpAnyT_take' (i := 14) (some 161) (v := ?_) rfl rfl (by kernel_rfl) (by kernel_rfl) (by kernel_rfl) (by decide) (fun _ _ _ h => h) (Or.inl ⟨by rfl, ?_⟩) (fun _ => trivial) hT1 ?_
          rotate_left
          · (intro w hSw; (try dsimp only at hSw); go_simp); try with_reducible rfl
          try simp only [Act.put, List.setIfInBounds_toArray, List.set_cons_zero, List.set_cons_succ]
          refine wpAnyT_take' (i := 15) (some 162) (v := ?_) rfl rfl (by kernel_rfl) (by kernel_rfl) (by kernel_rfl) (by decide) (fun _ _ _ h => h) (Or.inl ⟨by rfl, ?_⟩) (fun _ => trivial) hT1 ?_
          rotate_left
          · (intro w hSw; (try dsimp only at hSw); go_simp); try with_reducible rfl
          try simp only [Act.put, List.setIfInBounds_toArray, List.set_cons_zero, List.set_cons_succ]
          refine wpAnyT_take' (i := 16) (some 163) (v := ?_) rfl rfl (by kernel_rfl) (by kernel_rfl) (by kernel_rfl) (by decide) (fun _ _ _ h => h) (Or.inl ⟨by rfl, ?_⟩) (fun _ => trivial) hT1 ?_
          rotate_left
          · (intro w hSw; (try dsimp only at hSw); go_simp); try with_reducible rfl
          try simp only [Act.put, List.setIfInBounds_toArray, List.set_cons_zero, List.set_cons_succ]
          refine wpAnyT_take' (i := 17) (some 164) (v := ?_) rfl rfl (by kernel_rfl) (by kernel_rfl) (by kernel_rfl) (by decide) (fun _ _ _ h => h) (Or.inl ⟨by rfl, ?_⟩) (fun _ => trivial) hT1 ?_
          rotate_left
          · (intro w hSw; (try dsimp only at hSw); go_simp); try with_reducible rfl
          try simp only [Act.put, List.setIfInBounds_toArray, List.set_cons_zero, List.set_cons_succ]
          refine wpAnyT_take' (i := 18) (some 165) (v := ?_) rfl rfl (by kernel_rfl) (by kernel_rfl) (by kernel_rfl) (by decide) (fun _ _ _ h => h) (Or.inl ⟨by rfl, ?_⟩) (fun _ => trivial) hT1 ?_
          rotate_left
          · (intro w hSw; (try dsimp only at hSw); go_simp); try with_reducible rfl
          try simp only [Act.put, List.setIfInBounds_toArray, List.set_cons_zero, List.set_cons_succ]
          refine wpAnyT_take' (i := 19) (some 166) (v := ?_) rfl rfl (by kernel_rfl) (by kernel_rfl) (by kernel_rfl) (by decide) (fun _ _ _ h => h) (Or.inl ⟨by rfl, ?_⟩) (fun _ => trivial) hT1 ?_
          rotate_left
          · (intro w hSw; (try dsimp only at hSw); go_simp); try with_reducible rfl
          try simp only [Act.put, List.setIfInBounds_toArray, List.set_cons_zero, List.set_cons_succ]
          refine wpAnyT_take' (i := 20) (some 167) (v := ?_) rfl rfl (by kernel_rfl) (by kernel_rfl) (by kernel_rfl) (by decide) (fun _ _ _ h => h) (Or.inl ⟨by rfl, ?_⟩) (fun _ => trivial) hT1 ?_
          rotate_left
          · (intro w hSw; (try dsimp only at hSw); go_simp); try with_reducible rfl
          try simp only [Act.put, List.setIfInBounds_toArray, List.set_cons_zero, List.set_cons_succ]
          refine wpAnyT_take' (i := 21) (some 168) (v := ?_) rfl rfl (by kernel_rfl) (by kernel_rfl) (by kernel_rfl) (by decide) (fun _ _ _ h => h) (Or.inl ⟨by rfl, ?_⟩) (fun _ => trivial) hT1 ?_
          rotate_left
          · (intro w hSw; (try dsimp only at hSw); go_simp); try with_reducible rfl
          try simp only [Act.put, List.setIfInBounds_toArray, List.set_cons_zero, List.set_cons_succ]
          refine wpAnyT_done (by kernel_rfl) ?_ _
          try simp only [Act.put, List.setIfInBounds_toArray, List.set_cons_zero, List.set_cons_succ]
          obtain ⟨e0, e1, e2, e3⟩ := hT1
          have HX := Lib.hid ((HS5.out.ext.trans E6).trans E7)
          have HST7 := Lib.hid ((HST.out.ext E6).ext E7)
          have HTL7 := Lib.hid ((HTL.out.ext E6).ext E7)
          clear z0 z1 z2 z3 hT0 HST HTL HS5 E6 E7 HCK hx1 hl'
          have e167 : decide (b < L.length) = false := decide_eq_false (by omega)
          rw [e167]
          go_wp2_with fail
          clear e167
          go_loopw [15] (fun k wr => ∃ i : Nat, i ≤ L.length ∧ k = .int .i64 i ∧ Ext w7 wr) (fun k _ => L.length - (intOf k).toNat)
          case atStart => exact ⟨0, by omega, rfl, Ext.refl _⟩
          case round =>
            obtain ⟨i, hi, rfl, hext⟩ := hrel
            have y2 := hext.cell e2
            by_cases hil : i < L.length
            · have hil' : ((i : Nat) : Int) < L.length := by omega
              go_wp2_with fail
              go_loopw [16] (fun k wq => ∃ m : Nat, m ≤ i ∧ k = .int .i64 m ∧ Ext w7 wq) (fun k _ => i - (intOf k).toNat)
              case atStart => exact ⟨0, by omega, rfl, hext⟩
              case round =>
                clear y2 hext
                obtain ⟨m, hm, rfl, hext⟩ := hrel
                have y2 := hext.cell e2
                by_cases hmi : m < i
                · have hmi' : ((m : Nat) : Int) < i := by omega
                  obtain ⟨bb, off, s, rfl, hs, hs1⟩ := (HST7.out.ext hext).one hil
                  obtain ⟨bb', off', t, e', ht, ht1⟩ := (HST7.out.ext hext).one (show m < L.length by omega)
                  cases e'
                  have hyw := World.block_lt_of_cell? _ _ y2
                  simp at hyw
                  have hcr : ¬ cr = i := by omega
                  have hcr' : ¬ cr = m := by omega
                  have HSa := Lib.hid hs1
                  have HTa := Lib.hid ht1
                  have HP := Lib.hid (sameP_one HG.out hs ht hmi)
                  clear hs ht hs1 ht1
                  go_wp2_with fail
                  refine (tsame_any _ _ 0 0 0 0 [s] [t] [] [] _ ⟨_, _, _, _, _, _, rfl, (HSa.out _).ext ((Ext.of_alloc _ _).alloc _), tells_nil _⟩ ⟨_, _, _, _, _, _, rfl, (HTa.out _).ext ((Ext.of_alloc _ _).alloc _), tells_nil _⟩).mono ?_
                  rintro e w9 ⟨_, rfl, E9, rfl⟩
                  rw [HP.out]
                  have hx9 := ((hext.alloc _).alloc _).trans E9
                  clear hext E9 y2 HSa HTa HP
                  go_wp2
                  go_roundw
                  case rel => exact ⟨m + 1, by omega, by go_num, hx9⟩
                  case measure => simp [intOf]; omega
                · go_wp2
                  exact ⟨⟨i + 1, by omega, by go_num, hext⟩, by simp [intOf]; omega⟩
            · have y0 := hext.cell e0
              have y1 := hext.cell e1
              have y3 := hext.cell e3
              have HG7 := Lib.hid (HST7.out.ext hext)
              have HK7 := Lib.hid (HTL7.out.ext hext)
              have HXX := Lib.hid (HX.out.trans hext)
              clear e0 e1 e2 e3 hext HST7 HTL7 HX
              go_wp2_with fail
              refine (tsame_any _ _ pars ((L.length : Int) - 1) pars ((L.length : Int) - 1) L L [] [] _ ⟨_, _, _, _, _, _, rfl, HG7.out, HK7.out⟩ ⟨_, _, _, _, _, _, rfl, HG7.out, HK7.out⟩).mono ?_
              rintro e w9 ⟨_, rfl, E9, rfl⟩
              rw [sameP_self]
              go_wp2_with fail
              refine (head17 _).mono ?_
              rintro e w10 ⟨_, rfl, E10, rfl⟩
              go_wp2
              go_ret
              exact Post.mk ((HXX.out.trans E9).trans E10) rfl
end Go.Proofs.Ytbncdghbnnefdaa
