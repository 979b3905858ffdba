/- Parts of the proof: contracts of the functions that the law reaches, and the arithmetic that they rest on; no condition beyond those that each theorem states. -/
import Derived.Test.YtbncdghbnnefdaaGreatM7
import Derived.Test.YtbncdghbnnefdaaGreatM10

namespace Go.Proofs.YtbncdghbnnefdaaGreat
open Go.RowKit

theorem nth_eq {xs ys : List Nat} (hl : xs.length = ys.length) (h : ∀ i, i < xs.length → xs[i]?.getD 0 = ys[i]?.getD 0) : xs = ys := by
  refine List.ext_getElem hl fun i h1 h2 => ?_
  have := h i h1
  rw [List.getElem?_eq_getElem h1, List.getElem?_eq_getElem h2] at this
  simpa using this
set_option maxRecDepth 100000 in
set_option maxHeartbeats 2000000 in
theorem rlimbs_any (a1 a2 : Option Addr) (n1 c1 n2 c2 : Nat) (xs ys : List Nat) (w : World) (h1 : Nums w a1 n1 c1 xs) (h2 : Nums w a2 n2 c2 ys) :
    Calls Tryz.prog 58 #[.slice a1 n1 c1, .slice a2 n2 c2] w (Post w fun v _ => v = .bool (sameL xs ys)) := by
  obtain ⟨q, hq⟩ : ∃ q, q = sameL xs ys := ⟨_, rfl⟩
  rw [← hq]
  have Hq := Lib.hid hq
  clear hq
  have f1 := h1.few
  have f2 := h2.few
  by_cases hn : n1 = n2
  · subst hn
    go_enter Tryz.func58, Tryz.ntmps58
    go_wp2
    go_loopw [5] (fun i wr => ∃ j : Nat, j ≤ n1 ∧ i = .int .i64 j ∧ Ext w wr ∧ Hid (∀ k, k < j → xs[k]?.getD 0 = ys[k]?.getD 0)) (fun i _ => n1 - (intOf i).toNat)
    case atStart => exact ⟨0, Nat.zero_le _, rfl, Ext.refl _, Lib.hid (fun k hk => by omega)⟩
    case round =>
      obtain ⟨j, hj, rfl, hE, hall⟩ := hrel
      by_cases hlt : j < n1
      · obtain ⟨b1, o1, rfl, k1⟩ := (h1.ext hE).at hlt
        obtain ⟨b2, o2, rfl, k2⟩ := (h2.ext hE).at hlt
        obtain ⟨x, hx⟩ : ∃ x, x = xs[j]?.getD 0 := ⟨_, rfl⟩
        obtain ⟨y, hy⟩ : ∃ y, y = ys[j]?.getD 0 := ⟨_, rfl⟩
        rw [← hx] at k1
        rw [← hy] at k2
        have Hx := Lib.hid hx
        have Hy := Lib.hid hy
        have hj1 : (j : Int) < n1 := by omega
        have hl1 := h1.len
        clear h1 h2 hx hy
        by_cases hxy : x = y
        · subst hxy
          have HA : Hid (∀ k, k < j + 1 → xs[k]?.getD 0 = ys[k]?.getD 0) := Lib.hid (fun k hk => by
            by_cases e : k = j
            · subst e; rw [← Hx.out, ← Hy.out]
            · exact hall.out k (by omega))
          clear hall
          go_wp2
          go_quiet (fail)
          go_wp2
          go_roundw
          case rel => exact ⟨j + 1, by omega, by go_num, hE.drewN _, HA⟩
          case measure => simp [intOf]; omega
        · have hxy' : ((x : Int) != (y : Int)) = true := by simp; omega
          have hq0 : q = false := by
            rw [Hq.out]
            unfold sameL
            refine decide_eq_false fun e => hxy ?_
            rw [Hx.out, Hy.out, e]
          subst hq0
          clear hxy
          go_wp2
          go_quiet (fail)
          go_wp2
          go_ret
          exact Post.mk (hE.drewN _) rfl
      · obtain rfl : j = n1 := by omega
        have hq1 : q = true := by
          rw [Hq.out]
          unfold sameL
          exact decide_eq_true (nth_eq (by rw [h1.len, h2.len]) (fun i hi => hall.out i (by rw [h1.len] at hi; exact hi)))
        subst hq1
        go_wp2
        go_ret
        exact Post.mk hE rfl
  · have hq0 : q = false := by
      rw [Hq.out]
      unfold sameL
      refine decide_eq_false fun e => hn ?_
      rw [← h1.len, ← h2.len, e]
    subst hq0
    have hn' : ¬ ((n1 : Int) = n2) := by omega
    have hn2 : ((n1 : Int) == n2) = false := by simp; omega
    go_enter Tryz.func58, Tryz.ntmps58
    go_wp2
    go_ret
    exact Post.mk (by repeat (first | with_reducible exact Ext.refl _ | with_reducible assumption | (with_reducible refine Ext.alloc ?_ _) | (with_reducible refine Ext.drew ?_) | (with_reducible refine Ext.drewN ?_ _) | (with_reducible refine Ext.set ?_ (by first | (simp; done) | (simp; omega)) _) | (with_reducible refine Ext.trans ?_ (by with_reducible assumption)))) rfl
set_option maxRecDepth 100000 in
set_option maxHeartbeats 2000000 in
/-- Same, where the second one is normal. -/
theorem rsame_any (a1 a2 : Option Addr) (n1 c1 n2 c2 m : Nat) (xs : List Nat) (w : World) (h1 : Nums w a1 n1 c1 xs) (h2 : Nums w a2 n2 c2 (limbs m)) :
    Calls Tryz.prog 78 #[.slice a1 n1 c1, .slice a2 n2 c2] w (Post w fun v _ => v = .bool (sameL xs (limbs m))) := by
  by_cases he : xs = limbs m
  · subst he
    have e : sameL (limbs m) (limbs m) = true := by simp [sameL]
    rw [e]
    obtain rfl : n1 = n2 := by rw [← h1.len, ← h2.len]
    refine same_any a1 a2 n1 c1 c2 _ w h1 h2 ?_
    by_cases h0 : n1 = 0
    · exact .inl h0
    · right
      obtain ⟨xs, t, e, ht, _⟩ := limbs_last (n := m) (fun h => h0 (by rw [← h1.len, h, limbs_zero]; rfl))
      have hl := h1.len
      rw [e] at hl ⊢
      rw [List.length_append, List.length_singleton] at hl
      rw [← hl, Nat.add_sub_cancel, List.getElem?_append_right (Nat.le_refl _)]
      simpa using ht
  · have e : sameL xs (limbs m) = false := by unfold sameL; exact decide_eq_false he
    rw [e]
    generalize limbs m = ys at *
    clear e
    have f1 := h1.few
    have f2 := h2.few
    by_cases hn : n1 = n2
    · subst hn
      have He := Lib.hid he
      clear he
      go_enter Tryz.func78, Tryz.ntmps78
      go_wp2
      go_loopw [5] (fun i wr => ∃ j : Nat, j ≤ n1 ∧ i = .int .i64 j ∧ Ext w wr ∧ Hid (∀ k, k < j → xs[k]?.getD 0 = ys[k]?.getD 0)) (fun i _ => n1 - (intOf i).toNat)
      case atStart => exact ⟨0, Nat.zero_le _, rfl, Ext.refl _, Lib.hid (fun k hk => by omega)⟩
      case round =>
        obtain ⟨j, hj, rfl, hE, hall⟩ := hrel
        by_cases hlt : j < n1
        · obtain ⟨b1, o1, rfl, k1⟩ := (h1.ext hE).at hlt
          obtain ⟨b2, o2, rfl, k2⟩ := (h2.ext hE).at hlt
          obtain ⟨x, hx⟩ : ∃ x, x = xs[j]?.getD 0 := ⟨_, rfl⟩
          obtain ⟨y, hy⟩ : ∃ y, y = ys[j]?.getD 0 := ⟨_, rfl⟩
          rw [← hx] at k1
          rw [← hy] at k2
          have Hx := Lib.hid hx
          have Hy := Lib.hid hy
          have hj1 : (j : Int) < n1 := by omega
          clear h1 h2 hx hy
          by_cases hxy : x = y
          · subst hxy
            have HA : Hid (∀ k, k < j + 1 → xs[k]?.getD 0 = ys[k]?.getD 0) := Lib.hid (fun k hk => by
              by_cases e : k = j
              · subst e; rw [← Hx.out, ← Hy.out]
              · exact hall.out k (by omega))
            clear hall
            go_wp2
            go_quiet (fail)
            go_wp2
            go_roundw
            case rel => exact ⟨j + 1, by omega, by go_num, hE.drewN _, HA⟩
            case measure => simp [intOf]; omega
          · have hxy' : ((x : Int) != (y : Int)) = true := by simp; omega
            clear hxy
            go_wp2
            go_quiet (fail)
            go_wp2
            go_ret
            exact Post.mk (hE.drewN _) rfl
        · obtain rfl : j = n1 := by omega
          exact absurd (nth_eq (by rw [h1.len, h2.len]) (fun i hi => hall.out i (by rw [h1.len] at hi; exact hi))) He.out
    · have hn' : ¬ ((n1 : Int) = n2) := by omega
      have hn2 : ((n1 : Int) == n2) = false := by simp; omega
      clear he
      go_enter Tryz.func78, Tryz.ntmps78
      go_wp2
      go_ret
      exact Post.mk (by repeat (first | with_reducible exact Ext.refl _ | with_reducible assumption | (with_reducible refine Ext.alloc ?_ _) | (with_reducible refine Ext.drew ?_) | (with_reducible refine Ext.drewN ?_ _) | (with_reducible refine Ext.set ?_ (by first | (simp; done) | (simp; omega)) _) | (with_reducible refine Ext.trans ?_ (by with_reducible assumption)))) rfl
theorem rlong_any {w : World} {v : Value} {m : Nat} (h : IsN w v m) (ht : m < Top) : Calls Tryz.prog 53 #[v] w (Post w fun v _ => v = .bool false) := by
  obtain ⟨a, n, c, xs, rfl, h1, h2⟩ := h
  have HN := Lib.hid (fun W (e : Ext w W) => rnorm_n (IsN.ext ⟨a, n, c, xs, rfl, h1, h2⟩ e) ht)
  clear h1 h2
  go_enter Tryz.func53, Tryz.ntmps53
  go_wp2_with fail
  refine (HN.out _ (Ext.refl _)).mono ?_
  rintro e w1 ⟨v, rfl, E1, hm, a', n', c', rfl, hx⟩
  have hl := few_of_top hx hm
  have hl' : ¬ (2048 : Int) < n' := by omega
  clear hx hm
  go_wp2
  go_ret
  exact Post.mk E1 (congrArg Value.bool (decide_eq_false (by omega)))
set_option maxRecDepth 100000 in
theorem rnone_any (s : Step) (g : Bool) (a1 a2 : Option Addr) (n1 c1 n2 c2 : Nat) (w : World) (hg : s.neg = g) (h1 : s.xs.length = n1) (h2 : s.ys.length = n2) (b1 : n1 ≤ 65536) (b2 : n2 ≤ 65536) :
    Calls Tryz.prog 61 #[.agg #[.bool g, .slice a1 n1 c1, .slice a2 n2 c2]] w (Post w fun v _ => v = .bool (noneC s)) := by
  have e : noneC s = (decide (n1 = 0) && (decide (n2 = 0) && !g)) := by unfold noneC; rw [h1, h2, hg]
  rw [e]
  clear e h1 h2 hg
  by_cases k1 : n1 = 0
  · subst k1
    cases g
    · by_cases k2 : n2 = 0
      · subst k2
        go_enter Tryz.func61, Tryz.ntmps61
        go_wp2
        go_ret
        exact Post.mk (by repeat (first | with_reducible exact Ext.refl _ | with_reducible assumption | (with_reducible refine Ext.alloc ?_ _) | (with_reducible refine Ext.drew ?_) | (with_reducible refine Ext.drewN ?_ _) | (with_reducible refine Ext.set ?_ (by first | (simp; done) | (simp; omega)) _) | (with_reducible refine Ext.trans ?_ (by with_reducible assumption)))) rfl
      · have k2' : ¬ ((n2 : Int) = 0) := by omega
        have k3 : ((n2 : Int) == 0) = false := by simp; omega
        rw [decide_eq_false k2]
        go_enter Tryz.func61, Tryz.ntmps61
        go_wp2
        go_ret
        exact Post.mk (by repeat (first | with_reducible exact Ext.refl _ | with_reducible assumption | (with_reducible refine Ext.alloc ?_ _) | (with_reducible refine Ext.drew ?_) | (with_reducible refine Ext.drewN ?_ _) | (with_reducible refine Ext.set ?_ (by first | (simp; done) | (simp; omega)) _) | (with_reducible refine Ext.trans ?_ (by with_reducible assumption)))) rfl
    · have e : (decide ((0 : Nat) = 0) && (decide (n2 = 0) && !true)) = false := by simp
      rw [e]
      clear e
      go_enter Tryz.func61, Tryz.ntmps61
      go_wp2
      go_ret
      exact Post.mk (by repeat (first | with_reducible exact Ext.refl _ | with_reducible assumption | (with_reducible refine Ext.alloc ?_ _) | (with_reducible refine Ext.drew ?_) | (with_reducible refine Ext.drewN ?_ _) | (with_reducible refine Ext.set ?_ (by first | (simp; done) | (simp; omega)) _) | (with_reducible refine Ext.trans ?_ (by with_reducible assumption)))) rfl
  · have k2' : ¬ ((n1 : Int) = 0) := by omega
    have k3 : ((n1 : Int) == 0) = false := by simp; omega
    rw [decide_eq_false k1]
    go_enter Tryz.func61, Tryz.ntmps61
    go_wp2
    go_ret
    exact Post.mk (by repeat (first | with_reducible exact Ext.refl _ | with_reducible assumption | (with_reducible refine Ext.alloc ?_ _) | (with_reducible refine Ext.drew ?_) | (with_reducible refine Ext.drewN ?_ _) | (with_reducible refine Ext.set ?_ (by first | (simp; done) | (simp; omega)) _) | (with_reducible refine Ext.trans ?_ (by with_reducible assumption)))) rfl
set_option maxRecDepth 100000 in
theorem rmay_any (g : Bool) (a1 a2 : Option Addr) (n1 c1 n2 c2 n d : Nat) (w : World) (h1 : IsN w (.slice a1 n1 c1) n) (h2 : IsN w (.slice a2 n2 c2) d) (ht1 : n < Top) (ht2 : d < Top) :
    Calls Tryz.prog 31 #[.agg #[.bool g, .slice a1 n1 c1, .slice a2 n2 c2]] w (Post w fun v _ => v = .bool (decide (d ≠ 0))) := by
  have H1 := Lib.hid (fun W (e : Ext w W) => rlong_any (h1.ext e) ht1)
  have H2 := Lib.hid (fun W (e : Ext w W) => rlong_any (h2.ext e) ht2)
  have H3 := Lib.hid (fun W (e : Ext w W) => rBits_n (h2.ext e))
  obtain ⟨q, hq⟩ : ∃ q, q = decide (d ≠ 0) := ⟨_, rfl⟩
  rw [← hq]
  have Hq := Lib.hid hq
  clear h1 h2 hq
  go_enter Tryz.func31, Tryz.ntmps31
  go_wp2_with fail
  refine (H1.out _ (Ext.of_alloc _ _)).mono ?_
  rintro e w1 ⟨_, rfl, E1, rfl⟩
  obtain ⟨hc, hf⟩ := E1.look
  have hz := E1.size
  simp at hz
  clear H1
  go_wp2_with fail
  refine (H2.out _ ((Ext.of_alloc _ _).trans E1)).mono ?_
  rintro e w2 ⟨_, rfl, E2, rfl⟩
  have E12 := E1.trans E2
  clear hc hf H2
  obtain ⟨hc, hf⟩ := E12.look
  go_wp2_with fail
  refine (H3.out _ ((Ext.of_alloc _ _).trans E12)).mono ?_
  rintro e w3 ⟨rfl, rfl⟩
  by_cases hd : d = 0
  · subst hd
    have e0 : blen 0 = 0 := blen_zero
    rw [e0]
    obtain rfl : q = false := by rw [Hq.out]; rfl
    go_wp2
    go_ret
    exact Post.mk ((Ext.of_alloc _ _).trans E12) rfl
  · have hb : 0 < blen d := by
      have := (blen_iff d 0)
      have := lt_blen d
      rcases Nat.eq_zero_or_pos (blen d) with h | h
      · rw [h] at this; omega
      · exact h
    have hb' : (0 : Int) < blen d := by omega
    obtain rfl : q = true := by rw [Hq.out]; exact decide_eq_true hd
    clear hd hb'
    go_wp2
    go_ret
    exact Post.mk ((Ext.of_alloc _ _).trans E12) (by first | rfl | exact congrArg Value.bool (decide_eq_true hb))
end Go.Proofs.YtbncdghbnnefdaaGreat

namespace Go.Proofs.YtbncdghbnnefdaaGreat
open Go.RowKit

/-- A rational number by its sign and its limbs. -/
def FL (w : World) (v : Value) (g : Bool) (n d : Nat) : Prop := ∃ a1 n1 c1 a2 n2 c2, v = .agg #[.bool g, .slice a1 n1 c1, .slice a2 n2 c2] ∧ Nums w a1 n1 c1 (limbs n) ∧ Nums w a2 n2 c2 (limbs d)

set_option maxRecDepth 100000 in
theorem rznorm_any (g : Bool) (a : Option Addr) (n c m : Nat) (w : World) (h : IsN w (.slice a n c) m) (ht : m < Top) :
    Calls Tryz.prog 76 #[.agg #[.bool g, .slice a n c]] w (Post w fun v w' => ∃ a' n' c', v = .agg #[.bool (sg g m), .slice a' n' c'] ∧ Nums w' a' n' c' (limbs m)) := by
  have HN := Lib.hid (fun W (e : Ext w W) => rnorm_n (h.ext e) ht)
  clear h
  go_enter Tryz.func76, Tryz.ntmps76
  go_wp2_with fail
  refine (HN.out _ (by repeat (first | with_reducible exact Ext.refl _ | with_reducible assumption | (with_reducible refine Ext.alloc ?_ _) | (with_reducible refine Ext.drew ?_) | (with_reducible refine Ext.drewN ?_ _) | (with_reducible refine Ext.set ?_ (by first | (simp; done) | (simp; omega)) _) | (with_reducible refine Ext.trans ?_ (by with_reducible assumption))))).mono ?_
  rintro e w1 ⟨v, rfl, E1, hm, a', n', c', rfl, hx⟩
  obtain ⟨hc, hf⟩ := E1.look
  have hz := E1.size
  simp at hz
  have hn : n' = (limbs m).length := hx.len.symm
  have hl := few_of_top hx hm
  clear HN hm
  cases g
  · have e0 : sg false m = false := rfl
    clear hn
    go_wp2
    exact bodyPost_ret (v := .agg #[.bool false, .slice a' n' c']) (by simp [results, Tryz.results76, go_sem, hc]) rfl (Post.mk (by repeat (first | with_reducible exact Ext.refl _ | with_reducible assumption | (with_reducible refine Ext.alloc ?_ _) | (with_reducible refine Ext.drew ?_) | (with_reducible refine Ext.drewN ?_ _) | (with_reducible refine Ext.set ?_ (by first | (simp; done) | (simp; omega)) _) | (with_reducible refine Ext.trans ?_ (by with_reducible assumption)))) ⟨a', n', c', by rw [e0], hx.keep (by repeat (first | with_reducible exact Keeps.refl _ | with_reducible assumption | (with_reducible refine Keeps.alloc ?_ _) | (with_reducible refine Keeps.drew ?_) | (with_reducible refine Keeps.drewN ?_ _) | (with_reducible refine Keeps.set ?_ (by simp [go_sem, isU, *]) _) | (with_reducible refine Keeps.trans ?_ (Ext.keeps (by with_reducible assumption))) | (with_reducible refine Keeps.trans ?_ (by with_reducible assumption))))⟩)
  · by_cases h0 : m = 0
    · have hn0 : n' = 0 := by rw [hn, h0, limbs_zero]; rfl
      have e0 : sg true m = false := by rw [h0]; rfl
      have hn1 : ¬ (0 : Int) < n' := by omega
      clear hn h0
      go_wp2
      exact bodyPost_ret (v := .agg #[.bool false, .slice a' n' c']) (by simp [results, Tryz.results76, go_sem, hc]; omega) rfl (Post.mk (by repeat (first | with_reducible exact Ext.refl _ | with_reducible assumption | (with_reducible refine Ext.alloc ?_ _) | (with_reducible refine Ext.drew ?_) | (with_reducible refine Ext.drewN ?_ _) | (with_reducible refine Ext.set ?_ (by first | (simp; done) | (simp; omega)) _) | (with_reducible refine Ext.trans ?_ (by with_reducible assumption)))) ⟨a', n', c', by rw [e0], hx.keep (by repeat (first | with_reducible exact Keeps.refl _ | with_reducible assumption | (with_reducible refine Keeps.alloc ?_ _) | (with_reducible refine Keeps.drew ?_) | (with_reducible refine Keeps.drewN ?_ _) | (with_reducible refine Keeps.set ?_ (by simp [go_sem, isU, *]) _) | (with_reducible refine Keeps.trans ?_ (Ext.keeps (by with_reducible assumption))) | (with_reducible refine Keeps.trans ?_ (by with_reducible assumption))))⟩)
    · have hn0 : n' ≠ 0 := by rw [hn]; intro e; exact h0 (limbs_eq_nil.1 (List.eq_nil_of_length_eq_zero e))
      have e0 : sg true m = true := by simp [sg, h0]
      have hn1 : (0 : Int) < n' := by omega
      clear hn h0
      go_wp2
      exact bodyPost_ret (v := .agg #[.bool true, .slice a' n' c']) (by simp [results, Tryz.results76, go_sem, hc]; omega) rfl (Post.mk (by repeat (first | with_reducible exact Ext.refl _ | with_reducible assumption | (with_reducible refine Ext.alloc ?_ _) | (with_reducible refine Ext.drew ?_) | (with_reducible refine Ext.drewN ?_ _) | (with_reducible refine Ext.set ?_ (by first | (simp; done) | (simp; omega)) _) | (with_reducible refine Ext.trans ?_ (by with_reducible assumption)))) ⟨a', n', c', by rw [e0], hx.keep (by repeat (first | with_reducible exact Keeps.refl _ | with_reducible assumption | (with_reducible refine Keeps.alloc ?_ _) | (with_reducible refine Keeps.drew ?_) | (with_reducible refine Keeps.drewN ?_ _) | (with_reducible refine Keeps.set ?_ (by simp [go_sem, isU, *]) _) | (with_reducible refine Keeps.trans ?_ (Ext.keeps (by with_reducible assumption))) | (with_reducible refine Keeps.trans ?_ (by with_reducible assumption))))⟩)
theorem rwhole_any (a : Option Addr) (n c : Nat) (w : World) :
    Calls Tryz.prog 56 #[.slice a n c] w (Post w fun v _ => v = .agg #[.bool false, .slice a n c]) := by
  go_enter Tryz.func56, Tryz.ntmps56
  go_wp2
  exact bodyPost_ret (v := .agg #[.bool false, .slice a n c]) (by simp [results, Tryz.results56, go_sem]) rfl (Post.mk (by repeat (first | with_reducible exact Ext.refl _ | with_reducible assumption | (with_reducible refine Ext.alloc ?_ _) | (with_reducible refine Ext.drew ?_) | (with_reducible refine Ext.drewN ?_ _) | (with_reducible refine Ext.set ?_ (by first | (simp; done) | (simp; omega)) _) | (with_reducible refine Ext.trans ?_ (by with_reducible assumption)))) rfl)
theorem sm_div {k a b : Nat} (h : Sm k a) : Sm k (a / b) := Nat.lt_of_le_of_lt (Nat.div_le_self _ _) h
theorem sm_gcd {k a b : Nat} (h : Sm k b) (hb : b ≠ 0) : Sm k (Nat.gcd a b) := Nat.lt_of_le_of_lt (Nat.le_of_dvd (Nat.pos_of_ne_zero hb) (Nat.gcd_dvd_right a b)) h
set_option maxRecDepth 100000 in
set_option maxHeartbeats 2000000 in
theorem rmake_any (g : Bool) (a1 a2 : Option Addr) (n1 c1 n2 c2 n d : Nat) (w : World) (h1 : IsN w (.slice a1 n1 c1) n) (h2 : IsN w (.slice a2 n2 c2) d) (hs1 : Sm 2040 n) (hs2 : Sm 2040 d) (hd : d ≠ 0) :
    Calls Tryz.prog 55 #[.agg #[.bool g, .slice a1 n1 c1], .agg #[.bool false, .slice a2 n2 c2]] w (Post w fun v w' => FL w' v (sg g (n / Nat.gcd n d)) (n / Nat.gcd n d) (d / Nat.gcd n d)) := by
  have hg0 : Nat.gcd n d ≠ 0 := fun e => hd (Nat.eq_zero_of_gcd_eq_zero_right e)
  have H1 := Lib.hid (fun W (e : Ext w W) => rgcd_n (h1.ext e) (h2.ext e) hs1 hs2)
  have H2 := Lib.hid (fun W v (e : Ext w W) (hv : Num W v (Nat.gcd n d)) => rdiv_n (h1.ext e) hv.is hs1 (sm_gcd hs2 hd) hg0)
  have H3 := Lib.hid (fun W v (e : Ext w W) (hv : Num W v (Nat.gcd n d)) => rdiv_n (h2.ext e) hv.is hs2 (sm_gcd hs2 hd) hg0)
  clear h1 h2 hs1 hs2 hd hg0
  go_enter Tryz.func55, Tryz.ntmps55
  go_wp2_with fail
  refine (H1.out _ (by repeat (first | with_reducible exact Ext.refl _ | with_reducible assumption | (with_reducible refine Ext.alloc ?_ _) | (with_reducible refine Ext.drew ?_) | (with_reducible refine Ext.drewN ?_ _) | (with_reducible refine Ext.set ?_ (by first | (simp; done) | (simp; omega)) _) | (with_reducible refine Ext.trans ?_ (by with_reducible assumption))))).mono ?_
  rintro e w1 ⟨v1, rfl, E1, hv1⟩
  obtain ⟨x1, y1, z1, e1⟩ : ∃ a n c, v1 = .slice a n c := by obtain ⟨_, a, n, c, e, _⟩ := hv1; exact ⟨a, n, c, e⟩
  subst e1
  have F1 := (((Ext.of_alloc w _).alloc _).alloc _).trans E1
  obtain ⟨hc, hf⟩ := E1.look
  have hz := E1.size
  simp at hz
  clear H1
  go_wp2_with fail
  refine (H2.out _ _ F1 hv1).mono ?_
  rintro e w2 ⟨v2, rfl, E2, q2, r2, rfl, hq2, _⟩
  obtain ⟨x2, y2, z2, e2⟩ : ∃ a n c, q2 = .slice a n c := by obtain ⟨_, a, n, c, e, _⟩ := hq2; exact ⟨a, n, c, e⟩
  subst e2
  have E12 := E1.trans E2
  clear hc hf H2
  obtain ⟨hc, hf⟩ := E12.look
  go_wp2_with fail
  refine (H3.out _ _ (F1.trans E2) (hv1.ext E2)).mono ?_
  rintro e w3 ⟨v3, rfl, E3, q3, r3, rfl, hq3, _⟩
  obtain ⟨x3, y3, z3, e3⟩ : ∃ a n c, q3 = .slice a n c := by obtain ⟨_, a, n, c, e, _⟩ := hq3; exact ⟨a, n, c, e⟩
  subst e3
  have E13 := E12.trans E3
  clear hc hf H3
  obtain ⟨hc, hf⟩ := E13.look
  go_wp2_with fail
  refine (rznorm_any g _ _ _ _ _ ((hq2.ext E3).is) hq2.lt).mono ?_
  rintro e w4 ⟨v4, rfl, E4, a4, n4, c4, rfl, hx4⟩
  have E14 := E13.trans E4
  clear hc hf
  obtain ⟨hc, hf⟩ := E14.look
  go_wp2_with fail
  refine (rnorm_n ((hq3.ext E4).is) hq3.lt).mono ?_
  rintro e w5 ⟨v5, rfl, E5, _, a5, n5, c5, rfl, hx5⟩
  have E15 := E14.trans E5
  have HE5 := Lib.hid E5
  clear hc hf
  obtain ⟨hc, hf⟩ := E15.look
  obtain ⟨b, hb⟩ : ∃ b, b = sg g (n / Nat.gcd n d) := ⟨_, rfl⟩
  rw [← hb]
  have Hb := Lib.hid hb
  clear hv1 hq2 hq3 F1 E12 E13 E14 E1 E2 E3 E4 hb
  have hsz := E15.size
  simp at hsz
  clear hz
  go_wp2
  exact bodyPost_ret (v := .agg #[.bool b, .slice a4 n4 c4, .slice a5 n5 c5]) (by simp [results, Tryz.results55, go_sem, hc]) rfl (Post.mk (by repeat (first | with_reducible exact Ext.refl _ | with_reducible assumption | (with_reducible refine Ext.alloc ?_ _) | (with_reducible refine Ext.drew ?_) | (with_reducible refine Ext.drewN ?_ _) | (with_reducible refine Ext.set ?_ (by first | (simp; done) | (simp; omega)) _) | (with_reducible refine Ext.trans ?_ (by with_reducible assumption)))) ⟨a4, n4, c4, a5, n5, c5, by rw [← Hb.out], (hx4.ext HE5.out).keep (by repeat (first | with_reducible exact Keeps.refl _ | with_reducible assumption | (with_reducible refine Keeps.alloc ?_ _) | (with_reducible refine Keeps.drew ?_) | (with_reducible refine Keeps.drewN ?_ _) | (with_reducible refine Keeps.set ?_ (by simp [go_sem, isU, *]) _) | (with_reducible refine Keeps.trans ?_ (Ext.keeps (by with_reducible assumption))) | (with_reducible refine Keeps.trans ?_ (by with_reducible assumption)))), hx5.keep (by repeat (first | with_reducible exact Keeps.refl _ | with_reducible assumption | (with_reducible refine Keeps.alloc ?_ _) | (with_reducible refine Keeps.drew ?_) | (with_reducible refine Keeps.drewN ?_ _) | (with_reducible refine Keeps.set ?_ (by simp [go_sem, isU, *]) _) | (with_reducible refine Keeps.trans ?_ (Ext.keeps (by with_reducible assumption))) | (with_reducible refine Keeps.trans ?_ (by with_reducible assumption))))⟩)
end Go.Proofs.YtbncdghbnnefdaaGreat

namespace Go.Proofs.YtbncdghbnnefdaaGreat
open Go.RowKit

set_option maxRecDepth 100000 in
theorem rfnorm_any (g : Bool) (a1 a2 : Option Addr) (n1 c1 n2 c2 n d : Nat) (w : World) (h1 : IsN w (.slice a1 n1 c1) n) (h2 : IsN w (.slice a2 n2 c2) d) (hs1 : Sm 2040 n) (hs2 : Sm 2040 d) (hd : d ≠ 0) :
    Calls Tryz.prog 33 #[.agg #[.bool g, .slice a1 n1 c1, .slice a2 n2 c2]] w (Post w fun v w' => FL w' v (sg g (n / Nat.gcd n d)) (n / Nat.gcd n d) (d / Nat.gcd n d)) := by
  have HM := Lib.hid (fun W (e : Ext w W) => rmake_any g a1 a2 n1 c1 n2 c2 n d W (h1.ext e) (h2.ext e) hs1 hs2 hd)
  clear h1 h2 hs1 hs2 hd
  go_enter Tryz.func33, Tryz.ntmps33
  go_wp2_with fail
  obtain ⟨W1, hW1⟩ : ∃ W1, W1 = (w.alloc (.cells #[.bool g, .slice a1 n1 c1, .slice a2 n2 c2] 35)).alloc (.cells #[.bool false, .slice none 0 0, .slice none 0 0] 35) := ⟨_, rfl⟩
  obtain ⟨nb, hnb⟩ : ∃ nb, nb = w.heap.size := ⟨_, rfl⟩
  obtain ⟨ob, hob'⟩ : ∃ ob, ob = w.heap.size + 1 := ⟨_, rfl⟩
  have EW : Ext w W1 := by rw [hW1]; exact (Ext.of_alloc _ _).alloc _
  have z0 : W1.cell? ⟨nb, 0, none⟩ = some (.bool g) := by rw [hW1, hnb]; simp [go_sem]
  have z1 : W1.cell? ⟨nb, 1, none⟩ = some (.slice a1 n1 c1) := by rw [hW1, hnb]; simp [go_sem]
  have z2 : W1.cell? ⟨nb, 2, none⟩ = some (.slice a2 n2 c2) := by rw [hW1, hnb]; simp [go_sem]
  have o0 : W1.cell? ⟨ob, 0, none⟩ = some (.bool false) := by rw [hW1, hob']; simp [go_sem]
  have o1 : W1.cell? ⟨ob, 1, none⟩ = some (.slice none 0 0) := by rw [hW1, hob']; simp [go_sem]
  have o2 : W1.cell? ⟨ob, 2, none⟩ = some (.slice none 0 0) := by rw [hW1, hob']; simp [go_sem]
  have fz : ∀ k, W1.frozen? ⟨ob, k, none⟩ = false := by intro k; rw [hW1, hob']; simp [go_sem]
  have hob : ob < W1.heap.size := by rw [hW1, hob']; simp
  have hno : ob ≠ nb := by omega
  have hwo : w.heap.size ≤ ob := by omega
  rw [← hW1, ← hob', ← hnb]
  clear hW1 hnb hob'
  refine wp_region_T (fun _ => True) (fun w' : World => w'.cell? ⟨nb, 0, none⟩ = some (.bool g) ∧ w'.cell? ⟨nb, 1, none⟩ = some (.slice a1 n1 c1) ∧ w'.cell? ⟨nb, 2, none⟩ = some (.slice a2 n2 c2)) 99 7 (by rfl) (by kernel_rfl) ?_
  have hT0 : W1.drew.cell? ⟨nb, 0, none⟩ = some (.bool g) ∧ W1.drew.cell? ⟨nb, 1, none⟩ = some (.slice a1 n1 c1) ∧ W1.drew.cell? ⟨nb, 2, none⟩ = some (.slice a2 n2 c2) := ⟨z0, z1, z2⟩
  refine wpAnyT_take' (i := 0) (some 3) (v := ?_) rfl rfl (by kernel_rfl) (by kernel_rfl) (by kernel_rfl) (by decide) (fun _ _ _ h => h) (Or.inl ⟨by rfl, ?_⟩) (fun _ => trivial) hT0 ?_
  rotate_left
  · (intro w hSw; (try dsimp only at hSw); go_simp); try with_reducible rfl
  try simp only [Act.put, List.setIfInBounds_toArray, List.set_cons_zero, List.set_cons_succ]
  refine wpAnyT_take' (i := 1) (some 4) (v := ?_) rfl rfl (by kernel_rfl) (by kernel_rfl) (by kernel_rfl) (by decide) (fun _ _ _ h => h) (Or.inl ⟨by rfl, ?_⟩) (fun _ => trivial) hT0 ?_
  rotate_left
  · (intro w hSw; (try dsimp only at hSw); go_simp); try with_reducible rfl
  try simp only [Act.put, List.setIfInBounds_toArray, List.set_cons_zero, List.set_cons_succ]
  refine wpAnyT_take' (i := 2) (some 5) (v := ?_) rfl rfl (by kernel_rfl) (by kernel_rfl) (by kernel_rfl) (by decide) (fun _ _ _ h => h) (Or.inl ⟨by rfl, ?_⟩) (fun _ => trivial) hT0 ?_
  rotate_left
  · (intro w hSw; (try dsimp only at hSw); go_simp); try with_reducible rfl
  try simp only [Act.put, List.setIfInBounds_toArray, List.set_cons_zero, List.set_cons_succ]
  refine wpAnyT_take' (i := 3) (some 6) (v := ?_) rfl rfl (by kernel_rfl) (by kernel_rfl) (by kernel_rfl) (by decide) (fun _ _ _ h => h) (Or.inl ⟨by rfl, ?_⟩) (fun _ => trivial) hT0 ?_
  rotate_left
  · (intro w hSw; (try dsimp only at hSw); go_simp); try with_reducible rfl
  try simp only [Act.put, List.setIfInBounds_toArray, List.set_cons_zero, List.set_cons_succ]
  refine wpAnyT_one (i := 4) (by kernel_rfl) rfl (fun K hK => ?_)
  go_simp
  refine (rwhole_any _ _ _ _).mono ?_
  rintro e w1 ⟨_, rfl, E1, rfl⟩
  try simp only []
  have hT1 : w1.cell? ⟨nb, 0, none⟩ = some (.bool g) ∧ w1.cell? ⟨nb, 1, none⟩ = some (.slice a1 n1 c1) ∧ w1.cell? ⟨nb, 2, none⟩ = some (.slice a2 n2 c2) := ⟨E1.cell z0, E1.cell z1, E1.cell z2⟩
  have F1 := EW.drew.trans E1
  refine hK _ _ (fun _ => trivial) hT1 ?_
  clear hK K
  try simp only [Act.put, List.setIfInBounds_toArray, List.set_cons_zero, List.set_cons_succ]
  refine wpAnyT_one (i := 5) (by kernel_rfl) rfl (fun K hK => ?_)
  go_simp
  refine (HM.out _ F1).mono ?_
  rintro e w2 ⟨v, rfl, E2, a3, n3, c3, a4, n4, c4, rfl, hx, hy⟩
  try simp only []
  have hT2 : w2.cell? ⟨nb, 0, none⟩ = some (.bool g) ∧ w2.cell? ⟨nb, 1, none⟩ = some (.slice a1 n1 c1) ∧ w2.cell? ⟨nb, 2, none⟩ = some (.slice a2 n2 c2) := ⟨E2.cell (E1.cell z0), E2.cell (E1.cell z1), E2.cell (E1.cell z2)⟩
  have F2 := F1.trans E2
  have G2 : Ext W1 w2 := ((Ext.refl W1).drew.trans E1).trans E2
  have k0 := G2.cell o0
  have k1 := G2.cell o1
  have k2 := G2.cell o2
  have f0 : w2.frozen? ⟨ob, 0, none⟩ = false := (Below.frozen (p := ⟨ob, 0, none⟩) G2 hob).trans (fz 0)
  have f1 : w2.frozen? ⟨ob, 1, none⟩ = false := (Below.frozen (p := ⟨ob, 1, none⟩) G2 hob).trans (fz 1)
  have f2 : w2.frozen? ⟨ob, 2, none⟩ = false := (Below.frozen (p := ⟨ob, 2, none⟩) G2 hob).trans (fz 2)
  refine hK _ _ (fun _ => trivial) hT2 ?_
  clear hK K
  try simp only [Act.put, List.setIfInBounds_toArray, List.set_cons_zero, List.set_cons_succ]
  refine wpAnyT_one (i := 6) (by kernel_rfl) rfl (fun K hK => ?_)
  go_simp
  refine hK _ _ (fun _ => trivial) ?_ ?_
  · refine ⟨?_, ?_, ?_⟩ <;> simp [go_sem, hT2]
  clear hK K
  try simp only [Act.put, List.setIfInBounds_toArray, List.set_cons_zero, List.set_cons_succ]
  refine wpAnyT_done (by kernel_rfl) ?_ _
  try simp only [Act.put, List.setIfInBounds_toArray, List.set_cons_zero, List.set_cons_succ]
  obtain ⟨b, hb⟩ : ∃ b, b = sg g (n / Nat.gcd n d) := ⟨_, rfl⟩
  rw [← hb]
  have Hb := Lib.hid hb
  clear hb
  go_wp2
  exact bodyPost_ret (v := .agg #[.bool b, .slice a3 n3 c3, .slice a4 n4 c4]) (by simp [results, Tryz.results33, go_sem, k0, k1, k2]) rfl (Post.mk (Below.setCell (p := ⟨ob, 2, none⟩) (Below.setCell (p := ⟨ob, 1, none⟩) (Below.setCell (p := ⟨ob, 0, none⟩) F2 hwo _) hwo _) hwo _) ⟨a3, n3, c3, a4, n4, c4, by rw [← Hb.out], hx.keep (by repeat (first | with_reducible exact Keeps.refl _ | with_reducible assumption | (with_reducible refine Keeps.alloc ?_ _) | (with_reducible refine Keeps.drew ?_) | (with_reducible refine Keeps.drewN ?_ _) | (with_reducible refine Keeps.set ?_ (by simp [go_sem, isU, *]) _) | (with_reducible refine Keeps.trans ?_ (Ext.keeps (by with_reducible assumption))) | (with_reducible refine Keeps.trans ?_ (by with_reducible assumption)))), hy.keep (by repeat (first | with_reducible exact Keeps.refl _ | with_reducible assumption | (with_reducible refine Keeps.alloc ?_ _) | (with_reducible refine Keeps.drew ?_) | (with_reducible refine Keeps.drewN ?_ _) | (with_reducible refine Keeps.set ?_ (by simp [go_sem, isU, *]) _) | (with_reducible refine Keeps.trans ?_ (Ext.keeps (by with_reducible assumption))) | (with_reducible refine Keeps.trans ?_ (by with_reducible assumption))))⟩)
set_option maxRecDepth 100000 in
set_option maxHeartbeats 2000000 in
theorem rzsame_any (g g' : Bool) (a1 a2 : Option Addr) (n1 c1 n2 c2 m : Nat) (xs : List Nat) (w : World) (h1 : Nums w a1 n1 c1 xs) (h2 : Nums w a2 n2 c2 (limbs m)) (hg : g' = true → m ≠ 0) :
    Calls Tryz.prog 77 #[.agg #[.bool g, .slice a1 n1 c1], .agg #[.bool g', .slice a2 n2 c2]] w (Post w fun v _ => v = .bool (decide (g = g') && sameL xs (limbs m))) := by
  have HS := Lib.hid (fun W (e : Ext w W) => rsame_any a1 a2 n1 c1 n2 c2 m xs W (h1.ext e) (h2.ext e))
  obtain ⟨q, hq⟩ : ∃ q, q = sameL xs (limbs m) := ⟨_, rfl⟩
  rw [← hq] at HS ⊢
  have hlen : q = true → g' = true → n1 ≠ 0 := by
    intro e e' e0
    rw [hq] at e
    simp only [sameL, decide_eq_true_eq] at e
    have := h1.len
    rw [e0] at this
    have := List.eq_nil_of_length_eq_zero this
    rw [this] at e
    exact hg e' (limbs_eq_nil.1 e.symm)
  have f1 := h1.few
  clear h1 h2 hq hg
  by_cases e : g = g'
  · subst e
    have e0 : (decide (g = g) && q) = q := by simp
    rw [e0]
    clear e0
    have hgg : (g == g) = true := by simp
    go_enter Tryz.func77, Tryz.ntmps77
    go_wp2_with fail
    refine (HS.out _ (by repeat (first | with_reducible exact Ext.refl _ | with_reducible assumption | (with_reducible refine Ext.alloc ?_ _) | (with_reducible refine Ext.drew ?_) | (with_reducible refine Ext.drewN ?_ _) | (with_reducible refine Ext.set ?_ (by first | (simp; done) | (simp; omega)) _) | (with_reducible refine Ext.trans ?_ (by with_reducible assumption))))).mono ?_
    rintro e w1 ⟨_, rfl, E1, rfl⟩
    obtain ⟨hc, hf⟩ := E1.look
    have hz := E1.size
    simp at hz
    clear HS
    cases q
    · clear hlen
      go_wp2
      go_ret
      exact Post.mk (by repeat (first | with_reducible exact Ext.refl _ | with_reducible assumption | (with_reducible refine Ext.alloc ?_ _) | (with_reducible refine Ext.drew ?_) | (with_reducible refine Ext.drewN ?_ _) | (with_reducible refine Ext.set ?_ (by first | (simp; done) | (simp; omega)) _) | (with_reducible refine Ext.trans ?_ (by with_reducible assumption)))) rfl
    · cases g
      · clear hlen
        go_wp2
        go_ret
        exact Post.mk (by repeat (first | with_reducible exact Ext.refl _ | with_reducible assumption | (with_reducible refine Ext.alloc ?_ _) | (with_reducible refine Ext.drew ?_) | (with_reducible refine Ext.drewN ?_ _) | (with_reducible refine Ext.set ?_ (by first | (simp; done) | (simp; omega)) _) | (with_reducible refine Ext.trans ?_ (by with_reducible assumption)))) rfl
      · have h0 := hlen rfl rfl
        have h0n : 0 < n1 := by omega
        have h0' : (0 : Int) < n1 := by omega
        clear hlen h0
        go_wp2
        go_ret
        exact Post.mk (by repeat (first | with_reducible exact Ext.refl _ | with_reducible assumption | (with_reducible refine Ext.alloc ?_ _) | (with_reducible refine Ext.drew ?_) | (with_reducible refine Ext.drewN ?_ _) | (with_reducible refine Ext.set ?_ (by first | (simp; done) | (simp; omega)) _) | (with_reducible refine Ext.trans ?_ (by with_reducible assumption)))) (by first | rfl | exact congrArg Value.bool (decide_eq_true h0n))
  · have e0 : (decide (g = g') && q) = false := by simp [e]
    rw [e0]
    have hgg : (g == g') = false := by simp [e]
    clear e0 HS hlen e
    go_enter Tryz.func77, Tryz.ntmps77
    go_wp2
    go_ret
    exact Post.mk (by repeat (first | with_reducible exact Ext.refl _ | with_reducible assumption | (with_reducible refine Ext.alloc ?_ _) | (with_reducible refine Ext.drew ?_) | (with_reducible refine Ext.drewN ?_ _) | (with_reducible refine Ext.set ?_ (by first | (simp; done) | (simp; omega)) _) | (with_reducible refine Ext.trans ?_ (by with_reducible assumption)))) rfl
set_option maxRecDepth 100000 in
set_option maxHeartbeats 2000000 in
theorem rfsame_any (g g' : Bool) (a1 a2 a3 a4 : Option Addr) (n1 c1 n2 c2 n3 c3 n4 c4 n d : Nat) (xs ys : List Nat) (w : World) (h1 : Nums w a1 n1 c1 xs) (h2 : Nums w a2 n2 c2 ys) (h3 : Nums w a3 n3 c3 (limbs n)) (h4 : Nums w a4 n4 c4 (limbs d)) (hg : g' = true → n ≠ 0) :
    Calls Tryz.prog 60 #[.agg #[.bool g, .slice a1 n1 c1, .slice a2 n2 c2], .agg #[.bool g', .slice a3 n3 c3, .slice a4 n4 c4]] w (Post w fun v _ => v = .bool (decide (g = g') && (sameL xs (limbs n) && sameL ys (limbs d)))) := by
  have HS := Lib.hid (fun W (e : Ext w W) => rzsame_any g g' a1 a3 n1 c1 n3 c3 n xs W (h1.ext e) (h3.ext e) hg)
  have HT := Lib.hid (fun W (e : Ext w W) => rsame_any a2 a4 n2 c2 n4 c4 d ys W (h2.ext e) (h4.ext e))
  obtain ⟨q, hq⟩ : ∃ q, q = (decide (g = g') && sameL xs (limbs n)) := ⟨_, rfl⟩
  obtain ⟨r, hr⟩ : ∃ r, r = sameL ys (limbs d) := ⟨_, rfl⟩
  have e0 : (decide (g = g') && (sameL xs (limbs n) && sameL ys (limbs d))) = (q && r) := by rw [hq, hr, Bool.and_assoc]
  rw [e0]
  rw [← hq] at HS
  rw [← hr] at HT
  clear e0 hq hr h1 h2 h3 h4 hg
  go_enter Tryz.func60, Tryz.ntmps60
  go_wp2_with fail
  refine (HS.out _ (by repeat (first | with_reducible exact Ext.refl _ | with_reducible assumption | (with_reducible refine Ext.alloc ?_ _) | (with_reducible refine Ext.drew ?_) | (with_reducible refine Ext.drewN ?_ _) | (with_reducible refine Ext.set ?_ (by first | (simp; done) | (simp; omega)) _) | (with_reducible refine Ext.trans ?_ (by with_reducible assumption))))).mono ?_
  rintro e w1 ⟨_, rfl, E1, rfl⟩
  obtain ⟨hc, hf⟩ := E1.look
  have hz := E1.size
  simp at hz
  cases q
  · go_wp2
    go_ret
    exact Post.mk (by repeat (first | with_reducible exact Ext.refl _ | with_reducible assumption | (with_reducible refine Ext.alloc ?_ _) | (with_reducible refine Ext.drew ?_) | (with_reducible refine Ext.drewN ?_ _) | (with_reducible refine Ext.set ?_ (by first | (simp; done) | (simp; omega)) _) | (with_reducible refine Ext.trans ?_ (by with_reducible assumption)))) rfl
  · go_wp2_with fail
    refine (HT.out _ (by repeat (first | with_reducible exact Ext.refl _ | with_reducible assumption | (with_reducible refine Ext.alloc ?_ _) | (with_reducible refine Ext.drew ?_) | (with_reducible refine Ext.drewN ?_ _) | (with_reducible refine Ext.set ?_ (by first | (simp; done) | (simp; omega)) _) | (with_reducible refine Ext.trans ?_ (by with_reducible assumption))))).mono ?_
    rintro e w2 ⟨_, rfl, E2, rfl⟩
    cases r
    · go_wp2
      go_ret
      exact Post.mk (by repeat (first | with_reducible exact Ext.refl _ | with_reducible assumption | (with_reducible refine Ext.alloc ?_ _) | (with_reducible refine Ext.drew ?_) | (with_reducible refine Ext.drewN ?_ _) | (with_reducible refine Ext.set ?_ (by first | (simp; done) | (simp; omega)) _) | (with_reducible refine Ext.trans ?_ (by with_reducible assumption)))) rfl
    · go_wp2
      go_ret
      exact Post.mk (by repeat (first | with_reducible exact Ext.refl _ | with_reducible assumption | (with_reducible refine Ext.alloc ?_ _) | (with_reducible refine Ext.drew ?_) | (with_reducible refine Ext.drewN ?_ _) | (with_reducible refine Ext.set ?_ (by first | (simp; done) | (simp; omega)) _) | (with_reducible refine Ext.trans ?_ (by with_reducible assumption)))) rfl
end Go.Proofs.YtbncdghbnnefdaaGreat
