/- slices.Reverse at bytes. -/
import Derived.Laws.OwnMore
import Derived.Test.YtnecpkoibknacaaW22
namespace Go.Proofs.Ytnecpkoibknacaa
open Go.RowKit

/-- Bytes as cells. -/
def bys (l : List Nat) : List Value := l.map fun (x : Nat) => Value.int .u8 (x : Int)
theorem length_bys (l : List Nat) : (bys l).length = l.length := by simp [bys]
theorem bys_get {l : List Nat} {j : Nat} (hj : j < l.length) : (bys l)[j]? = some (.int .u8 ((l[j]?.getD 0 : Nat) : Int)) := by
  simp [bys, List.getElem?_eq_getElem hj]
theorem bys_set (l : List Nat) (j x : Nat) : (bys l).set j (.int .u8 (x : Int)) = bys (l.set j x) := by simp [bys, List.map_set]

/-- i pairs are swapped. -/
def RevOk (xs : List Nat) (i : Nat) (L : List Nat) : Prop := L.length = xs.length ∧ ∀ t, t < xs.length → L[t]?.getD 0 = if t < i ∨ xs.length - i ≤ t then xs[xs.length - 1 - t]?.getD 0 else xs[t]?.getD 0
theorem RevOk.start (xs : List Nat) : RevOk xs 0 xs := ⟨rfl, fun t ht => by rw [if_neg (by omega)]⟩
theorem RevOk.step {xs : List Nat} {i : Nat} {L : List Nat} (h : RevOk xs i L) (hi : i < xs.length - 1 - i) :
    RevOk xs (i + 1) ((L.set i (L[xs.length - 1 - i]?.getD 0)).set (xs.length - 1 - i) (L[i]?.getD 0)) := by
  obtain ⟨hl, h⟩ := h
  refine ⟨by simp [hl], fun t ht => ?_⟩
  rw [getD_set, getD_set, List.length_set, hl]
  by_cases h1 : xs.length - 1 - i = t
  · rw [if_pos ⟨h1, by omega⟩, if_pos (by omega), h i (by omega), if_neg (by omega)]
    congr 2; omega
  · rw [if_neg (by omega)]
    by_cases h2 : i = t
    · subst h2
      rw [if_pos ⟨rfl, by omega⟩, if_pos (by omega), h _ (by omega), if_neg (by omega)]
    · rw [if_neg (by omega), h t ht]
      by_cases h3 : t < i ∨ xs.length - i ≤ t
      · rw [if_pos h3, if_pos (by omega)]
      · rw [if_neg h3, if_neg (by omega)]
theorem RevOk.done {xs : List Nat} {i : Nat} {L : List Nat} (h : RevOk xs i L) (hi : ¬ i < xs.length - 1 - i) : L = xs.reverse := by
  obtain ⟨hl, h⟩ := h
  apply List.ext_getElem?
  intro t
  by_cases ht : t < xs.length
  · have h1 := h t ht
    rw [List.getElem?_eq_getElem (by omega), List.getElem?_eq_getElem (by simpa using ht)]
    rw [List.getElem?_eq_getElem (by omega : t < L.length)] at h1
    rw [List.getElem_reverse]
    have e : ∀ a, a < xs.length → xs[a]?.getD 0 = xs[a]! := fun a ha => by simp [ha]
    by_cases h2 : t < i ∨ xs.length - i ≤ t
    · rw [if_pos h2, List.getElem?_eq_getElem (by omega : xs.length - 1 - t < xs.length)] at h1
      exact congrArg some h1
    · rw [if_neg h2, List.getElem?_eq_getElem ht] at h1
      have : t = xs.length - 1 - t := by omega
      simp only [Option.getD_some] at h1
      rw [h1]
      congr 1
      congr 1
  · rw [List.getElem?_eq_none (by omega), List.getElem?_eq_none (by simp; omega)]

theorem Only.drew {b : Nat} {w w' : World} (h : Only b w w') : Only b w w'.drew := ⟨fun a ha hb => (h.1 a ha hb).drew, h.2⟩

set_option maxRecDepth 100000 in
set_option maxHeartbeats 1000000 in
theorem reverse_any (g cap base : Nat) (xs : List Nat) (hf : xs.length ≤ 1000000) (w : World) (h : w.ownsRow base 5 1 (.slice (some ⟨g, 0, none⟩) xs.length cap) xs.length (bys xs)) :
    Calls Try.prog 56 #[.slice (some ⟨g, 0, none⟩) xs.length cap] w fun e w' => e = .returned (.tuple #[]) ∧ Only g w w' ∧ w'.ownsRow base 5 1 (.slice (some ⟨g, 0, none⟩) xs.length cap) xs.length (bys xs.reverse) := by
  go_enter Try.func56, Try.ntmps56
  go_wp2
  go_loopw [2, 3] (fun i j wr => ∃ (k : Nat) (L : List Nat), k ≤ xs.length ∧ i = .int .i64 k ∧ j = .int .i64 ((xs.length : Int) - 1 - k) ∧ Only g w wr ∧ wr.ownsRow base 5 1 (.slice (some ⟨g, 0, none⟩) xs.length cap) xs.length (bys L) ∧ Hid (RevOk xs k L))
    (fun i _ _ => xs.length - (intOf i).toNat)
  case atStart => exact ⟨0, xs, Nat.zero_le _, rfl, by simp, Only.refl _ _, h, Lib.hid (RevOk.start xs)⟩
  case round =>
    obtain ⟨k, L, hk, rfl, rfl, ho, hr, HL⟩ := hrel
    by_cases hlt : k < xs.length - 1 - k
    · obtain ⟨j, hj⟩ : ∃ j, xs.length - 1 - k = j := ⟨_, rfl⟩
      have hL := HL.out.1
      have ej : (xs.length : Int) - 1 - k = j := by omega
      have c1 := hr.cellAt k (by omega)
      rw [bys_get (by omega)] at c1
      have c2 := hr.cellAt j (by omega)
      rw [bys_get (by omega)] at c2
      have f1 := hr.frozenAt k
      have f2 := hr.frozenAt j
      have hst := HL.out.step hlt
      rw [hj] at hst
      generalize L[k]?.getD 0 = x at *
      generalize L[j]?.getD 0 = y at *
      have HST := Lib.hid hst
      have hjl : j < xs.length := by omega
      have hkj : k < j := by omega
      have HJ := Lib.hid hj
      clear hst hj h
      rw [ej]
      go_wp2
      go_region_with (fail)
      all_goals
        go_wp2
        go_roundw
        case rel =>
          have h1 := hr.stored k (.int .u8 (y : Int))
          have h2 := h1.1.stored j (.int .u8 (x : Int))
          rw [bys_set, bys_set] at h2
          exact ⟨k + 1, _, by omega, by go_num, by congr 1; omega, (ho.trans ((Only.set wr g k _).trans (Only.set _ g j _))).drew, h2.1, HST⟩
        case measure => simp only [intOf]; omega
    · have hL := HL.out.done hlt
      subst hL
      go_wp2
      go_end0
      exact ⟨rfl, ho, hr⟩
end Go.Proofs.Ytnecpkoibknacaa
