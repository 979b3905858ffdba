/- Grow, Concat, Shl. -/
import Derived.Lib.AppendZeros
import Derived.Deep.RegionWith
import Derived.Test.YtnecpkoibknacaaW8
namespace Go.Proofs.Ytnecpkoibknacaa
open Go.RowKit

/-- A number of limbs that will be appended to a slice of the call's own that is empty so far. -/
theorem grow_nil (n : Nat) (hn : n ≤ 65536) (w : World) :
    Calls Try.prog 68 #[.slice none 0 0, .int .i64 n] w (Post w fun v w' => w'.ownsRow w.heap.size 48 1 v 0 []) := by
  obtain ⟨i0, hi, hz0, hz1, hz2⟩ := info_parts info_u64
  by_cases h0 : n = 0
  · subst h0
    go_enter Try.func68, Try.ntmps68
    go_wp2
    go_ret
    exact Post.mk (Ext.refl _) (World.ownsRow_nil _ _ _ _)
  · have hr := fun w => Lib.run_append_nil_zeros (P := Try.prog) w 23 3 23 48 i0 (.int .u64 0) .i64 .i64 Try.underlying23 Try.underlying3 hi hz0 n (by omega) (by omega) (by omega) (by rw [hz2]; omega)
    have hcap := grownCap_le_maxLen w n 0 48 (by unfold maxLen; omega)
    have hge := grownCap_ge w n 0 48
    generalize hC : grownCap w n 0 48 = C at *
    have HR : Hid ((Builtin.append_ #[23, 3] 23 #[.slice none 0 0, .int .i64 n]).run Try.prog w = .ok (.slice (some ⟨w.heap.size, 0, none⟩) n C) (w.drew.alloc (.cells (Builtin.zeroCells (Value.cells (.int .u64 0)) n ++ Builtin.zeroCells (Value.cells (.int .u64 0)) (C - n)) 48))) := by
      have := hr w
      rw [hC] at this
      exact this
    clear hr hC
    go_enter Try.func68, Try.ntmps68
    go_wp2_with (at_builtin; refine Lib.wpList_append_run _ rfl _ _ 23 3 rfl (.slice none 0 0) (.int .i64 n) rfl rfl _ _ HR.out ?_)
    go_ret
    refine Post.mk ((Ext.of_alloc w _).drew) ⟨rfl, .inr ⟨w.heap.size, C, _, rfl, Nat.le_refl _, heap_alloc_new w _, Nat.zero_le _, hcap, ?_, by simp⟩⟩
    simp [Builtin.zeroCells]; omega

/-- The slice's cells, one by one. -/
theorem NumsL.at {w : World} {a : Option Addr} {n : Nat} {xss : List (List Nat)} (h : NumsL w a n xss) {j : Nat} (hj : j < xss.length) :
    ∃ b off ai ni ci, a = some ⟨b, off, none⟩ ∧ w.cell? ⟨b, off + j, none⟩ = some (.slice ai ni ci) ∧ Nums w ai ni ci xss[j] := by
  obtain ⟨hl, _, h0 | ⟨b, off, ha, hc⟩⟩ := h
  · omega
  · obtain ⟨ai, ni, ci, h1, h2⟩ := hc j xss[j] (List.getElem?_eq_getElem hj)
    exact ⟨b, off, ai, ni, ci, ha, h1, h2⟩
theorem flatten_take (xss : List (List Nat)) (j : Nat) (hj : j < xss.length) : (xss.take (j + 1)).flatten = (xss.take j).flatten ++ xss[j] := by
  rw [List.take_add_one, List.getElem?_eq_getElem hj, List.flatten_append]
  congr 1
  simp
theorem flatten_take_le (xss : List (List Nat)) (j : Nat) : (xss.take j).flatten.length ≤ xss.flatten.length := by
  conv => rhs; rw [← List.take_append_drop j xss, List.flatten_append, List.length_append]
  omega

set_option maxRecDepth 100000 in
set_option maxHeartbeats 1000000 in
/-- Slices of limbs put together. -/
theorem concat_any (a : Option Addr) (n c : Nat) (xss : List (List Nat)) (w : World) (h : NumsL w a n xss) (hl : xss.flatten.length ≤ 65536) :
    Calls Try.prog 55 #[.slice a n c] w (Post w fun v w' => ∃ a' n' c', v = .slice a' n' c' ∧ Nums w' a' n' c' xss.flatten) := by
  obtain ⟨i0, hi, hz0, hz1, hz2⟩ := info_parts info_u64
  obtain rfl := h.1
  have hfew := h.2.1
  go_enter Try.func55, Try.ntmps55
  go_wp2
  go_loop [3, 11] (fun s i => ∃ j : Nat, j ≤ xss.length ∧ i = .int .i64 j ∧ s = .int .i64 ((xss.take j).flatten.length : Nat)) (fun _ i => xss.length - (intOf i).toNat)
  case atStart => exact ⟨0, Nat.zero_le _, rfl, rfl⟩
  case round =>
    obtain ⟨j, hj, rfl, rfl⟩ := hrel
    have hle := flatten_take_le xss j
    by_cases hlt : j < xss.length
    · obtain ⟨b, off, ai, ni, ci, rfl, hcell, hn⟩ := h.at hlt
      have hle1 := flatten_take_le xss (j + 1)
      have hft := congrArg List.length (flatten_take xss j hlt)
      rw [List.length_append, hn.len] at hft
      generalize hL : (xss.take j).flatten.length = L at *
      have HL := Lib.hid hL
      have HF := Lib.hid hft
      clear hL hft
      have hb : L + ni ≤ 65536 := by rw [← HF.out]; omega
      go_wp2
      go_round
      case rel => exact ⟨j + 1, by omega, by go_num, by rw [HF.out]; go_num⟩
      case measure => simp [intOf]; omega
    · have : j = xss.length := by omega
      subst this
      rw [List.take_length] at hle ⊢
      generalize hN : xss.flatten.length = N at *
      have HN := Lib.hid hN
      clear hN
      go_wp2_with (go_at_call 68; refine (grow_nil N hl _).mono ?_; rintro e w1 ⟨v, rfl, hext1, hown⟩)
      go_loopw [6, 27] (fun v i wr => ∃ j : Nat, j ≤ xss.length ∧ i = .int .i64 j ∧ Ext w wr ∧ wr.ownsRow w.heap.size 48 1 v (xss.take j).flatten.length (lims (xss.take j).flatten)) (fun _ i _ => xss.length - (intOf i).toNat)
      case atStart => exact ⟨0, Nat.zero_le _, rfl, hext1, by simpa [lims] using hown⟩
      case round =>
        obtain ⟨j, hj, rfl, hext2, hown2⟩ := hrel
        by_cases hlt : j < xss.length
        · obtain ⟨b, off, ai, ni, ci, rfl, hcell, hn⟩ := h.at hlt
          have hle1 := flatten_take_le xss (j + 1)
          have hft := flatten_take xss j hlt
          have hcell' := hext2.cell hcell
          have hn' := (hn.ext hext2).cells
          have hnl := hn.len
          have hlen : (xss.take j).flatten.length + ni ≤ 65536 := by rw [hft, List.length_append] at hle1; have := HN.out; omega
          have HF := Lib.hid hft
          clear hft hcell
          have HNL := Lib.hid hnl
          clear hnl
          go_wp2_with (at_builtin; refine wpList_app w hext2 rfl _ _ 23 rfl 48 i0 (.int .u64 0) 1 8 Try.underlying23 hi hz0 hz1 hz2 rfl (by decide) _ _ _ rfl hown2 ai ni ci (xss[j].map fun (x : Nat) => Value.int .u64 (x : Int)) rfl (by simp [HNL.out]) hn' (oneCell_u64 _) (by omega) (by omega) ?_; intro v' w2 hown3 hext3 _)
          go_roundw
          case rel =>
            refine ⟨j + 1, by omega, by go_num, hext3, ?_⟩
            rw [HF.out, List.length_append, HNL.out]
            have e : lims ((xss.take j).flatten ++ xss[j]) = lims (xss.take j).flatten ++ (xss[j].map fun (x : Nat) => Value.int .u64 (x : Int)) := by simp [lims]
            rw [e]; exact hown3
          case measure => simp [intOf]; omega
        · have : j = xss.length := by omega
          subst this
          rw [List.take_length] at hown2
          go_wp2
          go_ret
          have hx : ∀ x ∈ xss.flatten, x < B64 := by
            intro x hx
            obtain ⟨l, hl1, hx⟩ := List.mem_flatten.1 hx
            obtain ⟨i, hi, rfl⟩ := List.getElem_of_mem hl1
            obtain ⟨_, _, _, _, _, _, _, hn⟩ := h.at hi
            exact hn.lt x hx
          obtain ⟨a', c', rfl, hn⟩ := Nums.of_own hown2 (by rw [HN.out]; exact hl) hx
          exact Post.mk hext2 ⟨a', _, c', rfl, hn⟩
end Go.Proofs.Ytnecpkoibknacaa
