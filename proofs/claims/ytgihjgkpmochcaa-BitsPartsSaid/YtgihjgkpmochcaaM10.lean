/- Parts of the proof: contracts of the functions that the law reaches, and the arithmetic that they rest on; no condition beyond those that each theorem states. -/
import Derived.OrdersHeld
import Derived.Deep.RegionHeld
import Derived.Test.YtgihjgkpmochcaaM1

namespace Go.Proofs.Ytgihjgkpmochcaa

section
variable {P : Program} {ops : Array Oper} {Q : Exit → Act → World → Prop} {md : Region.Mode} {S T : World → Prop} {k : Nat}

/-- Whatever order is picked from here on; T holds behind each operation, and S as long as operation k has not come up. -/
def wpAnyT (P : Program) (md : Region.Mode) (ops : Array Oper) (Q : Exit → Act → World → Prop) (S T : World → Prop) (k : Nat) : Nat → Array Bool → Act → World → Prop
  | 0, listed, a, w => Region.ready md ops listed = [] ∧ Q .normal a w
  | fuel + 1, listed, a, w =>
    (Region.ready md ops listed = [] → Q .normal a w) ∧
    ∀ i ∈ Region.ready md ops listed, wpOp P ops Q i (fun a' w' => (((listed.setIfInBounds i true).getD k true = false → S w') ∧ T w') ∧ wpAnyT P md ops Q S T k fuel (listed.setIfInBounds i true) a' w') a w
theorem wpAny_of_T : ∀ (fuel : Nat) (listed : Array Bool) (a : Act) (w : World), wpAnyT P md ops Q S T k fuel listed a w → wpAny P md ops Q fuel listed a w
  | 0, _, _, _, h => h
  | fuel + 1, _, _, _, h => ⟨h.1, fun i hi => wpOp_mono (fun a' w' h' => wpAny_of_T fuel _ a' w' h'.2) (h.2 i hi)⟩

/-- Operation i may be taken first: it yields in every world that meets U, and U holds as long as it has not come up. -/
theorem wpAnyT_first {i : Nat} {oi : Oper} {v : Value} {U : World → Prop} {I : Array Bool → Prop} (hi : ops[i]? = some oi)
    (hI : ∀ listed j, I listed → i ∈ Region.ready md ops listed → j ∈ Region.ready md ops listed → j ≠ i → I (listed.setIfInBounds j true))
    (hU : ∀ listed j w, I listed → i ∈ Region.ready md ops listed → j ∈ Region.ready md ops listed → j ≠ i → (((listed.setIfInBounds i true).setIfInBounds j true).getD k true = false → S w) → T w → U w)
    (hS' : ∀ listed j w, I listed → i ∈ Region.ready md ops listed → j ∈ Region.ready md ops listed → j ≠ i → (((listed.setIfInBounds i true).setIfInBounds j true).getD k true = false → S w) → (listed.setIfInBounds j true).getD k true = false → S w)
    (hsel : ∀ (j : Nat) (o : Oper) cs b, ops[j]? = some o → o.op ≠ .select cs b) (hQ : ∀ c a w, Q (.panic c) (a.put oi.dst v) w → Q (.panic c) a w) :
    ∀ (fuel : Nat) (listed : Array Bool) (a : Act) (w : World), I listed →
      (∀ j oj, ops[j]? = some oj → j ≠ i → listed.getD j true = false → (∀ e ∈ oj.after, Region.binds md e = true → e.on ≠ i) → oi.apart ops oj = true) →
      i ∈ Region.ready md ops listed → YieldsIf P ops U oi v a → U w → ((listed.setIfInBounds i true).getD k true = false → S w) → T w →
      wpAnyT P md ops Q S T k fuel (listed.setIfInBounds i true) (a.put oi.dst v) w → wpAnyT P md ops Q S T k (fuel + 1) listed a w := by
  intro fuel
  induction fuel with
  | zero =>
    intro listed a w hIl _ hr hy hu hS hT H
    refine ⟨fun h => (by rw [h] at hr; cases hr), fun j hj => ?_⟩
    by_cases hji : j = i
    · subst hji; exact hy.wpOp hi hu ⟨⟨hS, hT⟩, H⟩
    · have := ready_mono hj hji
      rw [H.1] at this
      cases this
  | succ fuel ih =>
    intro listed a w hIl hfree hr hy hu hS hT H
    refine ⟨fun h => (by rw [h] at hr; cases hr), fun j hj => ?_⟩
    by_cases hji : j = i
    · subst hji; exact hy.wpOp hi hu ⟨⟨hS, hT⟩, H⟩
    · have h1 := H.2 j (ready_mono hj hji)
      obtain ⟨hjun, oj, hoj, hall⟩ := mem_ready.1 hj
      have hnot : ∀ e ∈ oj.after, Region.binds md e = true → e.on ≠ i := fun e he hb heq => by
        have h1 := hall e he hb
        have h0 := (mem_ready.1 hr).1
        rw [heq] at h1
        rcases Nat.lt_or_ge i listed.size with h' | h'
        · simp [h'] at h0 h1; rw [h0] at h1; cases h1
        · simp [Array.getElem?_eq_none h'] at h1
      have h2 := wpOp_putIf hoj (hfree j oj hoj hji hjun hnot) (fun cs b => hsel i oi cs b hi) (fun cs b => hsel j oj cs b hoj) hQ hy h1
      have hfree' : ∀ m om, ops[m]? = some om → m ≠ i → (listed.setIfInBounds j true).getD m true = false →
          (∀ e ∈ om.after, Region.binds md e = true → e.on ≠ i) → oi.apart ops om = true := fun m om hm hmi hun hno => by
        refine hfree m om hm hmi ?_ hno
        by_cases hjm : j = m
        · subst hjm; exact hjun
        · rw [getD_set_ne true hjm] at hun; exact hun
      refine wpOp_mono (fun a' w' h3 => ?_) h2
      obtain ⟨h4, ⟨h5, h6⟩, h7⟩ := h3
      have h8 := hS' listed j w' hIl hr hj hji h5
      refine ⟨⟨h8, h6⟩, ih (listed.setIfInBounds j true) a' w' (hI listed j hIl hr hj hji) hfree' (ready_mono hr (Ne.symm hji)) h4 (hU listed j w' hIl hr hj hji h5 h6) ?_ h6 ?_⟩
      · rw [Array.setIfInBounds_comm _ _ hji]; exact h5
      · rw [Array.setIfInBounds_comm _ _ hji]; exact h7

theorem ready_ne {i j k : Nat} {ok : Oper} {listed : Array Bool} (hk : ops[k]? = some ok) (hw : ∃ e ∈ ok.after, Region.binds md e = true ∧ e.on = i) (hr : i ∈ Region.ready md ops listed) (hj : j ∈ Region.ready md ops listed) : j ≠ k := by
  intro e
  subst e
  obtain ⟨e, he, hb, heq⟩ := hw
  obtain ⟨_, o, ho, hall⟩ := mem_ready.1 hj
  rw [hk] at ho
  cases ho
  have h1 := hall e he hb
  have h0 := (mem_ready.1 hr).1
  rw [heq] at h1
  rcases Nat.lt_or_ge i listed.size with h' | h'
  · simp [h'] at h0 h1; rw [h0] at h1; cases h1
  · simp [Array.getElem?_eq_none h'] at h1

/-- Does operation k wait for operation i? -/
def waits (md : Region.Mode) (ops : Array Oper) (k i : Nat) : Bool := match ops[k]? with
  | some ok => ok.after.any fun e => Region.binds md e && e.on == i
  | none => false
/-- Taken first: what reads under S and T, if operation k waits for it. -/
theorem wpAnyT_take {i : Nat} (d : Option Tmp) {oi : Oper} {v : Value} {fuel : Nat} {listed : Array Bool} {a : Act} {w : World} (hi : ops[i]? = some oi) (hd : oi.dst = d)
    (hs : Region.noSelect ops = true) (hf : Region.free md ops listed i = true) (hr : (Region.ready md ops listed).contains i = true) (hw : waits md ops k i = true) (hku : listed.getD k true = false)
    (hQ : ∀ c a w, Q (.panic c) (a.put d v) w → Q (.panic c) a w) (hy : YieldsIf P ops (fun w => S w ∧ T w) oi v a) (hS : S w) (hT : T w)
    (h : wpAnyT P md ops Q S T k fuel (listed.setIfInBounds i true) (a.put d v) w) : wpAnyT P md ops Q S T k (fuel + 1) listed a w := by
  subst hd
  unfold waits at hw
  cases hk : ops[k]? with
  | none => rw [hk] at hw; cases hw
  | some ok =>
    rw [hk] at hw
    simp only [Array.any_eq_true', Bool.and_eq_true, beq_iff_eq] at hw
    have key : ∀ (l : Array Bool) (j : Nat), l.getD k true = false → i ∈ Region.ready md ops l → j ∈ Region.ready md ops l → ((l.setIfInBounds i true).setIfInBounds j true).getD k true = false ∧ (l.setIfInBounds j true).getD k true = false := fun l j h0 h1 h2 => by
      have e1 := ready_ne hk hw h1 h2
      have e2 := ready_ne hk hw h1 h1
      exact ⟨by rw [getD_set_ne true e1, getD_set_ne true e2]; exact h0, by rw [getD_set_ne true e1]; exact h0⟩
    exact wpAnyT_first (I := fun l => l.getD k true = false) hi (fun l j h0 h1 h2 _ => (key l j h0 h1 h2).2) (fun l j w h0 h1 h2 _ h3 h4 => ⟨h3 (key l j h0 h1 h2).1, h4⟩) (fun l j w h0 h1 h2 _ h3 _ => h3 (key l j h0 h1 h2).1)
      (Region.noSelect_spec hs) hQ fuel listed a w hku (Region.free_spec hi hf) (by simpa using hr) hy ⟨hS, hT⟩ (fun _ => hS) hT h
/-- Taken first: what reads under T alone. -/
theorem wpAnyT_take' {i : Nat} (d : Option Tmp) {oi : Oper} {v : Value} {fuel : Nat} {listed : Array Bool} {a : Act} {w : World} (hi : ops[i]? = some oi) (hd : oi.dst = d)
    (hs : Region.noSelect ops = true) (hf : Region.free md ops listed i = true) (hr : (Region.ready md ops listed).contains i = true) (hik : i ≠ k)
    (hQ : ∀ c a w, Q (.panic c) (a.put d v) w → Q (.panic c) a w) (hy : YieldsIf P ops T oi v a) (hS : listed.getD k true = false → S w) (hT : T w)
    (h : wpAnyT P md ops Q S T k fuel (listed.setIfInBounds i true) (a.put d v) w) : wpAnyT P md ops Q S T k (fuel + 1) listed a w := by
  subst hd
  exact wpAnyT_first (I := fun _ => True) hi (fun _ _ _ _ _ _ => trivial) (fun _ _ _ _ _ _ _ _ h4 => h4)
    (fun l j w _ _ _ hji h3 h5 => h3 (by rw [Array.setIfInBounds_comm _ _ (Ne.symm hji), getD_set_ne true hik]; exact h5))
    (Region.noSelect_spec hs) hQ fuel listed a w trivial (Region.free_spec hi hf) (by simpa using hr) hy hT (fun h => hS (by rw [getD_set_ne true hik] at h; exact h)) hT h
/-- One operation alone may come up. -/
theorem wpAnyT_one {i : Nat} {o : Oper} {fuel : Nat} {listed : Array Bool} {a : Act} {w : World} (hr : Region.ready md ops listed = [i]) (ho : ops[i]? = some o)
    (h : ∀ K : Act → World → Prop, (∀ a' w', ((listed.setIfInBounds i true).getD k true = false → S w') → T w' → wpAnyT P md ops Q S T k fuel (listed.setIfInBounds i true) a' w' → K a' w') →
      (if Region.wanted o (yielded ops a.tmps) = true then Oper.wp P o a w K Q else K (a.put o.dst undef) w)) : wpAnyT P md ops Q S T k (fuel + 1) listed a w := by
  refine ⟨fun h0 => (by rw [h0] at hr; cases hr), fun j hj => ?_⟩
  rw [hr] at hj
  simp only [List.mem_singleton] at hj
  subst hj
  have := h (fun a' w' => (((listed.setIfInBounds j true).getD k true = false → S w') ∧ T w') ∧ wpAnyT P md ops Q S T k fuel (listed.setIfInBounds j true) a' w') fun a' w' h1 h2 h3 => ⟨⟨h1, h2⟩, h3⟩
  unfold wpOp
  simp only [ho]
  split at this
  · rename_i hw
    rw [if_pos hw]
    exact .inl this
  · rename_i hw
    rw [if_neg hw]
    exact this
/-- One of two may come up. -/
theorem wpAnyT_two {i1 i2 : Nat} {o1 o2 : Oper} {fuel : Nat} {listed : Array Bool} {a : Act} {w : World} (hr : Region.ready md ops listed = [i1, i2]) (ho1 : ops[i1]? = some o1) (ho2 : ops[i2]? = some o2)
    (h1 : ∀ K : Act → World → Prop, (∀ a' w', ((listed.setIfInBounds i1 true).getD k true = false → S w') → T w' → wpAnyT P md ops Q S T k fuel (listed.setIfInBounds i1 true) a' w' → K a' w') →
      (if Region.wanted o1 (yielded ops a.tmps) = true then Oper.wp P o1 a w K Q else K (a.put o1.dst undef) w))
    (h2 : ∀ K : Act → World → Prop, (∀ a' w', ((listed.setIfInBounds i2 true).getD k true = false → S w') → T w' → wpAnyT P md ops Q S T k fuel (listed.setIfInBounds i2 true) a' w' → K a' w') →
      (if Region.wanted o2 (yielded ops a.tmps) = true then Oper.wp P o2 a w K Q else K (a.put o2.dst undef) w)) : wpAnyT P md ops Q S T k (fuel + 1) listed a w := by
  have key : ∀ (j : Nat) (o : Oper), ops[j]? = some o → (∀ K : Act → World → Prop, (∀ a' w', ((listed.setIfInBounds j true).getD k true = false → S w') → T w' → wpAnyT P md ops Q S T k fuel (listed.setIfInBounds j true) a' w' → K a' w') →
      (if Region.wanted o (yielded ops a.tmps) = true then Oper.wp P o a w K Q else K (a.put o.dst undef) w)) →
      wpOp P ops Q j (fun a' w' => (((listed.setIfInBounds j true).getD k true = false → S w') ∧ T w') ∧ wpAnyT P md ops Q S T k fuel (listed.setIfInBounds j true) a' w') a w := by
    intro j o ho h
    have := h (fun a' w' => (((listed.setIfInBounds j true).getD k true = false → S w') ∧ T w') ∧ wpAnyT P md ops Q S T k fuel (listed.setIfInBounds j true) a' w') fun a' w' h1 h2 h3 => ⟨⟨h1, h2⟩, h3⟩
    unfold wpOp
    simp only [ho]
    split at this
    · rename_i hw
      rw [if_pos hw]
      exact .inl this
    · rename_i hw
      rw [if_neg hw]
      exact this
  refine ⟨fun h0 => (by rw [h0] at hr; cases hr), fun j hj => ?_⟩
  rw [hr] at hj
  simp only [List.mem_cons, List.not_mem_nil, or_false] at hj
  rcases hj with rfl | rfl
  · exact key _ _ ho1 h1
  · exact key _ _ ho2 h2
theorem wpAnyT_done {listed : Array Bool} {a : Act} {w : World} (hr : Region.ready md ops listed = []) (h : Q .normal a w) :
    ∀ fuel, wpAnyT P md ops Q S T k fuel listed a w
  | 0 => ⟨hr, h⟩
  | _ + 1 => ⟨fun _ => h, by rw [hr]; simp⟩
theorem wp_region_T (S T : World → Prop) (k n : Nat) {id : Nat} {a : Act} {w : World} (hn : ops.size = n) (hm : P.follows .mixedOrders = true)
    (h : wpAnyT P .any ops Q S T k n (Array.replicate n false) a w.drew) : (Code.region id ops true).wp P Q a w := by
  subst hn
  exact wp_region_any hm (wpAny_of_T _ _ _ _ h)
end
end Go.Proofs.Ytgihjgkpmochcaa
