/- A region of open order: an operation that reads a cell may be taken first although the region's own last stores write that cell, if they wait for it. -/
import Derived.OrdersHeld
import Derived.WalkKit
namespace Go.Proofs.YtfljkcmijnhgkaaDoor
open Go

section
variable {P : Program} {ops : Array Oper} {Q : Exit → Act → World → Prop} {md : Region.Mode} {S T : World → Prop} {d : Nat}

/-- Whatever order is picked: S holds behind every operation, and T as long as operation d has not come up. -/
def wpAnyD (P : Program) (md : Region.Mode) (ops : Array Oper) (Q : Exit → Act → World → Prop) (S T : World → Prop) (d : Nat) : Nat → Array Bool → Act → World → Prop
  | 0, listed, a, w => Region.ready md ops listed = [] ∧ Q .normal a w
  | fuel + 1, listed, a, w =>
    (Region.ready md ops listed = [] → Q .normal a w) ∧
    ∀ i ∈ Region.ready md ops listed, wpOp P ops Q i (fun a' w' => (S w' ∧ (i ≠ d → listed.getD d true = false → T w')) ∧ wpAnyD P md ops Q S T d fuel (listed.setIfInBounds i true) a' w') a w

theorem wpAny_of_D : ∀ (fuel : Nat) (listed : Array Bool) (a : Act) (w : World), wpAnyD P md ops Q S T d fuel listed a w → wpAny P md ops Q fuel listed a w
  | 0, _, _, _, h => h
  | fuel + 1, _, _, _, h => ⟨h.1, fun i hi => wpOp_mono (fun a' w' h' => wpAny_of_D fuel _ a' w' h'.2) (h.2 i hi)⟩

theorem wpAnyD_first {U : World → Prop} {i : Nat} {oi : Oper} {v : Value} (hi : ops[i]? = some oi) (hsel : ∀ (j : Nat) (o : Oper) cs b, ops[j]? = some o → o.op ≠ .select cs b)
    (hQ : ∀ c a w, Q (.panic c) (a.put oi.dst v) w → Q (.panic c) a w) (hid : i ≠ d) :
    ∀ (fuel : Nat) (listed : Array Bool) (a : Act) (w : World),
      (∀ j oj, ops[j]? = some oj → j ≠ i → listed.getD j true = false → (∀ e ∈ oj.after, Region.binds md e = true → e.on ≠ i) → oi.apart ops oj = true) →
      i ∈ Region.ready md ops listed → YieldsIf P ops U oi v a → S w →
      ((∀ w, S w → U w) ∨ ((∀ w, S w → T w → U w) ∧ (∀ od, ops[d]? = some od → ∃ e ∈ od.after, Region.binds md e = true ∧ e.on = i) ∧ listed.getD d true = false)) → (listed.getD d true = false → T w) →
      wpAnyD P md ops Q S T d fuel (listed.setIfInBounds i true) (a.put oi.dst v) w → wpAnyD P md ops Q S T d (fuel + 1) listed a w := by
  have hget : ∀ (l : Array Bool), (l.setIfInBounds i true).getD d true = l.getD d true := fun l => getD_set_ne true hid
  intro fuel
  induction fuel with
  | zero =>
    intro listed a w _ hr hy hS hD hT H
    have hUw : U w := by
      rcases hD with h | ⟨h, _, h3⟩
      · exact h w hS
      · exact h w hS (hT h3)
    refine ⟨fun h => (by rw [h] at hr; cases hr), fun j hj => ?_⟩
    by_cases hji : j = i
    · subst hji; exact hy.wpOp hi hUw ⟨⟨hS, fun _ h => hT h⟩, H⟩
    · have := ready_mono hj hji
      rw [H.1] at this
      cases this
  | succ fuel ih =>
    intro listed a w hfree hr hy hS hD hT H
    have hUw : U w := by
      rcases hD with h | ⟨h, _, h3⟩
      · exact h w hS
      · exact h w hS (hT h3)
    refine ⟨fun h => (by rw [h] at hr; cases hr), fun j hj => ?_⟩
    by_cases hji : j = i
    · subst hji; exact hy.wpOp hi hUw ⟨⟨hS, fun _ h => hT h⟩, H⟩
    · have h1 := H.2 j (ready_mono hj hji)
      obtain ⟨hjun, oj, hoj, hall⟩ := mem_ready.1 hj
      have hiun := (mem_ready.1 hr).1
      have hnot : ∀ e ∈ oj.after, Region.binds md e = true → e.on ≠ i := fun e he hb heq => by
        have h1 := hall e he hb
        rw [heq] at h1
        rcases Nat.lt_or_ge i listed.size with h' | h'
        · simp [h'] at hiun h1; rw [hiun] at h1; cases h1
        · simp [Array.getElem?_eq_none h'] at h1
      have h2 := wpOp_putIf hoj (hfree j oj hoj hji hjun hnot) (fun cs b => hsel i oi cs b hi) (fun cs b => hsel j oj cs b hoj) hQ hy h1
      have hfree' : ∀ k ok, ops[k]? = some ok → k ≠ i → (listed.setIfInBounds j true).getD k true = false →
          (∀ e ∈ ok.after, Region.binds md e = true → e.on ≠ i) → oi.apart ops ok = true := fun k ok hk hki hun hno => by
        refine hfree k ok hk hki ?_ hno
        by_cases hjk : j = k
        · subst hjk; exact hjun
        · rw [getD_set_ne true hjk] at hun; exact hun
      refine wpOp_mono (fun a' w' h3 => ?_) h2
      have hS' := h3.2.1.1
      have hT' : j ≠ d → listed.getD d true = false → T w' := fun h4 h5 => h3.2.1.2 h4 (by rw [hget]; exact h5)
      refine ⟨⟨hS', hT'⟩, ih (listed.setIfInBounds j true) a' w' hfree' (ready_mono hr (Ne.symm hji)) h3.1 hS' ?_ (fun h5 => ?_) ?_⟩
      · rcases hD with h | ⟨h, h4, h5⟩
        · exact .inl h
        · have hjd : j ≠ d := fun e => by
            subst e
            obtain ⟨e, he, hb, hon⟩ := h4 oj hoj
            exact hnot e he hb hon
          exact .inr ⟨h, h4, by rw [getD_set_ne true hjd]; exact h5⟩
      · have hjd : j ≠ d := fun e => by
          subst e
          have hjs : j < listed.size := by
            rcases Nat.lt_or_ge j listed.size with h | h
            · exact h
            · simp [Array.getElem?_eq_none h] at hjun
          simp [hjs] at h5
        rw [getD_set_ne true hjd] at h5
        exact hT' hjd h5
      · rw [Array.setIfInBounds_comm _ _ hji]
        exact h3.2.2

/-- d waits for i, by an edge of its own. -/
def waits (md : Region.Mode) (ops : Array Oper) (d i : Nat) : Bool := match ops[d]? with
  | some od => od.after.any fun e => Region.binds md e && e.on == i
  | none => true
theorem waits_spec {d i : Nat} (h : waits md ops d i = true) : ∀ od, ops[d]? = some od → ∃ e ∈ od.after, Region.binds md e = true ∧ e.on = i := by
  intro od hod
  unfold waits at h
  rw [hod] at h
  obtain ⟨e, he, hb⟩ := Array.any_eq_true'.1 h
  simp only [Bool.and_eq_true, beq_iff_eq] at hb
  exact ⟨e, he, hb.1, hb.2⟩
variable {i fuel : Nat} {oi : Oper} {v : Value} {listed : Array Bool} {a : Act} {w : World}
/-- An operation that yields in every world in which S holds is taken first. -/
theorem D_take (hi : ops[i]? = some oi) (hs : Region.noSelect ops = true) (hf : Region.free md ops listed i = true) (hr : (Region.ready md ops listed).contains i = true) (hid : Nat.beq i d = false)
    (hQ : ∀ c a w, Q (.panic c) (a.put oi.dst v) w → Q (.panic c) a w) (hy : YieldsIf P ops S oi v a) (hS : S w) (hT : listed.getD d true = false → T w)
    (h : wpAnyD P md ops Q S T d fuel (listed.setIfInBounds i true) (a.put oi.dst v) w) : wpAnyD P md ops Q S T d (fuel + 1) listed a w :=
  wpAnyD_first (U := S) hi (Region.noSelect_spec hs) hQ (fun e => by subst e; simp at hid) fuel listed a w (Region.free_spec hi hf) (by simpa using hr) hy hS (.inl fun _ h => h) hT h
/-- One that yields in every world in which S and T hold, and for which d waits. -/
theorem D_load (hi : ops[i]? = some oi) (hs : Region.noSelect ops = true) (hf : Region.free md ops listed i = true) (hr : (Region.ready md ops listed).contains i = true) (hid : Nat.beq i d = false)
    (hw : waits md ops d i = true) (hd : listed.getD d true = false)
    (hQ : ∀ c a w, Q (.panic c) (a.put oi.dst v) w → Q (.panic c) a w) (hy : YieldsIf P ops (fun w => S w ∧ T w) oi v a) (hS : S w) (hT : T w)
    (h : wpAnyD P md ops Q S T d fuel (listed.setIfInBounds i true) (a.put oi.dst v) w) : wpAnyD P md ops Q S T d (fuel + 1) listed a w :=
  wpAnyD_first (U := fun w => S w ∧ T w) hi (Region.noSelect_spec hs) hQ (fun e => by subst e; simp at hid) fuel listed a w (Region.free_spec hi hf) (by simpa using hr) hy hS (.inr ⟨fun _ h1 h2 => ⟨h1, h2⟩, waits_spec hw, hd⟩) (fun _ => hT) h
/-- The only one that may come up is carried out. -/
theorem D_one (hr : Region.ready md ops listed = [i]) (hi : ops[i]? = some oi)
    (h : ∀ K : Act → World → Prop, (∀ a' w', S w' → (i ≠ d → listed.getD d true = false → T w') → wpAnyD P md ops Q S T d fuel (listed.setIfInBounds i true) a' w' → K a' w') →
      if Region.wanted oi (yielded ops a.tmps) = true then Oper.wp P oi a w K Q else K (a.put oi.dst undef) w) : wpAnyD P md ops Q S T d (fuel + 1) listed a w := by
  refine ⟨fun h0 => (by rw [hr] at h0; cases h0), fun j hj => ?_⟩
  rw [hr] at hj
  obtain rfl : j = i := by simpa using hj
  have h2 := h (fun a' w' => (S w' ∧ (j ≠ d → listed.getD d true = false → T w')) ∧ wpAnyD P md ops Q S T d fuel (listed.setIfInBounds j true) a' w') (fun a' w' h1 h2 h3 => ⟨⟨h1, h2⟩, h3⟩)
  unfold wpOp
  simp only [hi]
  split
  · rename_i hw; rw [if_pos hw] at h2; exact .inl h2
  · rename_i hw; rw [if_neg hw] at h2; exact h2
/-- All have come up. -/
theorem D_done (hr : Region.ready md ops listed = []) (h : Q .normal a w) : ∀ fuel, wpAnyD P md ops Q S T d fuel listed a w
  | 0 => ⟨hr, h⟩
  | _ + 1 => ⟨fun _ => h, by rw [hr]; simp⟩
/-- The beginning. -/
theorem D_begin {id : Nat} (S T : World → Prop) (d : Nat) (hm : P.follows .mixedOrders = true)
    (h : wpAnyD P .any ops Q S T d ops.size (Array.replicate ops.size false) a { w with drawn := w.drawn + 1 }) : (Code.region id ops true).wp P Q a w :=
  wp_region_any hm (wpAny_of_D _ _ _ _ h)
end
end Go.Proofs.YtfljkcmijnhgkaaDoor
