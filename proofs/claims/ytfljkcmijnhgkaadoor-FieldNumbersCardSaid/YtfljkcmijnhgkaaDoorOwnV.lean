/- Matrices of the call's own, their rows' values told: written in place. -/
import Derived.Test.YtfljkcmijnhgkaaDoorOwn
namespace Go.Proofs.YtfljkcmijnhgkaaDoor
open Go.RowKit

/-- All blocks but the rows' are as they were. -/
structure KeptBut (vs : List Value) (w w' : World) : Prop where
  os : w'.os = w.os
  tape : w'.tape = w.tape
  output : w'.output = w.output
  size : w.heap.size ≤ w'.heap.size
  block : ∀ k, k < w.heap.size → (∀ u ∈ vs, u.ownBlock ≠ some k) → w'.heap[k]? = w.heap[k]?
namespace KeptBut
variable {vs : List Value} {w w' w'' : World}
theorem refl (vs : List Value) (w : World) : KeptBut vs w w := ⟨rfl, rfl, rfl, Nat.le_refl _, fun _ _ _ => rfl⟩
theorem trans (h : KeptBut vs w w') (k : KeptBut vs w' w'') : KeptBut vs w w'' :=
  ⟨k.os.trans h.os, k.tape.trans h.tape, k.output.trans h.output, Nat.le_trans h.size k.size, fun i hi hn => (k.block i (Nat.lt_of_lt_of_le hi h.size) hn).trans (h.block i hi hn)⟩
theorem of_below (h : Below w.heap.size w w') : KeptBut vs w w' := ⟨h.os, h.tape, h.output, h.size, fun k hk _ => h.block k hk⟩
theorem below (h : KeptBut vs w w') {B : Nat} (hB : B ≤ w.heap.size) (hv : ∀ u ∈ vs, ∀ k, u.ownBlock = some k → B ≤ k) : Below B w w' :=
  ⟨h.os, h.tape, h.output, h.size, fun k hk => h.block k (by omega) (fun u hu e => by have := hv u hu k e; omega)⟩
theorem drew (h : KeptBut vs w w') : KeptBut vs w w'.drew := ⟨h.os, h.tape, h.output, h.size, h.block⟩
theorem setCell (h : KeptBut vs w w') {u : Value} (hu : u ∈ vs) {g k : Nat} (hg : u.ownBlock = some g) (x : Value) : KeptBut vs w (w'.setCell ⟨g, k, none⟩ x) :=
  ⟨h.os, h.tape, h.output, by have := h.size; simpa using this, fun i hi hn => (Below.heap_setCell _ _ _ _ (fun e => hn u hu (by rw [hg, e]))).trans (h.block i hi hn)⟩
theorem cell (h : KeptBut vs w w') {a : Addr} {x : Value} (hc : w.cell? a = some x) (hn : ∀ u ∈ vs, u.ownBlock ≠ some a.block) : w'.cell? a = some x :=
  (World.cell?_of_block (h.block a.block (World.block_lt_of_cell? w a hc) hn)).trans hc
theorem frozen (h : KeptBut vs w w') {a : Addr} (ha : a.block < w.heap.size) (hn : ∀ u ∈ vs, u.ownBlock ≠ some a.block) : w'.frozen? a = w.frozen? a :=
  World.frozen?_of_block (h.block a.block ha hn)
theorem grown (h : KeptBut vs w w') {e : Nat} (he : ∀ u ∈ vs, u.ownBlock ≠ some e) : w.heap.size ≤ e ∨ w'.heap[e]? = w.heap[e]? := by
  by_cases hk : e < w.heap.size
  · exact .inr (h.block e hk he)
  · exact .inl (by omega)
end KeptBut

/-- A MATRIX OF THE CALL'S OWN, its rows' values being vs. -/
structure OwnMv (w : World) (base : Nat) (v : Value) (rs : List (List Int)) (vs : List Value) : Prop where
  outer : w.ownsRow base 23 1 v rs.length vs
  rows : ∀ (j : Nat) (r : List Int) (u : Value), rs[j]? = some r → vs[j]? = some u → OwnI w base u r
  apart : ∀ (i j : Nat) (u u' : Value), i ≠ j → vs[i]? = some u → vs[j]? = some u' → u.ownBlock = none ∨ u.ownBlock ≠ u'.ownBlock
theorem OwnM.v {w : World} {base : Nat} {v : Value} {rs : List (List Int)} (h : OwnM w base v rs) : ∃ vs, OwnMv w base v rs vs := by
  obtain ⟨vs, h1, h2, h3⟩ := h; exact ⟨vs, ⟨h1, h2, h3⟩⟩
namespace OwnMv
variable {w w1 : World} {base : Nat} {v : Value} {rs : List (List Int)} {vs : List Value}
theorem m (h : OwnMv w base v rs vs) : OwnM w base v rs := ⟨vs, h.outer, h.rows, h.apart⟩
theorem len (h : OwnMv w base v rs vs) : vs.length = rs.length := by have := h.outer.1; omega
theorem kept (h : OwnMv w base v rs vs) (hb : Below w.heap.size w w1) : OwnMv w1 base v rs vs :=
  ⟨own_below h.outer hb, fun j r u hr hu => (h.rows j r u hr hu).below hb, h.apart⟩
theorem grownBy (h : OwnMv w base v rs vs) {row : Option Nat} (hg : w.grownBy w1 row) (ho : v.ownBlock = none ∨ v.ownBlock ≠ row) (hr : ∀ u ∈ vs, u.ownBlock = none ∨ u.ownBlock ≠ row) : OwnMv w1 base v rs vs :=
  ⟨h.outer.kept hg ho, fun j r u hj hu => (h.rows j r u hj hu).kept hg (hr u (List.mem_of_getElem? hu)), h.apart⟩
theorem ge (h : OwnMv w base v rs vs) : ∀ u ∈ vs, ∀ k, u.ownBlock = some k → base ≤ k ∧ k < w.heap.size := by
  intro u hu k hk
  obtain ⟨j, hj, rfl⟩ := List.getElem_of_mem hu
  have := h.rows j _ _ (List.getElem?_eq_getElem (by have := h.len; omega)) (List.getElem?_eq_getElem hj)
  exact OwnI.base this (Nat.le_refl _) |>.lt k hk
/-- The block of rows is none of the rows' blocks. -/
theorem outer_ne (h : OwnMv w base v rs vs) {g : Nat} (hg : v.ownBlock = some g) : ∀ u ∈ vs, u.ownBlock ≠ some g := by
  intro u hu e
  obtain ⟨j, hj, rfl⟩ := List.getElem_of_mem hu
  have hr := h.rows j _ _ (List.getElem?_eq_getElem (by have := h.len; omega)) (List.getElem?_eq_getElem hj)
  rcases own_ne hr h.outer (by decide) with h1 | h1
  · rw [h1] at e; cases e
  · exact h1 (by rw [e, hg])
/-- The place of row i. -/
theorem at_ (h : OwnMv w base v rs vs) {i : Nat} {r : List Int} {u : Value} (hr : rs[i]? = some r) (hu : vs[i]? = some u) : ∃ g c, v = .slice (some ⟨g, 0, none⟩) rs.length c ∧ base ≤ g ∧ g < w.heap.size ∧ w.cell? ⟨g, i, none⟩ = some u ∧ w.frozen? ⟨g, i, none⟩ = false := by
  have hlt := (List.getElem?_eq_some_iff.1 hr).1
  obtain ⟨g, c, rfl, hb, hg⟩ := h.outer.form (by omega)
  exact ⟨g, c, rfl, hb, hg, by rw [h.outer.cellAt i (by omega)]; exact hu, h.outer.frozenAt i⟩
/-- Number k of row i. -/
theorem num (h : OwnMv w base v rs vs) {i k : Nat} {r : List Int} {u : Value} (hr : rs[i]? = some r) (hu : vs[i]? = some u) (hk : k < r.length) :
    ∃ g c, u = .slice (some ⟨g, 0, none⟩) r.length c ∧ base ≤ g ∧ g < w.heap.size ∧ w.cell? ⟨g, k, none⟩ = some (.int .i64 (r.getD k 0)) ∧ w.frozen? ⟨g, k, none⟩ = false := by
  have ho := h.rows i r u hr hu
  unfold OwnI at ho
  obtain ⟨g, c, rfl, hb, hg⟩ := ho.form (by omega)
  exact ⟨g, c, rfl, hb, hg, by rw [ho.cellAt k (by omega), ints_get, List.getElem?_eq_getElem hk]; simp [List.getD_eq_getElem?_getD, hk], ho.frozenAt k⟩
/-- A number is stored into row i. -/
theorem put (h : OwnMv w base v rs vs) {i k g c n : Nat} {r : List Int} (hr : rs[i]? = some r) (hu : vs[i]? = some (.slice (some ⟨g, 0, none⟩) n c)) (x : Int) :
    OwnMv (w.setCell ⟨g, k, none⟩ (.int .i64 x)) base v (rs.set i (r.set k x)) vs ∧ KeptBut vs w (w.setCell ⟨g, k, none⟩ (.int .i64 x)) := by
  have hlt := (List.getElem?_eq_some_iff.1 hr).1
  have ho := h.rows i r _ hr hu
  unfold OwnI at ho
  have hn : r.length = n := by
    rcases ho.2 with ⟨e, _⟩ | ⟨_, _, _, e, _⟩
    · simp at e
    · simp only [Value.slice.injEq] at e; exact e.2.1.symm
  subst hn
  obtain ⟨hs, hg⟩ := ho.stored k (.int .i64 x)
  have hout : v.ownBlock = none ∨ v.ownBlock ≠ some g := own_ne h.outer ho (by decide)
  refine ⟨⟨by rw [List.length_set]; exact h.outer.kept hg hout, fun j s u hs' hu' => ?_, h.apart⟩, (KeptBut.refl vs w).setCell (List.mem_of_getElem? hu) rfl _⟩
  by_cases hij : i = j
  · subst hij
    rw [List.getElem?_set_self hlt] at hs'
    rw [hu] at hu'
    cases hs'; cases hu'
    unfold OwnI
    rw [List.length_set]
    have : ints (r.set k x) = (ints r).set k (.int .i64 x) := by simp [ints, List.map_set]
    rw [this]; exact hs
  · rw [List.getElem?_set_ne hij] at hs'
    exact OwnI.base ((h.rows j s u hs' hu').kept hg (h.apart j i u _ (Ne.symm hij) hu' hu)) (Nat.le_refl _)
/-- Two rows change their places. -/
theorem swap (h : OwnMv w base v rs vs) {g c n i j : Nat} (hv : v = .slice (some ⟨g, 0, none⟩) n c) {r s : List Int} {u x : Value} (hr : rs[i]? = some r) (hs : rs[j]? = some s) (hu : vs[i]? = some u) (hx : vs[j]? = some x) (hij : i ≠ j) :
    OwnMv ((w.setCell ⟨g, i, none⟩ x).setCell ⟨g, j, none⟩ u) base v ((rs.set i s).set j r) ((vs.set i x).set j u) := by
  subst hv
  obtain rfl : rs.length = n := by
    rcases h.outer.2 with ⟨e, _⟩ | ⟨_, _, _, e, _⟩
    · simp at e
    · simp only [Value.slice.injEq] at e; exact e.2.1.symm
  have hi := (List.getElem?_eq_some_iff.1 hr).1
  have hj := (List.getElem?_eq_some_iff.1 hs).1
  have hl := h.len
  obtain ⟨h1, g1⟩ := h.outer.stored i x
  obtain ⟨h2, g2⟩ := h1.stored j u
  have key : ∀ k (y : Value), ((vs.set i x).set j u)[k]? = some y → ∃ k', vs[k']? = some y ∧ ((rs.set i s).set j r)[k]? = rs[k']? ∧ (k = i → k' = j) ∧ (k = j → k' = i) ∧ (k ≠ i → k ≠ j → k' = k) := by
    intro k y hy
    by_cases hkj : j = k
    · subst hkj
      rw [List.getElem?_set_self (by simp; omega)] at hy
      cases hy
      exact ⟨i, hu, by rw [List.getElem?_set_self (by simp; omega)]; exact hr.symm, fun e => absurd e.symm hij, fun _ => rfl, fun _ h => absurd rfl h⟩
    · rw [List.getElem?_set_ne hkj] at hy ⊢
      by_cases hki : i = k
      · subst hki
        rw [List.getElem?_set_self (by omega)] at hy
        cases hy
        exact ⟨j, hx, by rw [List.getElem?_set_self hi]; exact hs.symm, fun _ => rfl, fun e => absurd e.symm hkj, fun h => absurd rfl h⟩
      · rw [List.getElem?_set_ne hki] at hy ⊢
        exact ⟨k, hy, rfl, fun e => absurd e.symm hki, fun e => absurd e.symm hkj, fun _ _ => rfl⟩
  refine ⟨by simpa using h2, fun k a y ha hy => ?_, fun a b y z hab hy hz => ?_⟩
  · obtain ⟨k', e1, e2, _⟩ := key k y hy
    rw [e2] at ha
    have ho := h.rows k' a y ha e1
    have hne : y.ownBlock = none ∨ y.ownBlock ≠ some g := own_ne ho h.outer (by decide)
    exact OwnI.base ((World.ownsRow.kept (World.ownsRow.kept ho g1 hne) g2 hne)) (Nat.le_refl _)
  · obtain ⟨a', e1, _, e3, e4, e5⟩ := key a y hy
    obtain ⟨b', f1, _, f3, f4, f5⟩ := key b z hz
    refine h.apart a' b' y z (fun e => ?_) e1 f1
    subst e
    by_cases ha : a = i
    · have := e3 ha
      by_cases hb : b = i
      · omega
      · by_cases hb2 : b = j
        · have := f4 hb2; omega
        · have := f5 hb hb2; omega
    · by_cases ha2 : a = j
      · have := e4 ha2
        by_cases hb : b = i
        · have := f3 hb; omega
        · by_cases hb2 : b = j
          · omega
          · have := f5 hb hb2; omega
      · have := e5 ha ha2
        by_cases hb : b = i
        · have := f3 hb; omega
        · by_cases hb2 : b = j
          · have := f4 hb2; omega
          · have := f5 hb hb2; omega
end OwnMv
end Go.Proofs.YtfljkcmijnhgkaaDoor
