/- What slices read as: words on memory for the walks. -/
import Derived.Test.YtfljkcmijnhgkaaDoorBase
import Derived.Maps.AppendAt
namespace Go.Proofs.YtfljkcmijnhgkaaDoor
open Go.RowKit

/-- THE SLICE v READS AS THE VALUES vs (each of one cell). -/
def RdV (w : World) (v : Value) (vs : List Value) : Prop :=
  ∃ (A : Option Addr) (c : Nat), v = .slice A vs.length c ∧ vs.length ≤ c ∧ vs.length ≤ 140737488355328 ∧
    (0 < vs.length → ∃ b off, A = some ⟨b, off, none⟩ ∧ ∀ j u, vs[j]? = some u → w.cell? ⟨b, off + j, none⟩ = some u)
def ints (xs : List Int) : List Value := xs.map (Value.int .i64)
/-- THE SLICE v READS AS THE NUMBERS xs. -/
def RdI (w : World) (v : Value) (xs : List Int) : Prop := RdV w v (ints xs)
/-- THE SLICE v READS AS THE ROWS rs. -/
def RdM (w : World) (v : Value) (rs : List (List Int)) : Prop :=
  ∃ vs : List Value, RdV w v vs ∧ vs.length = rs.length ∧ ∀ (j : Nat) (r : List Int) (u : Value), rs[j]? = some r → vs[j]? = some u → RdI w u r

theorem ints_len (xs : List Int) : (ints xs).length = xs.length := by simp [ints]
theorem ints_get (xs : List Int) (j : Nat) : (ints xs)[j]? = (xs[j]?).map (Value.int .i64) := by simp [ints]
theorem ints_append (xs ys : List Int) : ints (xs ++ ys) = ints xs ++ ints ys := by simp [ints]

theorem RdV.below {w w' : World} {v : Value} {vs : List Value} (h : RdV w v vs) {B : Nat} (hb : Below B w w') (hB : w.heap.size ≤ B) : RdV w' v vs := by
  obtain ⟨A, c, e, h1, h2, h3⟩ := h
  refine ⟨A, c, e, h1, h2, fun hp => ?_⟩
  obtain ⟨b, off, e2, h4⟩ := h3 hp
  exact ⟨b, off, e2, fun j u hj => (hb.cell (p := ⟨b, off + j, none⟩) (by have := World.block_lt_of_cell? w _ (h4 j u hj); simp at this; simp; omega)).trans (h4 j u hj)⟩
theorem RdI.below {w w' : World} {v : Value} {xs : List Int} (h : RdI w v xs) {B : Nat} (hb : Below B w w') (hB : w.heap.size ≤ B) : RdI w' v xs := RdV.below h hb hB
theorem RdM.below {w w' : World} {v : Value} {rs : List (List Int)} (h : RdM w v rs) {B : Nat} (hb : Below B w w') (hB : w.heap.size ≤ B) : RdM w' v rs := by
  obtain ⟨vs, h1, h2, h3⟩ := h
  exact ⟨vs, h1.below hb hB, h2, fun j r u hr hu => (h3 j r u hr hu).below hb hB⟩
/-- A slice of so many numbers at its place. -/
theorem RdI.open_ {w : World} {v : Value} {xs : List Int} (h : RdI w v xs) : ∃ (A : Option Addr) (c : Nat), v = .slice A xs.length c ∧ xs.length ≤ c ∧ xs.length ≤ 140737488355328 ∧
    (∀ k, k < xs.length → ∃ b off, A = some ⟨b, off, none⟩ ∧ w.cell? ⟨b, off + k, none⟩ = some (.int .i64 (xs.getD k 0))) := by
  obtain ⟨A, c, e, h1, h2, h3⟩ := h
  rw [ints_len] at *
  refine ⟨A, c, e, h1, h2, fun k hk => ?_⟩
  obtain ⟨b, off, e2, h4⟩ := h3 (by omega)
  exact ⟨b, off, e2, h4 k _ (by rw [ints_get, List.getElem?_eq_getElem hk]; simp [List.getD_eq_getElem?_getD, hk])⟩
/-- Rows at their place. -/
theorem RdM.open_ {w : World} {v : Value} {rs : List (List Int)} (h : RdM w v rs) : ∃ (A : Option Addr) (c : Nat), v = .slice A rs.length c ∧ rs.length ≤ c ∧ rs.length ≤ 140737488355328 ∧
    (∀ k, k < rs.length → ∃ b off u, A = some ⟨b, off, none⟩ ∧ w.cell? ⟨b, off + k, none⟩ = some u ∧ RdI w u (rs.getD k [])) := by
  obtain ⟨vs, ⟨A, c, e, h1, h2, h3⟩, hl, h4⟩ := h
  refine ⟨A, c, hl ▸ e, by omega, by omega, fun k hk => ?_⟩
  obtain ⟨b, off, e2, h5⟩ := h3 (by omega)
  have hu : vs[k]? = some vs[k] := List.getElem?_eq_getElem (by omega)
  exact ⟨b, off, vs[k], e2, h5 k _ hu, h4 k _ _ (by rw [List.getD_eq_getElem?_getD, List.getElem?_eq_getElem hk]; simp) hu⟩
theorem RdI.cell_ {w : World} {v : Value} {xs : List Int} (h : RdI w v xs) : ∃ (A : Option Addr) (c : Nat), v = .slice A xs.length c ∧ xs.length ≤ c ∧ xs.length ≤ 140737488355328 := by
  obtain ⟨A, c, e, h1, h2, _⟩ := h.open_
  exact ⟨A, c, e, h1, h2⟩
theorem cell_new (w : World) (v : Value) (t : TypeId) : (w.alloc (.cells #[v] t)).cell? ⟨w.heap.size, 0, none⟩ = some v := by
  simp only [World.cell?, heap_alloc_new]; rfl
end Go.Proofs.YtfljkcmijnhgkaaDoor
