/- Dup, DupRows, zeros, Identity: their contracts. -/
import Derived.Test.YtfljkcmijnhgkaaDoorKf
import Derived.Test.YtfljkcmijnhgkaaDoorKa
import Derived.Test.YtfljkcmijnhgkaaDoorKc
namespace Go.Proofs.YtfljkcmijnhgkaaDoor
open Go.RowKit
set_option linter.unusedSimpArgs false
/-- A row of the call's own comes behind the others. -/
theorem OwnMv.snoc {w w1 : World} {base n : Nat} {v v' : Value} {rs : List (List Int)} {vs : List Value} {r : List Int} {u : Value} (h : OwnMv w base v rs vs) (ho : OwnI w base u r)
    (hu : ∀ x ∈ vs, x.ownBlock = none ∨ x.ownBlock ≠ u.ownBlock) (h1 : w1.ownsRow base 23 1 v' n (vs ++ [u])) (hn : n = rs.length + 1) (hg : w.grownBy w1 v.ownBlock) : OwnMv w1 base v' (rs ++ [r]) (vs ++ [u]) := by
  subst hn
  have hl := h.len
  have hrow : ∀ (x : Value) (s : List Int), OwnI w base x s → OwnI w1 base x s := fun x s hx => OwnI.base (World.ownsRow.kept hx hg (own_ne hx h.outer (by decide))) (Nat.le_refl _)
  refine ⟨by rw [List.length_append]; exact h1, fun j s x hs hx => ?_, fun i j x y hij hx hy => ?_⟩
  · by_cases hj : j < rs.length
    · rw [List.getElem?_append_left hj] at hs
      rw [List.getElem?_append_left (by omega)] at hx
      exact hrow x s (h.rows j s x hs hx)
    · have hj2 := (List.getElem?_eq_some_iff.1 hs).1
      have : j = rs.length := by simp at hj2; omega
      subst this
      rw [List.getElem?_append_right (Nat.le_refl _), Nat.sub_self] at hs
      rw [List.getElem?_append_right (by omega), hl, Nat.sub_self] at hx
      cases hs; cases hx
      exact hrow _ _ ho
  · by_cases hi : i < vs.length
    · rw [List.getElem?_append_left hi] at hx
      by_cases hj : j < vs.length
      · rw [List.getElem?_append_left hj] at hy
        exact h.apart i j x y hij hx hy
      · have hj2 := (List.getElem?_eq_some_iff.1 hy).1
        have : j = vs.length := by simp at hj2; omega
        subst this
        rw [List.getElem?_append_right (Nat.le_refl _), Nat.sub_self] at hy
        cases hy
        exact hu x (List.mem_of_getElem? hx)
    · have hi2 := (List.getElem?_eq_some_iff.1 hx).1
      have : i = vs.length := by simp at hi2; omega
      subst this
      rw [List.getElem?_append_right (Nat.le_refl _), Nat.sub_self] at hx
      cases hx
      have hj : j < vs.length := by
        have hj2 := (List.getElem?_eq_some_iff.1 hy).1
        simp at hj2; omega
      rw [List.getElem?_append_left hj] at hy
      rcases hu y (List.mem_of_getElem? hy) with e | e
      · by_cases hx0 : u.ownBlock = none
        · exact .inl hx0
        · exact .inr (by rw [e]; exact hx0)
      · exact .inr (Ne.symm e)
end Go.Proofs.YtfljkcmijnhgkaaDoor
