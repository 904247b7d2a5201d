/- The reference's reduce: its contract. The reference's Solution: its contract. -/
import Derived.Test.YtfljkcmijnhgkaaDoorKn
import Derived.Test.YtfljkcmijnhgkaaDoorKd
import Derived.Test.YtfljkcmijnhgkaaDoorKf
import Derived.Test.YtfljkcmijnhgkaaDoorKq
import Derived.Test.YtfljkcmijnhgkaaDoorKi
import Derived.Deep.AppendLies
import Derived.Deep.RegionHeld3
namespace Go.Proofs.YtfljkcmijnhgkaaDoor
open Go.RowKit
set_option linter.unusedSimpArgs false
/-- The state between two columns. -/
structure RInv (w wr : World) (base : Nat) (v p : Value) (s : Sys) (n m : Nat) : Prop where
  ok : okM s.rows n m
  few : s.piv.length ≤ n
  mem : ∃ vs, OwnMv wr base v s.rows vs ∧ ∀ u ∈ vs, ∀ g, u.ownBlock = some g → g < w.heap.size
  piv : OwnI wr w.heap.size p (natI (s.piv.map (·.2)))
  below : Below base w wr
end Go.Proofs.YtfljkcmijnhgkaaDoor

namespace Go.Proofs.YtfljkcmijnhgkaaDoor
open Go.RowKit
set_option linter.unusedSimpArgs false
section
variable {P : Program} {ops : Array Oper} {Q : Exit → Act → World → Prop} {md : Region.Mode} {S T : World → Prop} {d : Nat} {i j fuel : Nat} {oi oj : Oper} {listed : Array Bool} {a : Act} {w : World}
/-- One of two comes up. -/
theorem D_two (hr : Region.ready md ops listed = [i, j]) (hi : ops[i]? = some oi) (hj : ops[j]? = some oj)
    (h : ∀ K : Act → World → Prop, (∀ a' w', S w' → (i ≠ d → listed.getD d true = false → T w') → wpAnyD P md ops Q S T d fuel (listed.setIfInBounds i true) a' w' → K a' w') →
      if Region.wanted oi (yielded ops a.tmps) = true then Oper.wp P oi a w K Q else K (a.put oi.dst undef) w)
    (h2 : ∀ K : Act → World → Prop, (∀ a' w', S w' → (j ≠ d → listed.getD d true = false → T w') → wpAnyD P md ops Q S T d fuel (listed.setIfInBounds j true) a' w' → K a' w') →
      if Region.wanted oj (yielded ops a.tmps) = true then Oper.wp P oj a w K Q else K (a.put oj.dst undef) w) : wpAnyD P md ops Q S T d (fuel + 1) listed a w := by
  refine ⟨fun h0 => (by rw [hr] at h0; cases h0), fun q hq => ?_⟩
  rw [hr] at hq
  rcases List.mem_cons.1 hq with rfl | hq
  · have h3 := h (fun a' w' => (S w' ∧ (q ≠ d → listed.getD d true = false → T w')) ∧ wpAnyD P md ops Q S T d fuel (listed.setIfInBounds q true) a' w') (fun a' w' h1 h2 h3 => ⟨⟨h1, h2⟩, h3⟩)
    unfold wpOp
    simp only [hi]
    split
    · rename_i hw; rw [if_pos hw] at h3; exact .inl h3
    · rename_i hw; rw [if_neg hw] at h3; exact h3
  · obtain rfl : q = j := by simpa using hq
    have h3 := h2 (fun a' w' => (S w' ∧ (q ≠ d → listed.getD d true = false → T w')) ∧ wpAnyD P md ops Q S T d fuel (listed.setIfInBounds q true) a' w') (fun a' w' h1 h2 h3 => ⟨⟨h1, h2⟩, h3⟩)
    unfold wpOp
    simp only [hj]
    split
    · rename_i hw; rw [if_pos hw] at h3; exact .inl h3
    · rename_i hw; rw [if_neg hw] at h3; exact h3
end
end Go.Proofs.YtfljkcmijnhgkaaDoor
