/- The reference's Sum and Times: their contracts. -/
import Derived.Test.YtfljkcmijnhgkaaDoorKwb
import Derived.StillTailTactics
namespace Go.Proofs.YtfljkcmijnhgkaaDoor
open Go.RowKit Go.Shelf
set_option linter.unusedSimpArgs false
theorem joinL_bd (h : Nat) (r s : Rule) : ∀ x ∈ joinL h r s, 0 ≤ x ∧ x < 65521 := fun x hx => by
  unfold joinL at hx
  obtain ⟨j, _, rfl⟩ := List.mem_map.1 hx
  exact joinT_bd _ _ _ _
theorem joinL_len (h : Nat) (r s : Rule) : (joinL h r s).length = 2 * joinO h r.by_.length s.by_.length := by simp [joinL]
end Go.Proofs.YtfljkcmijnhgkaaDoor
