/- The heap that the door's own run leaves meets the condition. -/
import Derived.Test.YtfljkcmijnhgkaaDoorLift
import Derived.Test.YtfljkcmijnhgkaaDoorTie
import Derived.SevenTiedAt
namespace Go.Proofs.YtfljkcmijnhgkaaDoor
open Go Go.ChangeShapes Go.WideShapes Go.ChangeAt Go.WideMaps Go.WideElems Go.RowKit Go.Shelf

theorem own : ownKnob Tryd.prog.godebug = none := by kernel_rfl
theorem door_met (os : Os) (args : Array Value) : laidMetH Tryd.prog [("roundelay/field.joins", Rows.laid_roundelay_field_joins)] ((World.doorLaid Tryd.prog 32 os).forCall (fun _ _ => 0) ⟨#[], args, []⟩).memory :=
  laidMetH_of_parts3 (fuel := 8) (laidMet_of_run' 8 (by kernel_rfl) (by kernel_rfl)) (by kernel_rfl) (by kernel_rfl)
end Go.Proofs.YtfljkcmijnhgkaaDoor
