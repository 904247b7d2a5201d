/-
  DERIVED. GIVEN WITH THE SEED: THE CARDS: each row of YtlpldfocljnpnaaDoorRows.lean that lists a variable, with what it lists TIED to the program's text (the seventh form; the later family's looks); each row that meets fmt, with fmt's text TOLD by the authors' own Lean function (tested against real Go, not proved from fmt's source: count such statements apart). THE CARD IS WHAT COUNTS. Prove the row's statement (the work); the ties are given (YtlpldfocljnpnaaDoorTie.lean); close each card by the builder's one call (the guide's Derived/Test/ToyasCard.lean, 'card_holds'). Laid BY PROGRAM, IN A SANDBOX (cutbox-door.mjs). By AI agents, Wed Nov 11 2026. No macro, syntax, notation, axiom, sorry.
-/
import Derived.Test.YtlpldfocljnpnaaDoorRows
import GoSem.ClaimSeven
namespace Go.Proofs.YtlpldfocljnpnaaDoor
namespace Rows

/-- THE TIED CARD OF 'roundelaylaw17.SeriesLeasts'. -/
def seriesLeastsCard : Claim7 := { stood := { row := seriesLeastsRow, standIns := [], harness := (true, "eccee2b71bde59e3e2587f2f982d8df8135372091d22c71b5ba07807a11c4610"), looks := false }, kinds := [], alts := [], laidByText := true, laidKinds := [.funcs], laidTests := true, laidLooks := .later }
def SeriesLeastsCardSaid : Prop := Claim7.holds Tryd.pinned (.plain (OpenSpec.ofChange seriesLeastsSpec)) seriesLeastsCard

/-- THE TIED CARD OF 'roundelaylaw17.SeriesWeights'. -/
def seriesWeightsCard : Claim7 := { stood := { row := seriesWeightsRow, standIns := [], harness := (true, "eccee2b71bde59e3e2587f2f982d8df8135372091d22c71b5ba07807a11c4610"), looks := false }, kinds := [], alts := [], laidByText := true, laidKinds := [.funcs], laidTests := true, laidLooks := .later }
def SeriesWeightsCardSaid : Prop := Claim7.holds Tryd.pinned (.plain (OpenSpec.ofChange seriesWeightsSpec)) seriesWeightsCard

/-- THE TIED CARD OF 'roundelaylaw17.SeriesApart'. -/
def seriesApartCard : Claim7 := { stood := { row := seriesApartRow, standIns := [], harness := (true, "eccee2b71bde59e3e2587f2f982d8df8135372091d22c71b5ba07807a11c4610"), looks := false }, kinds := [], alts := [], laidByText := true, laidKinds := [.funcs], laidTests := true, laidLooks := .later }
def SeriesApartCardSaid : Prop := Claim7.holds Tryd.pinned (.plain (OpenSpec.ofChange seriesApartSpec)) seriesApartCard

/-- THE TIED CARD OF 'roundelaylaw17.SeriesCut'. -/
def seriesCutCard : Claim7 := { stood := { row := seriesCutRow, standIns := [], harness := (true, "eccee2b71bde59e3e2587f2f982d8df8135372091d22c71b5ba07807a11c4610"), looks := false }, kinds := [], alts := [], laidByText := true, laidKinds := [.funcs], laidTests := true, laidLooks := .later }
def SeriesCutCardSaid : Prop := Claim7.holds Tryd.pinned (.plain (OpenSpec.ofChange seriesCutSpec)) seriesCutCard

/-- THE TIED CARD OF 'roundelaylaw17.SeriesLinear'. -/
def seriesLinearCard : Claim7 := { stood := { row := seriesLinearRow, standIns := [], harness := (true, "eccee2b71bde59e3e2587f2f982d8df8135372091d22c71b5ba07807a11c4610"), looks := false }, kinds := [], alts := [], laidByText := true, laidKinds := [.funcs], laidTests := true, laidLooks := .later }
def SeriesLinearCardSaid : Prop := Claim7.holds Tryd.pinned (.plain (OpenSpec.ofChange seriesLinearSpec)) seriesLinearCard

/-- THE SECOND FORM's CARD OF 'roundelaylaw17.SeriesLeasts'. -/
def seriesLeastsUptoCard : Claim7 := { stood := { row := seriesLeastsUptoRow, standIns := [], harness := (true, "eccee2b71bde59e3e2587f2f982d8df8135372091d22c71b5ba07807a11c4610"), looks := false }, kinds := [], alts := [], laidByText := true, laidKinds := [.funcs], laidTests := true, laidLooks := .later }
def SeriesLeastsUptoCardSaid : Prop := Claim7.holds Tryd.pinned (.plain (OpenSpec.upto seriesLeastsSpec)) seriesLeastsUptoCard

/-- THE SECOND FORM's CARD OF 'roundelaylaw17.SeriesWeights'. -/
def seriesWeightsUptoCard : Claim7 := { stood := { row := seriesWeightsUptoRow, standIns := [], harness := (true, "eccee2b71bde59e3e2587f2f982d8df8135372091d22c71b5ba07807a11c4610"), looks := false }, kinds := [], alts := [], laidByText := true, laidKinds := [.funcs], laidTests := true, laidLooks := .later }
def SeriesWeightsUptoCardSaid : Prop := Claim7.holds Tryd.pinned (.plain (OpenSpec.upto seriesWeightsSpec)) seriesWeightsUptoCard

/-- THE SECOND FORM's CARD OF 'roundelaylaw17.SeriesApart'. -/
def seriesApartUptoCard : Claim7 := { stood := { row := seriesApartUptoRow, standIns := [], harness := (true, "eccee2b71bde59e3e2587f2f982d8df8135372091d22c71b5ba07807a11c4610"), looks := false }, kinds := [], alts := [], laidByText := true, laidKinds := [.funcs], laidTests := true, laidLooks := .later }
def SeriesApartUptoCardSaid : Prop := Claim7.holds Tryd.pinned (.plain (OpenSpec.upto seriesApartSpec)) seriesApartUptoCard

/-- THE SECOND FORM's CARD OF 'roundelaylaw17.SeriesCut'. -/
def seriesCutUptoCard : Claim7 := { stood := { row := seriesCutUptoRow, standIns := [], harness := (true, "eccee2b71bde59e3e2587f2f982d8df8135372091d22c71b5ba07807a11c4610"), looks := false }, kinds := [], alts := [], laidByText := true, laidKinds := [.funcs], laidTests := true, laidLooks := .later }
def SeriesCutUptoCardSaid : Prop := Claim7.holds Tryd.pinned (.plain (OpenSpec.upto seriesCutSpec)) seriesCutUptoCard

/-- THE SECOND FORM's CARD OF 'roundelaylaw17.SeriesLinear'. -/
def seriesLinearUptoCard : Claim7 := { stood := { row := seriesLinearUptoRow, standIns := [], harness := (true, "eccee2b71bde59e3e2587f2f982d8df8135372091d22c71b5ba07807a11c4610"), looks := false }, kinds := [], alts := [], laidByText := true, laidKinds := [.funcs], laidTests := true, laidLooks := .later }
def SeriesLinearUptoCardSaid : Prop := Claim7.holds Tryd.pinned (.plain (OpenSpec.upto seriesLinearSpec)) seriesLinearUptoCard
end Rows
end Go.Proofs.YtlpldfocljnpnaaDoor
