/-
  DERIVED. GIVEN WITH THE SEED: THE CARDS: each row of YtfljkcmijnhgkaaDoorRows.lean that lists a variable, with what it lists TIED to the program's text (the seventh form; the later family's looks); each row that meets fmt, with fmt's text TOLD by the authors' own Lean function (tested against real Go, not proved from fmt's source: count such statements apart). THE CARD IS WHAT COUNTS. Prove the row's statement (the work); the ties are given (YtfljkcmijnhgkaaDoorTie.lean); close each card by the builder's one call (the guide's Derived/Test/ToyasCard.lean, 'card_holds'). Laid BY PROGRAM, IN A SANDBOX (cutbox-door.mjs). By AI agents, Wed Nov 11 2026. No macro, syntax, notation, axiom, sorry.
-/
import Derived.Test.YtfljkcmijnhgkaaDoorRows
import GoSem.ClaimSeven
namespace Go.Proofs.YtfljkcmijnhgkaaDoor
namespace Rows

/-- THE TIED CARD OF 'roundelaylaw16.FieldSolves'. -/
def fieldSolvesCard : Claim7 := { stood := { row := fieldSolvesRow, standIns := [], harness := (true, "c9953d1c884ea4c2f077ddb0d8b19b699c88aa184a56d8435a38da9d9625875e"), looks := false }, kinds := [], alts := [], laidByText := true, laidKinds := [.funcs], laidTests := true, laidLooks := .later }
def FieldSolvesCardSaid : Prop := Claim7.holds Tryd.pinned (.plain (OpenSpec.ofChange fieldSolvesSpec)) fieldSolvesCard

/-- THE TIED CARD OF 'roundelaylaw16.FieldCayley'. -/
def fieldCayleyCard : Claim7 := { stood := { row := fieldCayleyRow, standIns := [], harness := (true, "c9953d1c884ea4c2f077ddb0d8b19b699c88aa184a56d8435a38da9d9625875e"), looks := false }, kinds := [], alts := [], laidByText := true, laidKinds := [.funcs], laidTests := true, laidLooks := .later }
def FieldCayleyCardSaid : Prop := Claim7.holds Tryd.pinned (.plain (OpenSpec.ofChange fieldCayleySpec)) fieldCayleyCard

/-- THE TIED CARD OF 'roundelaylaw16.FieldTogether'. -/
def fieldTogetherCard : Claim7 := { stood := { row := fieldTogetherRow, standIns := [], harness := (true, "c9953d1c884ea4c2f077ddb0d8b19b699c88aa184a56d8435a38da9d9625875e"), looks := false }, kinds := [], alts := [], laidByText := true, laidKinds := [.funcs], laidTests := true, laidLooks := .later }
def FieldTogetherCardSaid : Prop := Claim7.holds Tryd.pinned (.plain (OpenSpec.ofChange fieldTogetherSpec)) fieldTogetherCard

/-- THE TIED CARD OF 'roundelaylaw16.FieldLeasts'. -/
def fieldLeastsCard : Claim7 := { stood := { row := fieldLeastsRow, standIns := [], harness := (true, "c9953d1c884ea4c2f077ddb0d8b19b699c88aa184a56d8435a38da9d9625875e"), looks := false }, kinds := [], alts := [], laidByText := true, laidKinds := [.funcs], laidTests := true, laidLooks := .later }
def FieldLeastsCardSaid : Prop := Claim7.holds Tryd.pinned (.plain (OpenSpec.ofChange fieldLeastsSpec)) fieldLeastsCard

/-- THE TIED CARD OF 'roundelaylaw16.FieldEliminates'. -/
def fieldEliminatesCard : Claim7 := { stood := { row := fieldEliminatesRow, standIns := [], harness := (true, "c9953d1c884ea4c2f077ddb0d8b19b699c88aa184a56d8435a38da9d9625875e"), looks := false }, kinds := [], alts := [], laidByText := true, laidKinds := [.funcs], laidTests := true, laidLooks := .later }
def FieldEliminatesCardSaid : Prop := Claim7.holds Tryd.pinned (.plain (OpenSpec.ofChange fieldEliminatesSpec)) fieldEliminatesCard

/-- THE TIED CARD OF 'roundelaylaw16.FieldAgree'. -/
def fieldAgreeCard : Claim7 := { stood := { row := fieldAgreeRow, standIns := [], harness := (true, "c9953d1c884ea4c2f077ddb0d8b19b699c88aa184a56d8435a38da9d9625875e"), looks := false }, kinds := [], alts := [], laidByText := true, laidKinds := [.funcs], laidTests := true, laidLooks := .later }
def FieldAgreeCardSaid : Prop := Claim7.holds Tryd.pinned (.plain (OpenSpec.ofChange fieldAgreeSpec)) fieldAgreeCard

/-- THE TIED CARD OF 'roundelaylaw16.FieldProducts'. -/
def fieldProductsCard : Claim7 := { stood := { row := fieldProductsRow, standIns := [], harness := (true, "c9953d1c884ea4c2f077ddb0d8b19b699c88aa184a56d8435a38da9d9625875e"), looks := false }, kinds := [], alts := [], laidByText := true, laidKinds := [.funcs], laidTests := true, laidLooks := .later }
def FieldProductsCardSaid : Prop := Claim7.holds Tryd.pinned (.plain (OpenSpec.ofChange fieldProductsSpec)) fieldProductsCard

/-- THE TIED CARD OF 'roundelaylaw16.FieldNumbers'. -/
def fieldNumbersCard : Claim7 := { stood := { row := fieldNumbersRow, standIns := [], harness := (true, "c9953d1c884ea4c2f077ddb0d8b19b699c88aa184a56d8435a38da9d9625875e"), looks := false }, kinds := [], alts := [], laidByText := true, laidKinds := [.funcs], laidTests := true, laidLooks := .later }
def FieldNumbersCardSaid : Prop := Claim7.holds Tryd.pinned (.plain (OpenSpec.ofChange fieldNumbersSpec)) fieldNumbersCard

/-- THE TIED CARD OF 'roundelaylaw16.FieldRoads'. -/
def fieldRoadsCard : Claim7 := { stood := { row := fieldRoadsRow, standIns := [], harness := (true, "c9953d1c884ea4c2f077ddb0d8b19b699c88aa184a56d8435a38da9d9625875e"), looks := false }, kinds := [], alts := [], laidByText := true, laidKinds := [.funcs], laidTests := true, laidLooks := .later }
def FieldRoadsCardSaid : Prop := Claim7.holds Tryd.pinned (.plain (OpenSpec.ofChange fieldRoadsSpec)) fieldRoadsCard

/-- THE TIED CARD OF 'roundelaylaw16.FieldInverse'. -/
def fieldInverseCard : Claim7 := { stood := { row := fieldInverseRow, standIns := [], harness := (true, "c9953d1c884ea4c2f077ddb0d8b19b699c88aa184a56d8435a38da9d9625875e"), looks := false }, kinds := [], alts := [], laidByText := true, laidKinds := [.funcs], laidTests := true, laidLooks := .later }
def FieldInverseCardSaid : Prop := Claim7.holds Tryd.pinned (.plain (OpenSpec.ofChange fieldInverseSpec)) fieldInverseCard

/-- THE TIED CARD OF 'roundelaylaw16.FieldTerms'. -/
def fieldTermsCard : Claim7 := { stood := { row := fieldTermsRow, standIns := [], harness := (true, "c9953d1c884ea4c2f077ddb0d8b19b699c88aa184a56d8435a38da9d9625875e"), looks := false }, kinds := [], alts := [], laidByText := true, laidKinds := [.funcs], laidTests := true, laidLooks := .later }
def FieldTermsCardSaid : Prop := Claim7.holds Tryd.pinned (.plain (OpenSpec.ofChange fieldTermsSpec)) fieldTermsCard

/-- THE TIED CARD OF 'roundelaylaw16.FieldShort'. -/
def fieldShortCard : Claim7 := { stood := { row := fieldShortRow, standIns := [], harness := (true, "c9953d1c884ea4c2f077ddb0d8b19b699c88aa184a56d8435a38da9d9625875e"), looks := false }, kinds := [], alts := [], laidByText := true, laidKinds := [.funcs], laidTests := true, laidLooks := .later }
def FieldShortCardSaid : Prop := Claim7.holds Tryd.pinned (.plain (OpenSpec.ofChange fieldShortSpec)) fieldShortCard

/-- THE TIED CARD OF 'roundelaylaw16.FieldSolved'. -/
def fieldSolvedCard : Claim7 := { stood := { row := fieldSolvedRow, standIns := [], harness := (true, "c9953d1c884ea4c2f077ddb0d8b19b699c88aa184a56d8435a38da9d9625875e"), looks := false }, kinds := [], alts := [], laidByText := true, laidKinds := [.funcs], laidTests := true, laidLooks := .later }
def FieldSolvedCardSaid : Prop := Claim7.holds Tryd.pinned (.plain (OpenSpec.ofChange fieldSolvedSpec)) fieldSolvedCard

/-- THE TIED CARD OF 'roundelaylaw16.FieldSmall'. -/
def fieldSmallCard : Claim7 := { stood := { row := fieldSmallRow, standIns := [], harness := (true, "c9953d1c884ea4c2f077ddb0d8b19b699c88aa184a56d8435a38da9d9625875e"), looks := false }, kinds := [], alts := [], laidByText := true, laidKinds := [.funcs], laidTests := true, laidLooks := .later }
def FieldSmallCardSaid : Prop := Claim7.holds Tryd.pinned (.plain (OpenSpec.ofChange fieldSmallSpec)) fieldSmallCard

/-- THE SECOND FORM's CARD OF 'roundelaylaw16.FieldSolves'. -/
def fieldSolvesUptoCard : Claim7 := { stood := { row := fieldSolvesUptoRow, standIns := [], harness := (true, "c9953d1c884ea4c2f077ddb0d8b19b699c88aa184a56d8435a38da9d9625875e"), looks := false }, kinds := [], alts := [], laidByText := true, laidKinds := [.funcs], laidTests := true, laidLooks := .later }
def FieldSolvesUptoCardSaid : Prop := Claim7.holds Tryd.pinned (.plain (OpenSpec.upto fieldSolvesSpec)) fieldSolvesUptoCard

/-- THE SECOND FORM's CARD OF 'roundelaylaw16.FieldCayley'. -/
def fieldCayleyUptoCard : Claim7 := { stood := { row := fieldCayleyUptoRow, standIns := [], harness := (true, "c9953d1c884ea4c2f077ddb0d8b19b699c88aa184a56d8435a38da9d9625875e"), looks := false }, kinds := [], alts := [], laidByText := true, laidKinds := [.funcs], laidTests := true, laidLooks := .later }
def FieldCayleyUptoCardSaid : Prop := Claim7.holds Tryd.pinned (.plain (OpenSpec.upto fieldCayleySpec)) fieldCayleyUptoCard

/-- THE SECOND FORM's CARD OF 'roundelaylaw16.FieldTogether'. -/
def fieldTogetherUptoCard : Claim7 := { stood := { row := fieldTogetherUptoRow, standIns := [], harness := (true, "c9953d1c884ea4c2f077ddb0d8b19b699c88aa184a56d8435a38da9d9625875e"), looks := false }, kinds := [], alts := [], laidByText := true, laidKinds := [.funcs], laidTests := true, laidLooks := .later }
def FieldTogetherUptoCardSaid : Prop := Claim7.holds Tryd.pinned (.plain (OpenSpec.upto fieldTogetherSpec)) fieldTogetherUptoCard

/-- THE SECOND FORM's CARD OF 'roundelaylaw16.FieldLeasts'. -/
def fieldLeastsUptoCard : Claim7 := { stood := { row := fieldLeastsUptoRow, standIns := [], harness := (true, "c9953d1c884ea4c2f077ddb0d8b19b699c88aa184a56d8435a38da9d9625875e"), looks := false }, kinds := [], alts := [], laidByText := true, laidKinds := [.funcs], laidTests := true, laidLooks := .later }
def FieldLeastsUptoCardSaid : Prop := Claim7.holds Tryd.pinned (.plain (OpenSpec.upto fieldLeastsSpec)) fieldLeastsUptoCard

/-- THE SECOND FORM's CARD OF 'roundelaylaw16.FieldEliminates'. -/
def fieldEliminatesUptoCard : Claim7 := { stood := { row := fieldEliminatesUptoRow, standIns := [], harness := (true, "c9953d1c884ea4c2f077ddb0d8b19b699c88aa184a56d8435a38da9d9625875e"), looks := false }, kinds := [], alts := [], laidByText := true, laidKinds := [.funcs], laidTests := true, laidLooks := .later }
def FieldEliminatesUptoCardSaid : Prop := Claim7.holds Tryd.pinned (.plain (OpenSpec.upto fieldEliminatesSpec)) fieldEliminatesUptoCard

/-- THE SECOND FORM's CARD OF 'roundelaylaw16.FieldAgree'. -/
def fieldAgreeUptoCard : Claim7 := { stood := { row := fieldAgreeUptoRow, standIns := [], harness := (true, "c9953d1c884ea4c2f077ddb0d8b19b699c88aa184a56d8435a38da9d9625875e"), looks := false }, kinds := [], alts := [], laidByText := true, laidKinds := [.funcs], laidTests := true, laidLooks := .later }
def FieldAgreeUptoCardSaid : Prop := Claim7.holds Tryd.pinned (.plain (OpenSpec.upto fieldAgreeSpec)) fieldAgreeUptoCard

/-- THE SECOND FORM's CARD OF 'roundelaylaw16.FieldProducts'. -/
def fieldProductsUptoCard : Claim7 := { stood := { row := fieldProductsUptoRow, standIns := [], harness := (true, "c9953d1c884ea4c2f077ddb0d8b19b699c88aa184a56d8435a38da9d9625875e"), looks := false }, kinds := [], alts := [], laidByText := true, laidKinds := [.funcs], laidTests := true, laidLooks := .later }
def FieldProductsUptoCardSaid : Prop := Claim7.holds Tryd.pinned (.plain (OpenSpec.upto fieldProductsSpec)) fieldProductsUptoCard

/-- THE SECOND FORM's CARD OF 'roundelaylaw16.FieldNumbers'. -/
def fieldNumbersUptoCard : Claim7 := { stood := { row := fieldNumbersUptoRow, standIns := [], harness := (true, "c9953d1c884ea4c2f077ddb0d8b19b699c88aa184a56d8435a38da9d9625875e"), looks := false }, kinds := [], alts := [], laidByText := true, laidKinds := [.funcs], laidTests := true, laidLooks := .later }
def FieldNumbersUptoCardSaid : Prop := Claim7.holds Tryd.pinned (.plain (OpenSpec.upto fieldNumbersSpec)) fieldNumbersUptoCard

/-- THE SECOND FORM's CARD OF 'roundelaylaw16.FieldRoads'. -/
def fieldRoadsUptoCard : Claim7 := { stood := { row := fieldRoadsUptoRow, standIns := [], harness := (true, "c9953d1c884ea4c2f077ddb0d8b19b699c88aa184a56d8435a38da9d9625875e"), looks := false }, kinds := [], alts := [], laidByText := true, laidKinds := [.funcs], laidTests := true, laidLooks := .later }
def FieldRoadsUptoCardSaid : Prop := Claim7.holds Tryd.pinned (.plain (OpenSpec.upto fieldRoadsSpec)) fieldRoadsUptoCard

/-- THE SECOND FORM's CARD OF 'roundelaylaw16.FieldInverse'. -/
def fieldInverseUptoCard : Claim7 := { stood := { row := fieldInverseUptoRow, standIns := [], harness := (true, "c9953d1c884ea4c2f077ddb0d8b19b699c88aa184a56d8435a38da9d9625875e"), looks := false }, kinds := [], alts := [], laidByText := true, laidKinds := [.funcs], laidTests := true, laidLooks := .later }
def FieldInverseUptoCardSaid : Prop := Claim7.holds Tryd.pinned (.plain (OpenSpec.upto fieldInverseSpec)) fieldInverseUptoCard

/-- THE SECOND FORM's CARD OF 'roundelaylaw16.FieldTerms'. -/
def fieldTermsUptoCard : Claim7 := { stood := { row := fieldTermsUptoRow, standIns := [], harness := (true, "c9953d1c884ea4c2f077ddb0d8b19b699c88aa184a56d8435a38da9d9625875e"), looks := false }, kinds := [], alts := [], laidByText := true, laidKinds := [.funcs], laidTests := true, laidLooks := .later }
def FieldTermsUptoCardSaid : Prop := Claim7.holds Tryd.pinned (.plain (OpenSpec.upto fieldTermsSpec)) fieldTermsUptoCard

/-- THE SECOND FORM's CARD OF 'roundelaylaw16.FieldShort'. -/
def fieldShortUptoCard : Claim7 := { stood := { row := fieldShortUptoRow, standIns := [], harness := (true, "c9953d1c884ea4c2f077ddb0d8b19b699c88aa184a56d8435a38da9d9625875e"), looks := false }, kinds := [], alts := [], laidByText := true, laidKinds := [.funcs], laidTests := true, laidLooks := .later }
def FieldShortUptoCardSaid : Prop := Claim7.holds Tryd.pinned (.plain (OpenSpec.upto fieldShortSpec)) fieldShortUptoCard

/-- THE SECOND FORM's CARD OF 'roundelaylaw16.FieldSolved'. -/
def fieldSolvedUptoCard : Claim7 := { stood := { row := fieldSolvedUptoRow, standIns := [], harness := (true, "c9953d1c884ea4c2f077ddb0d8b19b699c88aa184a56d8435a38da9d9625875e"), looks := false }, kinds := [], alts := [], laidByText := true, laidKinds := [.funcs], laidTests := true, laidLooks := .later }
def FieldSolvedUptoCardSaid : Prop := Claim7.holds Tryd.pinned (.plain (OpenSpec.upto fieldSolvedSpec)) fieldSolvedUptoCard

/-- THE SECOND FORM's CARD OF 'roundelaylaw16.FieldSmall'. -/
def fieldSmallUptoCard : Claim7 := { stood := { row := fieldSmallUptoRow, standIns := [], harness := (true, "c9953d1c884ea4c2f077ddb0d8b19b699c88aa184a56d8435a38da9d9625875e"), looks := false }, kinds := [], alts := [], laidByText := true, laidKinds := [.funcs], laidTests := true, laidLooks := .later }
def FieldSmallUptoCardSaid : Prop := Claim7.holds Tryd.pinned (.plain (OpenSpec.upto fieldSmallSpec)) fieldSmallUptoCard
end Rows
end Go.Proofs.YtfljkcmijnhgkaaDoor
