/-
  NARROWER THAN 'FOR EVERY INPUT', by the rows' own cells (each row's printed sentence says how): FieldSolves: laid · FieldCayley: laid · FieldTogether: laid · FieldLeasts: laid · FieldEliminates: laid · FieldAgree: laid · FieldProducts: laid · FieldNumbers: laid · FieldRoads: laid · FieldInverse: laid · FieldTerms: laid · FieldShort: laid · FieldSolved: laid · FieldSmall: laid.
  DERIVED. THE GIVEN ROWS OF THIS SEAT. 14 by the template 'for every input the law returns true; each argument reads behind the call as it read before'; 0 by the template 'total and deterministic' (their statements: YtfljkcmijnhgkaaDoorTotals.lean).
  GIVEN WITH THE SEED: the statements are not yours to turn. If you find one false, say at which input.
  Laid BY PROGRAM, IN A SANDBOX (cutbox-rows.mjs): the forced cells as the released guide's own fill.sh prints them over the translation 7ba168359ae68b2f… (all of the seat's roots in one cut). By AI agents, Wed Nov 11 2026. No macro, syntax, notation, axiom, sorry.
-/
import Derived.Test.YtfljkcmijnhgkaaDoorChecked
import GoSem.Claim
import GoSem.ClaimJoined
import GoSem.ClaimMapViews
import Derived.JoinedTies
import Derived.KernelRfl
namespace Go.Proofs.YtfljkcmijnhgkaaDoor
/- THE CELL 'sum', in the pinned program and in every row, IS THE sha256 OF THE DUMP (.gsa) THAT YtfljkcmijnhgkaaDoorProg.lean LOADS. Nothing in Lean hashes anything: it is a label: what it is worth is what the hold of that sum in a sandbox is worth. -/
noncomputable def Tryd.pinned : Pinned := { name := "ytfljkcmijnhgkaadoor", sum := "7ba168359ae68b2f815e5a1c7b05edb760ce9d0f072cbac52086c40357413753", checked := Tryd.checked }
namespace Rows
def none {H : Type} : Left H := { results := [], args := [] }

/- WHAT THE LISTED PACKAGE-LEVEL VARIABLES READ AS WHEN THE CALL BEGINS. Each datum BY PROGRAM (the guide's laid-datum.mjs) off the statement by which the dump's own 'gosem.cut.vars' lays the variable. In a bare row this is a premise. The card (YtfljkcmijnhgkaaDoorCards.lean) ties it to the program's text. -/
def laid_roundelay_field_joins {H : Type} : DataW H := .iface "func table" (.map [(.string [102, 111, 108, 100, 101, 100], .agg [.iface "func" (.lit (.string [114, 111, 117, 110, 100, 101, 108, 97, 121, 47, 102, 105, 101, 108, 100, 46, 106, 111, 105, 110, 115, 36, 53])), .iface "func" (.lit (.string [114, 111, 117, 110, 100, 101, 108, 97, 121, 47, 102, 105, 101, 108, 100, 46, 106, 111, 105, 110, 115, 36, 54]))]), (.string [115, 117, 109], .agg [.iface "func" (.lit (.string [114, 111, 117, 110, 100, 101, 108, 97, 121, 47, 102, 105, 101, 108, 100, 46, 106, 111, 105, 110, 115, 36, 49])), .iface "func" (.lit (.string [114, 111, 117, 110, 100, 101, 108, 97, 121, 47, 102, 105, 101, 108, 100, 46, 106, 111, 105, 110, 115, 36, 50]))]), (.string [116, 105, 109, 101, 115], .agg [.iface "func" (.lit (.string [114, 111, 117, 110, 100, 101, 108, 97, 121, 47, 102, 105, 101, 108, 100, 46, 106, 111, 105, 110, 115, 36, 51])), .iface "func" (.lit (.string [114, 111, 117, 110, 100, 101, 108, 97, 121, 47, 102, 105, 101, 108, 100, 46, 106, 111, 105, 110, 115, 36, 52]))])])

/-- 'roundelaylaw16.FieldSolves': WHATEVER THE INPUT: true; the input reads as it did. -/
def fieldSolvesSpec : ChangeSpec := { name := "fieldSolves", fn := fun _ => fun
  | [d1, d2] => { results := [.lit (.bool true)], args := [d1, d2] }
  | _ => none }
def fieldSolvesRow : OpenClaim := { program := "ytfljkcmijnhgkaadoor", sum := "7ba168359ae68b2f815e5a1c7b05edb760ce9d0f072cbac52086c40357413753", func := "roundelay/roundelaylaw16.FieldSolves", spec := "fieldSolves", unfollowed := true, recurses := true, named := ["roundelay/field.joins"], apart := false, laid := [("roundelay/field.joins", laid_roundelay_field_joins)] }
def FieldSolvesSaid : Prop := fieldSolvesRow.holds Tryd.pinned (OpenSpec.ofChange fieldSolvesSpec)

/-- ITS FALSE NEIGHBOUR: 'it returns false'. Refute it at one input. -/
def fieldSolvesWrong : ChangeSpec := { name := "fieldSolves", fn := fun _ => fun
  | [d1, d2] => { results := [.lit (.bool false)], args := [d1, d2] }
  | _ => none }
def FieldSolvesWrongFalsely : Prop := fieldSolvesRow.holds Tryd.pinned (OpenSpec.ofChange fieldSolvesWrong)

/-- 'roundelaylaw16.FieldCayley': WHATEVER THE INPUT: true; the input reads as it did. -/
def fieldCayleySpec : ChangeSpec := { name := "fieldCayley", fn := fun _ => fun
  | [d1, d2, d3, d4] => { results := [.lit (.bool true)], args := [d1, d2, d3, d4] }
  | _ => none }
def fieldCayleyRow : OpenClaim := { program := "ytfljkcmijnhgkaadoor", sum := "7ba168359ae68b2f815e5a1c7b05edb760ce9d0f072cbac52086c40357413753", func := "roundelay/roundelaylaw16.FieldCayley", spec := "fieldCayley", unfollowed := true, recurses := true, named := ["roundelay/field.joins"], apart := false, laid := [("roundelay/field.joins", laid_roundelay_field_joins)] }
def FieldCayleySaid : Prop := fieldCayleyRow.holds Tryd.pinned (OpenSpec.ofChange fieldCayleySpec)

/-- ITS FALSE NEIGHBOUR: 'it returns false'. Refute it at one input. -/
def fieldCayleyWrong : ChangeSpec := { name := "fieldCayley", fn := fun _ => fun
  | [d1, d2, d3, d4] => { results := [.lit (.bool false)], args := [d1, d2, d3, d4] }
  | _ => none }
def FieldCayleyWrongFalsely : Prop := fieldCayleyRow.holds Tryd.pinned (OpenSpec.ofChange fieldCayleyWrong)

/-- 'roundelaylaw16.FieldTogether': WHATEVER THE INPUT: true; the input reads as it did. -/
def fieldTogetherSpec : ChangeSpec := { name := "fieldTogether", fn := fun _ => fun
  | [d1, d2] => { results := [.lit (.bool true)], args := [d1, d2] }
  | _ => none }
def fieldTogetherRow : OpenClaim := { program := "ytfljkcmijnhgkaadoor", sum := "7ba168359ae68b2f815e5a1c7b05edb760ce9d0f072cbac52086c40357413753", func := "roundelay/roundelaylaw16.FieldTogether", spec := "fieldTogether", unfollowed := true, recurses := true, named := ["roundelay/field.joins"], apart := false, laid := [("roundelay/field.joins", laid_roundelay_field_joins)] }
def FieldTogetherSaid : Prop := fieldTogetherRow.holds Tryd.pinned (OpenSpec.ofChange fieldTogetherSpec)

/-- ITS FALSE NEIGHBOUR: 'it returns false'. Refute it at one input. -/
def fieldTogetherWrong : ChangeSpec := { name := "fieldTogether", fn := fun _ => fun
  | [d1, d2] => { results := [.lit (.bool false)], args := [d1, d2] }
  | _ => none }
def FieldTogetherWrongFalsely : Prop := fieldTogetherRow.holds Tryd.pinned (OpenSpec.ofChange fieldTogetherWrong)

/-- 'roundelaylaw16.FieldLeasts': WHATEVER THE INPUT: true; the input reads as it did. -/
def fieldLeastsSpec : ChangeSpec := { name := "fieldLeasts", fn := fun _ => fun
  | [d1, d2] => { results := [.lit (.bool true)], args := [d1, d2] }
  | _ => none }
def fieldLeastsRow : OpenClaim := { program := "ytfljkcmijnhgkaadoor", sum := "7ba168359ae68b2f815e5a1c7b05edb760ce9d0f072cbac52086c40357413753", func := "roundelay/roundelaylaw16.FieldLeasts", spec := "fieldLeasts", unfollowed := true, recurses := true, named := ["roundelay/field.joins"], apart := false, laid := [("roundelay/field.joins", laid_roundelay_field_joins)] }
def FieldLeastsSaid : Prop := fieldLeastsRow.holds Tryd.pinned (OpenSpec.ofChange fieldLeastsSpec)

/-- ITS FALSE NEIGHBOUR: 'it returns false'. Refute it at one input. -/
def fieldLeastsWrong : ChangeSpec := { name := "fieldLeasts", fn := fun _ => fun
  | [d1, d2] => { results := [.lit (.bool false)], args := [d1, d2] }
  | _ => none }
def FieldLeastsWrongFalsely : Prop := fieldLeastsRow.holds Tryd.pinned (OpenSpec.ofChange fieldLeastsWrong)

/-- 'roundelaylaw16.FieldEliminates': WHATEVER THE INPUT: true; the input reads as it did. -/
def fieldEliminatesSpec : ChangeSpec := { name := "fieldEliminates", fn := fun _ => fun
  | [d] => { results := [.lit (.bool true)], args := [d] }
  | _ => none }
def fieldEliminatesRow : OpenClaim := { program := "ytfljkcmijnhgkaadoor", sum := "7ba168359ae68b2f815e5a1c7b05edb760ce9d0f072cbac52086c40357413753", func := "roundelay/roundelaylaw16.FieldEliminates", spec := "fieldEliminates", unfollowed := true, recurses := true, named := ["roundelay/field.joins"], apart := false, laid := [("roundelay/field.joins", laid_roundelay_field_joins)] }
def FieldEliminatesSaid : Prop := fieldEliminatesRow.holds Tryd.pinned (OpenSpec.ofChange fieldEliminatesSpec)

/-- ITS FALSE NEIGHBOUR: 'it returns false'. Refute it at one input. -/
def fieldEliminatesWrong : ChangeSpec := { name := "fieldEliminates", fn := fun _ => fun
  | [d] => { results := [.lit (.bool false)], args := [d] }
  | _ => none }
def FieldEliminatesWrongFalsely : Prop := fieldEliminatesRow.holds Tryd.pinned (OpenSpec.ofChange fieldEliminatesWrong)

/-- 'roundelaylaw16.FieldAgree': WHATEVER THE INPUT: true; the input reads as it did. -/
def fieldAgreeSpec : ChangeSpec := { name := "fieldAgree", fn := fun _ => fun
  | [d1, d2, d3, d4, d5, d6] => { results := [.lit (.bool true)], args := [d1, d2, d3, d4, d5, d6] }
  | _ => none }
def fieldAgreeRow : OpenClaim := { program := "ytfljkcmijnhgkaadoor", sum := "7ba168359ae68b2f815e5a1c7b05edb760ce9d0f072cbac52086c40357413753", func := "roundelay/roundelaylaw16.FieldAgree", spec := "fieldAgree", unfollowed := true, recurses := true, named := ["roundelay/field.joins"], apart := false, laid := [("roundelay/field.joins", laid_roundelay_field_joins)] }
def FieldAgreeSaid : Prop := fieldAgreeRow.holds Tryd.pinned (OpenSpec.ofChange fieldAgreeSpec)

/-- ITS FALSE NEIGHBOUR: 'it returns false'. Refute it at one input. -/
def fieldAgreeWrong : ChangeSpec := { name := "fieldAgree", fn := fun _ => fun
  | [d1, d2, d3, d4, d5, d6] => { results := [.lit (.bool false)], args := [d1, d2, d3, d4, d5, d6] }
  | _ => none }
def FieldAgreeWrongFalsely : Prop := fieldAgreeRow.holds Tryd.pinned (OpenSpec.ofChange fieldAgreeWrong)

/-- 'roundelaylaw16.FieldProducts': WHATEVER THE INPUT: true; the input reads as it did. -/
def fieldProductsSpec : ChangeSpec := { name := "fieldProducts", fn := fun _ => fun
  | [d1, d2, d3] => { results := [.lit (.bool true)], args := [d1, d2, d3] }
  | _ => none }
def fieldProductsRow : OpenClaim := { program := "ytfljkcmijnhgkaadoor", sum := "7ba168359ae68b2f815e5a1c7b05edb760ce9d0f072cbac52086c40357413753", func := "roundelay/roundelaylaw16.FieldProducts", spec := "fieldProducts", unfollowed := true, recurses := true, named := ["roundelay/field.joins"], apart := false, laid := [("roundelay/field.joins", laid_roundelay_field_joins)] }
def FieldProductsSaid : Prop := fieldProductsRow.holds Tryd.pinned (OpenSpec.ofChange fieldProductsSpec)

/-- ITS FALSE NEIGHBOUR: 'it returns false'. Refute it at one input. -/
def fieldProductsWrong : ChangeSpec := { name := "fieldProducts", fn := fun _ => fun
  | [d1, d2, d3] => { results := [.lit (.bool false)], args := [d1, d2, d3] }
  | _ => none }
def FieldProductsWrongFalsely : Prop := fieldProductsRow.holds Tryd.pinned (OpenSpec.ofChange fieldProductsWrong)

/-- 'roundelaylaw16.FieldNumbers': WHATEVER THE INPUT: true; the input reads as it did. -/
def fieldNumbersSpec : ChangeSpec := { name := "fieldNumbers", fn := fun _ => fun
  | [d1, d2] => { results := [.lit (.bool true)], args := [d1, d2] }
  | _ => none }
def fieldNumbersRow : OpenClaim := { program := "ytfljkcmijnhgkaadoor", sum := "7ba168359ae68b2f815e5a1c7b05edb760ce9d0f072cbac52086c40357413753", func := "roundelay/roundelaylaw16.FieldNumbers", spec := "fieldNumbers", unfollowed := true, recurses := true, named := ["roundelay/field.joins"], apart := false, laid := [("roundelay/field.joins", laid_roundelay_field_joins)] }
def FieldNumbersSaid : Prop := fieldNumbersRow.holds Tryd.pinned (OpenSpec.ofChange fieldNumbersSpec)

/-- ITS FALSE NEIGHBOUR: 'it returns false'. Refute it at one input. -/
def fieldNumbersWrong : ChangeSpec := { name := "fieldNumbers", fn := fun _ => fun
  | [d1, d2] => { results := [.lit (.bool false)], args := [d1, d2] }
  | _ => none }
def FieldNumbersWrongFalsely : Prop := fieldNumbersRow.holds Tryd.pinned (OpenSpec.ofChange fieldNumbersWrong)

/-- 'roundelaylaw16.FieldRoads': WHATEVER THE INPUT: true; the input reads as it did. -/
def fieldRoadsSpec : ChangeSpec := { name := "fieldRoads", fn := fun _ => fun
  | [d1, d2, d3, d4] => { results := [.lit (.bool true)], args := [d1, d2, d3, d4] }
  | _ => none }
def fieldRoadsRow : OpenClaim := { program := "ytfljkcmijnhgkaadoor", sum := "7ba168359ae68b2f815e5a1c7b05edb760ce9d0f072cbac52086c40357413753", func := "roundelay/roundelaylaw16.FieldRoads", spec := "fieldRoads", unfollowed := true, recurses := true, named := ["roundelay/field.joins"], apart := false, laid := [("roundelay/field.joins", laid_roundelay_field_joins)] }
def FieldRoadsSaid : Prop := fieldRoadsRow.holds Tryd.pinned (OpenSpec.ofChange fieldRoadsSpec)

/-- ITS FALSE NEIGHBOUR: 'it returns false'. Refute it at one input. -/
def fieldRoadsWrong : ChangeSpec := { name := "fieldRoads", fn := fun _ => fun
  | [d1, d2, d3, d4] => { results := [.lit (.bool false)], args := [d1, d2, d3, d4] }
  | _ => none }
def FieldRoadsWrongFalsely : Prop := fieldRoadsRow.holds Tryd.pinned (OpenSpec.ofChange fieldRoadsWrong)

/-- 'roundelaylaw16.FieldInverse': WHATEVER THE INPUT: true; the input reads as it did. -/
def fieldInverseSpec : ChangeSpec := { name := "fieldInverse", fn := fun _ => fun
  | [d1, d2, d3] => { results := [.lit (.bool true)], args := [d1, d2, d3] }
  | _ => none }
def fieldInverseRow : OpenClaim := { program := "ytfljkcmijnhgkaadoor", sum := "7ba168359ae68b2f815e5a1c7b05edb760ce9d0f072cbac52086c40357413753", func := "roundelay/roundelaylaw16.FieldInverse", spec := "fieldInverse", unfollowed := true, recurses := true, named := ["roundelay/field.joins"], apart := false, laid := [("roundelay/field.joins", laid_roundelay_field_joins)] }
def FieldInverseSaid : Prop := fieldInverseRow.holds Tryd.pinned (OpenSpec.ofChange fieldInverseSpec)

/-- ITS FALSE NEIGHBOUR: 'it returns false'. Refute it at one input. -/
def fieldInverseWrong : ChangeSpec := { name := "fieldInverse", fn := fun _ => fun
  | [d1, d2, d3] => { results := [.lit (.bool false)], args := [d1, d2, d3] }
  | _ => none }
def FieldInverseWrongFalsely : Prop := fieldInverseRow.holds Tryd.pinned (OpenSpec.ofChange fieldInverseWrong)

/-- 'roundelaylaw16.FieldTerms': WHATEVER THE INPUT: true; the input reads as it did. -/
def fieldTermsSpec : ChangeSpec := { name := "fieldTerms", fn := fun _ => fun
  | [d1, d2, d3] => { results := [.lit (.bool true)], args := [d1, d2, d3] }
  | _ => none }
def fieldTermsRow : OpenClaim := { program := "ytfljkcmijnhgkaadoor", sum := "7ba168359ae68b2f815e5a1c7b05edb760ce9d0f072cbac52086c40357413753", func := "roundelay/roundelaylaw16.FieldTerms", spec := "fieldTerms", unfollowed := true, recurses := true, named := ["roundelay/field.joins"], apart := false, laid := [("roundelay/field.joins", laid_roundelay_field_joins)] }
def FieldTermsSaid : Prop := fieldTermsRow.holds Tryd.pinned (OpenSpec.ofChange fieldTermsSpec)

/-- ITS FALSE NEIGHBOUR: 'it returns false'. Refute it at one input. -/
def fieldTermsWrong : ChangeSpec := { name := "fieldTerms", fn := fun _ => fun
  | [d1, d2, d3] => { results := [.lit (.bool false)], args := [d1, d2, d3] }
  | _ => none }
def FieldTermsWrongFalsely : Prop := fieldTermsRow.holds Tryd.pinned (OpenSpec.ofChange fieldTermsWrong)

/-- 'roundelaylaw16.FieldShort': WHATEVER THE INPUT: true; the input reads as it did. -/
def fieldShortSpec : ChangeSpec := { name := "fieldShort", fn := fun _ => fun
  | [d1, d2, d3, d4, d5] => { results := [.lit (.bool true)], args := [d1, d2, d3, d4, d5] }
  | _ => none }
def fieldShortRow : OpenClaim := { program := "ytfljkcmijnhgkaadoor", sum := "7ba168359ae68b2f815e5a1c7b05edb760ce9d0f072cbac52086c40357413753", func := "roundelay/roundelaylaw16.FieldShort", spec := "fieldShort", unfollowed := true, recurses := true, named := ["roundelay/field.joins"], apart := false, laid := [("roundelay/field.joins", laid_roundelay_field_joins)] }
def FieldShortSaid : Prop := fieldShortRow.holds Tryd.pinned (OpenSpec.ofChange fieldShortSpec)

/-- ITS FALSE NEIGHBOUR: 'it returns false'. Refute it at one input. -/
def fieldShortWrong : ChangeSpec := { name := "fieldShort", fn := fun _ => fun
  | [d1, d2, d3, d4, d5] => { results := [.lit (.bool false)], args := [d1, d2, d3, d4, d5] }
  | _ => none }
def FieldShortWrongFalsely : Prop := fieldShortRow.holds Tryd.pinned (OpenSpec.ofChange fieldShortWrong)

/-- 'roundelaylaw16.FieldSolved': WHATEVER THE INPUT: true; the input reads as it did. -/
def fieldSolvedSpec : ChangeSpec := { name := "fieldSolved", fn := fun _ => fun
  | [d1, d2, d3, d4, d5] => { results := [.lit (.bool true)], args := [d1, d2, d3, d4, d5] }
  | _ => none }
def fieldSolvedRow : OpenClaim := { program := "ytfljkcmijnhgkaadoor", sum := "7ba168359ae68b2f815e5a1c7b05edb760ce9d0f072cbac52086c40357413753", func := "roundelay/roundelaylaw16.FieldSolved", spec := "fieldSolved", unfollowed := true, recurses := true, named := ["roundelay/field.joins"], apart := false, laid := [("roundelay/field.joins", laid_roundelay_field_joins)] }
def FieldSolvedSaid : Prop := fieldSolvedRow.holds Tryd.pinned (OpenSpec.ofChange fieldSolvedSpec)

/-- ITS FALSE NEIGHBOUR: 'it returns false'. Refute it at one input. -/
def fieldSolvedWrong : ChangeSpec := { name := "fieldSolved", fn := fun _ => fun
  | [d1, d2, d3, d4, d5] => { results := [.lit (.bool false)], args := [d1, d2, d3, d4, d5] }
  | _ => none }
def FieldSolvedWrongFalsely : Prop := fieldSolvedRow.holds Tryd.pinned (OpenSpec.ofChange fieldSolvedWrong)

/-- 'roundelaylaw16.FieldSmall': WHATEVER THE INPUT: true; the input reads as it did. -/
def fieldSmallSpec : ChangeSpec := { name := "fieldSmall", fn := fun _ => fun
  | [] => { results := [.lit (.bool true)], args := [] }
  | _ => none }
def fieldSmallRow : OpenClaim := { program := "ytfljkcmijnhgkaadoor", sum := "7ba168359ae68b2f815e5a1c7b05edb760ce9d0f072cbac52086c40357413753", func := "roundelay/roundelaylaw16.FieldSmall", spec := "fieldSmall", unfollowed := true, recurses := true, named := ["roundelay/field.joins"], apart := false, laid := [("roundelay/field.joins", laid_roundelay_field_joins)] }
def FieldSmallSaid : Prop := fieldSmallRow.holds Tryd.pinned (OpenSpec.ofChange fieldSmallSpec)

/-- ITS FALSE NEIGHBOUR: 'it returns false'. Refute it at one input. -/
def fieldSmallWrong : ChangeSpec := { name := "fieldSmall", fn := fun _ => fun
  | [] => { results := [.lit (.bool false)], args := [] }
  | _ => none }
def FieldSmallWrongFalsely : Prop := fieldSmallRow.holds Tryd.pinned (OpenSpec.ofChange fieldSmallWrong)

/- THE SECOND FORM. 'bulk': how many values and letters a reading holds, each counted each time it is reached (what is shared counts as often as it is met; a slice's spare places count too). A statement '..UptoSaid' is the law's where the arguments, and the package variables that the reading takes, are together of bulk at most 1048576: NARROWER than '..Said'. Prove '..Said' where nothing that the law and all that it calls make is longer than what came in: it says more and counts as full. Else prove '..UptoSaid'. A law counts once. -/
mutual
def uptoBulk {H : Type} : DataW H → Nat
  | .lit (.string bytes) => bytes.length + 1
  | .lit _ => 1
  | .nil => 1
  | .ptr d => uptoBulk d + 1
  | .slice elems spare => uptoBulkAll elems + uptoBulkAll spare + 1
  | .agg parts => uptoBulkAll parts + 1
  | .iface _ d => uptoBulk d + 1
  | .map entries => uptoBulkEntries entries + 1
  | .held _ => 1
def uptoBulkAll {H : Type} : List (DataW H) → Nat
  | [] => 0
  | d :: r => uptoBulk d + uptoBulkAll r
def uptoBulkEntries {H : Type} : List (Lit × DataW H) → Nat
  | [] => 0
  | x :: r => uptoBulkEntry x + uptoBulkEntries r
def uptoBulkEntry {H : Type} : Lit × DataW H → Nat
  | (.string bytes, d) => bytes.length + uptoBulk d + 1
  | (_, d) => uptoBulk d + 1
 end
def uptoSmall : (H : Type) → List (DataW H) → Bool := fun _ ds => decide (uptoBulkAll ds ≤ 1048576)
def OpenSpec.upto (s : _root_.Go.ChangeSpec) : _root_.Go.OpenSpec := { _root_.Go.OpenSpec.ofChange s with cond := some uptoSmall }

/-- 'roundelaylaw16.FieldSolves', WHERE WHAT IT READS IS OF BULK AT MOST 1048576: true; the input reads as it did. -/
def fieldSolvesUptoRow : OpenClaim := { program := "ytfljkcmijnhgkaadoor", sum := "7ba168359ae68b2f815e5a1c7b05edb760ce9d0f072cbac52086c40357413753", func := "roundelay/roundelaylaw16.FieldSolves", spec := "fieldSolves", unfollowed := true, recurses := true, named := ["roundelay/field.joins"], apart := false, laid := [("roundelay/field.joins", laid_roundelay_field_joins)], narrowed := true }
def FieldSolvesUptoSaid : Prop := fieldSolvesUptoRow.holds Tryd.pinned (OpenSpec.upto fieldSolvesSpec)

/-- 'roundelaylaw16.FieldCayley', WHERE WHAT IT READS IS OF BULK AT MOST 1048576: true; the input reads as it did. -/
def fieldCayleyUptoRow : OpenClaim := { program := "ytfljkcmijnhgkaadoor", sum := "7ba168359ae68b2f815e5a1c7b05edb760ce9d0f072cbac52086c40357413753", func := "roundelay/roundelaylaw16.FieldCayley", spec := "fieldCayley", unfollowed := true, recurses := true, named := ["roundelay/field.joins"], apart := false, laid := [("roundelay/field.joins", laid_roundelay_field_joins)], narrowed := true }
def FieldCayleyUptoSaid : Prop := fieldCayleyUptoRow.holds Tryd.pinned (OpenSpec.upto fieldCayleySpec)

/-- 'roundelaylaw16.FieldTogether', WHERE WHAT IT READS IS OF BULK AT MOST 1048576: true; the input reads as it did. -/
def fieldTogetherUptoRow : OpenClaim := { program := "ytfljkcmijnhgkaadoor", sum := "7ba168359ae68b2f815e5a1c7b05edb760ce9d0f072cbac52086c40357413753", func := "roundelay/roundelaylaw16.FieldTogether", spec := "fieldTogether", unfollowed := true, recurses := true, named := ["roundelay/field.joins"], apart := false, laid := [("roundelay/field.joins", laid_roundelay_field_joins)], narrowed := true }
def FieldTogetherUptoSaid : Prop := fieldTogetherUptoRow.holds Tryd.pinned (OpenSpec.upto fieldTogetherSpec)

/-- 'roundelaylaw16.FieldLeasts', WHERE WHAT IT READS IS OF BULK AT MOST 1048576: true; the input reads as it did. -/
def fieldLeastsUptoRow : OpenClaim := { program := "ytfljkcmijnhgkaadoor", sum := "7ba168359ae68b2f815e5a1c7b05edb760ce9d0f072cbac52086c40357413753", func := "roundelay/roundelaylaw16.FieldLeasts", spec := "fieldLeasts", unfollowed := true, recurses := true, named := ["roundelay/field.joins"], apart := false, laid := [("roundelay/field.joins", laid_roundelay_field_joins)], narrowed := true }
def FieldLeastsUptoSaid : Prop := fieldLeastsUptoRow.holds Tryd.pinned (OpenSpec.upto fieldLeastsSpec)

/-- 'roundelaylaw16.FieldEliminates', WHERE WHAT IT READS IS OF BULK AT MOST 1048576: true; the input reads as it did. -/
def fieldEliminatesUptoRow : OpenClaim := { program := "ytfljkcmijnhgkaadoor", sum := "7ba168359ae68b2f815e5a1c7b05edb760ce9d0f072cbac52086c40357413753", func := "roundelay/roundelaylaw16.FieldEliminates", spec := "fieldEliminates", unfollowed := true, recurses := true, named := ["roundelay/field.joins"], apart := false, laid := [("roundelay/field.joins", laid_roundelay_field_joins)], narrowed := true }
def FieldEliminatesUptoSaid : Prop := fieldEliminatesUptoRow.holds Tryd.pinned (OpenSpec.upto fieldEliminatesSpec)

/-- 'roundelaylaw16.FieldAgree', WHERE WHAT IT READS IS OF BULK AT MOST 1048576: true; the input reads as it did. -/
def fieldAgreeUptoRow : OpenClaim := { program := "ytfljkcmijnhgkaadoor", sum := "7ba168359ae68b2f815e5a1c7b05edb760ce9d0f072cbac52086c40357413753", func := "roundelay/roundelaylaw16.FieldAgree", spec := "fieldAgree", unfollowed := true, recurses := true, named := ["roundelay/field.joins"], apart := false, laid := [("roundelay/field.joins", laid_roundelay_field_joins)], narrowed := true }
def FieldAgreeUptoSaid : Prop := fieldAgreeUptoRow.holds Tryd.pinned (OpenSpec.upto fieldAgreeSpec)

/-- 'roundelaylaw16.FieldProducts', WHERE WHAT IT READS IS OF BULK AT MOST 1048576: true; the input reads as it did. -/
def fieldProductsUptoRow : OpenClaim := { program := "ytfljkcmijnhgkaadoor", sum := "7ba168359ae68b2f815e5a1c7b05edb760ce9d0f072cbac52086c40357413753", func := "roundelay/roundelaylaw16.FieldProducts", spec := "fieldProducts", unfollowed := true, recurses := true, named := ["roundelay/field.joins"], apart := false, laid := [("roundelay/field.joins", laid_roundelay_field_joins)], narrowed := true }
def FieldProductsUptoSaid : Prop := fieldProductsUptoRow.holds Tryd.pinned (OpenSpec.upto fieldProductsSpec)

/-- 'roundelaylaw16.FieldNumbers', WHERE WHAT IT READS IS OF BULK AT MOST 1048576: true; the input reads as it did. -/
def fieldNumbersUptoRow : OpenClaim := { program := "ytfljkcmijnhgkaadoor", sum := "7ba168359ae68b2f815e5a1c7b05edb760ce9d0f072cbac52086c40357413753", func := "roundelay/roundelaylaw16.FieldNumbers", spec := "fieldNumbers", unfollowed := true, recurses := true, named := ["roundelay/field.joins"], apart := false, laid := [("roundelay/field.joins", laid_roundelay_field_joins)], narrowed := true }
def FieldNumbersUptoSaid : Prop := fieldNumbersUptoRow.holds Tryd.pinned (OpenSpec.upto fieldNumbersSpec)

/-- 'roundelaylaw16.FieldRoads', WHERE WHAT IT READS IS OF BULK AT MOST 1048576: true; the input reads as it did. -/
def fieldRoadsUptoRow : OpenClaim := { program := "ytfljkcmijnhgkaadoor", sum := "7ba168359ae68b2f815e5a1c7b05edb760ce9d0f072cbac52086c40357413753", func := "roundelay/roundelaylaw16.FieldRoads", spec := "fieldRoads", unfollowed := true, recurses := true, named := ["roundelay/field.joins"], apart := false, laid := [("roundelay/field.joins", laid_roundelay_field_joins)], narrowed := true }
def FieldRoadsUptoSaid : Prop := fieldRoadsUptoRow.holds Tryd.pinned (OpenSpec.upto fieldRoadsSpec)

/-- 'roundelaylaw16.FieldInverse', WHERE WHAT IT READS IS OF BULK AT MOST 1048576: true; the input reads as it did. -/
def fieldInverseUptoRow : OpenClaim := { program := "ytfljkcmijnhgkaadoor", sum := "7ba168359ae68b2f815e5a1c7b05edb760ce9d0f072cbac52086c40357413753", func := "roundelay/roundelaylaw16.FieldInverse", spec := "fieldInverse", unfollowed := true, recurses := true, named := ["roundelay/field.joins"], apart := false, laid := [("roundelay/field.joins", laid_roundelay_field_joins)], narrowed := true }
def FieldInverseUptoSaid : Prop := fieldInverseUptoRow.holds Tryd.pinned (OpenSpec.upto fieldInverseSpec)

/-- 'roundelaylaw16.FieldTerms', WHERE WHAT IT READS IS OF BULK AT MOST 1048576: true; the input reads as it did. -/
def fieldTermsUptoRow : OpenClaim := { program := "ytfljkcmijnhgkaadoor", sum := "7ba168359ae68b2f815e5a1c7b05edb760ce9d0f072cbac52086c40357413753", func := "roundelay/roundelaylaw16.FieldTerms", spec := "fieldTerms", unfollowed := true, recurses := true, named := ["roundelay/field.joins"], apart := false, laid := [("roundelay/field.joins", laid_roundelay_field_joins)], narrowed := true }
def FieldTermsUptoSaid : Prop := fieldTermsUptoRow.holds Tryd.pinned (OpenSpec.upto fieldTermsSpec)

/-- 'roundelaylaw16.FieldShort', WHERE WHAT IT READS IS OF BULK AT MOST 1048576: true; the input reads as it did. -/
def fieldShortUptoRow : OpenClaim := { program := "ytfljkcmijnhgkaadoor", sum := "7ba168359ae68b2f815e5a1c7b05edb760ce9d0f072cbac52086c40357413753", func := "roundelay/roundelaylaw16.FieldShort", spec := "fieldShort", unfollowed := true, recurses := true, named := ["roundelay/field.joins"], apart := false, laid := [("roundelay/field.joins", laid_roundelay_field_joins)], narrowed := true }
def FieldShortUptoSaid : Prop := fieldShortUptoRow.holds Tryd.pinned (OpenSpec.upto fieldShortSpec)

/-- 'roundelaylaw16.FieldSolved', WHERE WHAT IT READS IS OF BULK AT MOST 1048576: true; the input reads as it did. -/
def fieldSolvedUptoRow : OpenClaim := { program := "ytfljkcmijnhgkaadoor", sum := "7ba168359ae68b2f815e5a1c7b05edb760ce9d0f072cbac52086c40357413753", func := "roundelay/roundelaylaw16.FieldSolved", spec := "fieldSolved", unfollowed := true, recurses := true, named := ["roundelay/field.joins"], apart := false, laid := [("roundelay/field.joins", laid_roundelay_field_joins)], narrowed := true }
def FieldSolvedUptoSaid : Prop := fieldSolvedUptoRow.holds Tryd.pinned (OpenSpec.upto fieldSolvedSpec)

/-- 'roundelaylaw16.FieldSmall', WHERE WHAT IT READS IS OF BULK AT MOST 1048576: true; the input reads as it did. -/
def fieldSmallUptoRow : OpenClaim := { program := "ytfljkcmijnhgkaadoor", sum := "7ba168359ae68b2f815e5a1c7b05edb760ce9d0f072cbac52086c40357413753", func := "roundelay/roundelaylaw16.FieldSmall", spec := "fieldSmall", unfollowed := true, recurses := true, named := ["roundelay/field.joins"], apart := false, laid := [("roundelay/field.joins", laid_roundelay_field_joins)], narrowed := true }
def FieldSmallUptoSaid : Prop := fieldSmallUptoRow.holds Tryd.pinned (OpenSpec.upto fieldSmallSpec)

end Rows
end Go.Proofs.YtfljkcmijnhgkaaDoor
