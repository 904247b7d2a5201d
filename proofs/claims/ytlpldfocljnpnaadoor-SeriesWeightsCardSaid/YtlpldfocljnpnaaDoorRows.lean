/-
  NARROWER THAN 'FOR EVERY INPUT', by the rows' own cells (each row's printed sentence says how): SeriesLeasts: laid · SeriesWeights: laid · SeriesApart: laid · SeriesCut: laid · SeriesLinear: laid.
  DERIVED. THE GIVEN ROWS OF THIS SEAT. 5 by the template 'for every input the law returns true; each argument reads behind the call as it read before'; 0 by the template 'total and deterministic' (their statements: YtlpldfocljnpnaaDoorTotals.lean).
  GIVEN WITH THE SEED: the statements are not yours to turn. If you find one false, say at which input.
  Laid BY PROGRAM, IN A SANDBOX (cutbox-rows.mjs): the forced cells as the released guide's own fill.sh prints them over the translation 7c8243cb82828fd0… (all of the seat's roots in one cut). By AI agents, Wed Nov 11 2026. No macro, syntax, notation, axiom, sorry.
-/
import Derived.Test.YtlpldfocljnpnaaDoorChecked
import GoSem.Claim
import GoSem.ClaimJoined
import GoSem.ClaimMapViews
import Derived.JoinedTies
import Derived.KernelRfl
namespace Go.Proofs.YtlpldfocljnpnaaDoor
/- THE CELL 'sum', in the pinned program and in every row, IS THE sha256 OF THE DUMP (.gsa) THAT YtlpldfocljnpnaaDoorProg.lean LOADS. Nothing in Lean hashes anything: it is a label: what it is worth is what the hold of that sum in a sandbox is worth. -/
noncomputable def Tryd.pinned : Pinned := { name := "ytlpldfocljnpnaadoor", sum := "7c8243cb82828fd0bc1ef5166b0831c57c8815a35486e70a8cf4ac1f19791574", checked := Tryd.checked }
namespace Rows
def none {H : Type} : Left H := { results := [], args := [] }

/- WHAT THE LISTED PACKAGE-LEVEL VARIABLES READ AS WHEN THE CALL BEGINS. Each datum BY PROGRAM (the guide's laid-datum.mjs) off the statement by which the dump's own 'gosem.cut.vars' lays the variable. In a bare row this is a premise. The card (YtlpldfocljnpnaaDoorCards.lean) ties it to the program's text. -/
def laid_roundelay_series_ways {H : Type} : DataW H := .iface "func table" (.map [(.string [98, 111, 116, 104], .agg [.iface "func" (.lit (.string [114, 111, 117, 110, 100, 101, 108, 97, 121, 47, 115, 101, 114, 105, 101, 115, 46, 116, 105, 109, 101, 115]))]), (.string [112, 114, 111, 100, 117, 99, 116], .agg [.iface "func" (.lit (.string [114, 111, 117, 110, 100, 101, 108, 97, 121, 47, 115, 101, 114, 105, 101, 115, 46, 97, 102, 116, 101, 114]))]), (.string [115, 117, 109], .agg [.iface "func" (.lit (.string [114, 111, 117, 110, 100, 101, 108, 97, 121, 47, 115, 101, 114, 105, 101, 115, 46, 98, 101, 115, 105, 100, 101]))])])

/-- 'roundelaylaw17.SeriesLeasts': WHATEVER THE INPUT: true; the input reads as it did. -/
def seriesLeastsSpec : ChangeSpec := { name := "seriesLeasts", fn := fun _ => fun
  | [d] => { results := [.lit (.bool true)], args := [d] }
  | _ => none }
def seriesLeastsRow : OpenClaim := { program := "ytlpldfocljnpnaadoor", sum := "7c8243cb82828fd0bc1ef5166b0831c57c8815a35486e70a8cf4ac1f19791574", func := "roundelay/roundelaylaw17.SeriesLeasts", spec := "seriesLeasts", unfollowed := true, recurses := true, named := ["roundelay/series.ways"], apart := false, laid := [("roundelay/series.ways", laid_roundelay_series_ways)] }
def SeriesLeastsSaid : Prop := seriesLeastsRow.holds Tryd.pinned (OpenSpec.ofChange seriesLeastsSpec)

/-- ITS FALSE NEIGHBOUR: 'it returns false'. Refute it at one input. -/
def seriesLeastsWrong : ChangeSpec := { name := "seriesLeasts", fn := fun _ => fun
  | [d] => { results := [.lit (.bool false)], args := [d] }
  | _ => none }
def SeriesLeastsWrongFalsely : Prop := seriesLeastsRow.holds Tryd.pinned (OpenSpec.ofChange seriesLeastsWrong)

/-- 'roundelaylaw17.SeriesWeights': WHATEVER THE INPUT: true; the input reads as it did. -/
def seriesWeightsSpec : ChangeSpec := { name := "seriesWeights", fn := fun _ => fun
  | [d1, d2] => { results := [.lit (.bool true)], args := [d1, d2] }
  | _ => none }
def seriesWeightsRow : OpenClaim := { program := "ytlpldfocljnpnaadoor", sum := "7c8243cb82828fd0bc1ef5166b0831c57c8815a35486e70a8cf4ac1f19791574", func := "roundelay/roundelaylaw17.SeriesWeights", spec := "seriesWeights", unfollowed := true, recurses := true, named := ["roundelay/series.ways"], apart := false, laid := [("roundelay/series.ways", laid_roundelay_series_ways)] }
def SeriesWeightsSaid : Prop := seriesWeightsRow.holds Tryd.pinned (OpenSpec.ofChange seriesWeightsSpec)

/-- ITS FALSE NEIGHBOUR: 'it returns false'. Refute it at one input. -/
def seriesWeightsWrong : ChangeSpec := { name := "seriesWeights", fn := fun _ => fun
  | [d1, d2] => { results := [.lit (.bool false)], args := [d1, d2] }
  | _ => none }
def SeriesWeightsWrongFalsely : Prop := seriesWeightsRow.holds Tryd.pinned (OpenSpec.ofChange seriesWeightsWrong)

/-- 'roundelaylaw17.SeriesApart': WHATEVER THE INPUT: true; the input reads as it did. -/
def seriesApartSpec : ChangeSpec := { name := "seriesApart", fn := fun _ => fun
  | [d1, d2] => { results := [.lit (.bool true)], args := [d1, d2] }
  | _ => none }
def seriesApartRow : OpenClaim := { program := "ytlpldfocljnpnaadoor", sum := "7c8243cb82828fd0bc1ef5166b0831c57c8815a35486e70a8cf4ac1f19791574", func := "roundelay/roundelaylaw17.SeriesApart", spec := "seriesApart", unfollowed := true, recurses := true, named := ["roundelay/series.ways"], apart := false, laid := [("roundelay/series.ways", laid_roundelay_series_ways)] }
def SeriesApartSaid : Prop := seriesApartRow.holds Tryd.pinned (OpenSpec.ofChange seriesApartSpec)

/-- ITS FALSE NEIGHBOUR: 'it returns false'. Refute it at one input. -/
def seriesApartWrong : ChangeSpec := { name := "seriesApart", fn := fun _ => fun
  | [d1, d2] => { results := [.lit (.bool false)], args := [d1, d2] }
  | _ => none }
def SeriesApartWrongFalsely : Prop := seriesApartRow.holds Tryd.pinned (OpenSpec.ofChange seriesApartWrong)

/-- 'roundelaylaw17.SeriesCut': WHATEVER THE INPUT: true; the input reads as it did. -/
def seriesCutSpec : ChangeSpec := { name := "seriesCut", fn := fun _ => fun
  | [d1, d2, d3, d4] => { results := [.lit (.bool true)], args := [d1, d2, d3, d4] }
  | _ => none }
def seriesCutRow : OpenClaim := { program := "ytlpldfocljnpnaadoor", sum := "7c8243cb82828fd0bc1ef5166b0831c57c8815a35486e70a8cf4ac1f19791574", func := "roundelay/roundelaylaw17.SeriesCut", spec := "seriesCut", unfollowed := true, recurses := true, named := ["roundelay/series.ways"], apart := false, laid := [("roundelay/series.ways", laid_roundelay_series_ways)] }
def SeriesCutSaid : Prop := seriesCutRow.holds Tryd.pinned (OpenSpec.ofChange seriesCutSpec)

/-- ITS FALSE NEIGHBOUR: 'it returns false'. Refute it at one input. -/
def seriesCutWrong : ChangeSpec := { name := "seriesCut", fn := fun _ => fun
  | [d1, d2, d3, d4] => { results := [.lit (.bool false)], args := [d1, d2, d3, d4] }
  | _ => none }
def SeriesCutWrongFalsely : Prop := seriesCutRow.holds Tryd.pinned (OpenSpec.ofChange seriesCutWrong)

/-- 'roundelaylaw17.SeriesLinear': WHATEVER THE INPUT: true; the input reads as it did. -/
def seriesLinearSpec : ChangeSpec := { name := "seriesLinear", fn := fun _ => fun
  | [d1, d2, d3, d4, d5] => { results := [.lit (.bool true)], args := [d1, d2, d3, d4, d5] }
  | _ => none }
def seriesLinearRow : OpenClaim := { program := "ytlpldfocljnpnaadoor", sum := "7c8243cb82828fd0bc1ef5166b0831c57c8815a35486e70a8cf4ac1f19791574", func := "roundelay/roundelaylaw17.SeriesLinear", spec := "seriesLinear", unfollowed := true, recurses := true, named := ["roundelay/series.ways"], apart := false, laid := [("roundelay/series.ways", laid_roundelay_series_ways)] }
def SeriesLinearSaid : Prop := seriesLinearRow.holds Tryd.pinned (OpenSpec.ofChange seriesLinearSpec)

/-- ITS FALSE NEIGHBOUR: 'it returns false'. Refute it at one input. -/
def seriesLinearWrong : ChangeSpec := { name := "seriesLinear", fn := fun _ => fun
  | [d1, d2, d3, d4, d5] => { results := [.lit (.bool false)], args := [d1, d2, d3, d4, d5] }
  | _ => none }
def SeriesLinearWrongFalsely : Prop := seriesLinearRow.holds Tryd.pinned (OpenSpec.ofChange seriesLinearWrong)

/- THE SECOND FORM. 'bulk': how many values and letters a reading holds, each counted each time it is reached (what is shared counts as often as it is met; a slice's spare places count too). A statement '..UptoSaid' is the law's where the arguments, and the package variables that the reading takes, are together of bulk at most 1048576: NARROWER than '..Said'. Prove '..Said' where nothing that the law and all that it calls make is longer than what came in: it says more and counts as full. Else prove '..UptoSaid'. A law counts once. -/
mutual
def uptoBulk {H : Type} : DataW H → Nat
  | .lit (.string bytes) => bytes.length + 1
  | .lit _ => 1
  | .nil => 1
  | .ptr d => uptoBulk d + 1
  | .slice elems spare => uptoBulkAll elems + uptoBulkAll spare + 1
  | .agg parts => uptoBulkAll parts + 1
  | .iface _ d => uptoBulk d + 1
  | .map entries => uptoBulkEntries entries + 1
  | .held _ => 1
def uptoBulkAll {H : Type} : List (DataW H) → Nat
  | [] => 0
  | d :: r => uptoBulk d + uptoBulkAll r
def uptoBulkEntries {H : Type} : List (Lit × DataW H) → Nat
  | [] => 0
  | x :: r => uptoBulkEntry x + uptoBulkEntries r
def uptoBulkEntry {H : Type} : Lit × DataW H → Nat
  | (.string bytes, d) => bytes.length + uptoBulk d + 1
  | (_, d) => uptoBulk d + 1
 end
def uptoSmall : (H : Type) → List (DataW H) → Bool := fun _ ds => decide (uptoBulkAll ds ≤ 1048576)
def OpenSpec.upto (s : _root_.Go.ChangeSpec) : _root_.Go.OpenSpec := { _root_.Go.OpenSpec.ofChange s with cond := some uptoSmall }

/-- 'roundelaylaw17.SeriesLeasts', WHERE WHAT IT READS IS OF BULK AT MOST 1048576: true; the input reads as it did. -/
def seriesLeastsUptoRow : OpenClaim := { program := "ytlpldfocljnpnaadoor", sum := "7c8243cb82828fd0bc1ef5166b0831c57c8815a35486e70a8cf4ac1f19791574", func := "roundelay/roundelaylaw17.SeriesLeasts", spec := "seriesLeasts", unfollowed := true, recurses := true, named := ["roundelay/series.ways"], apart := false, laid := [("roundelay/series.ways", laid_roundelay_series_ways)], narrowed := true }
def SeriesLeastsUptoSaid : Prop := seriesLeastsUptoRow.holds Tryd.pinned (OpenSpec.upto seriesLeastsSpec)

/-- 'roundelaylaw17.SeriesWeights', WHERE WHAT IT READS IS OF BULK AT MOST 1048576: true; the input reads as it did. -/
def seriesWeightsUptoRow : OpenClaim := { program := "ytlpldfocljnpnaadoor", sum := "7c8243cb82828fd0bc1ef5166b0831c57c8815a35486e70a8cf4ac1f19791574", func := "roundelay/roundelaylaw17.SeriesWeights", spec := "seriesWeights", unfollowed := true, recurses := true, named := ["roundelay/series.ways"], apart := false, laid := [("roundelay/series.ways", laid_roundelay_series_ways)], narrowed := true }
def SeriesWeightsUptoSaid : Prop := seriesWeightsUptoRow.holds Tryd.pinned (OpenSpec.upto seriesWeightsSpec)

/-- 'roundelaylaw17.SeriesApart', WHERE WHAT IT READS IS OF BULK AT MOST 1048576: true; the input reads as it did. -/
def seriesApartUptoRow : OpenClaim := { program := "ytlpldfocljnpnaadoor", sum := "7c8243cb82828fd0bc1ef5166b0831c57c8815a35486e70a8cf4ac1f19791574", func := "roundelay/roundelaylaw17.SeriesApart", spec := "seriesApart", unfollowed := true, recurses := true, named := ["roundelay/series.ways"], apart := false, laid := [("roundelay/series.ways", laid_roundelay_series_ways)], narrowed := true }
def SeriesApartUptoSaid : Prop := seriesApartUptoRow.holds Tryd.pinned (OpenSpec.upto seriesApartSpec)

/-- 'roundelaylaw17.SeriesCut', WHERE WHAT IT READS IS OF BULK AT MOST 1048576: true; the input reads as it did. -/
def seriesCutUptoRow : OpenClaim := { program := "ytlpldfocljnpnaadoor", sum := "7c8243cb82828fd0bc1ef5166b0831c57c8815a35486e70a8cf4ac1f19791574", func := "roundelay/roundelaylaw17.SeriesCut", spec := "seriesCut", unfollowed := true, recurses := true, named := ["roundelay/series.ways"], apart := false, laid := [("roundelay/series.ways", laid_roundelay_series_ways)], narrowed := true }
def SeriesCutUptoSaid : Prop := seriesCutUptoRow.holds Tryd.pinned (OpenSpec.upto seriesCutSpec)

/-- 'roundelaylaw17.SeriesLinear', WHERE WHAT IT READS IS OF BULK AT MOST 1048576: true; the input reads as it did. -/
def seriesLinearUptoRow : OpenClaim := { program := "ytlpldfocljnpnaadoor", sum := "7c8243cb82828fd0bc1ef5166b0831c57c8815a35486e70a8cf4ac1f19791574", func := "roundelay/roundelaylaw17.SeriesLinear", spec := "seriesLinear", unfollowed := true, recurses := true, named := ["roundelay/series.ways"], apart := false, laid := [("roundelay/series.ways", laid_roundelay_series_ways)], narrowed := true }
def SeriesLinearUptoSaid : Prop := seriesLinearUptoRow.holds Tryd.pinned (OpenSpec.upto seriesLinearSpec)

end Rows
end Go.Proofs.YtlpldfocljnpnaaDoor
