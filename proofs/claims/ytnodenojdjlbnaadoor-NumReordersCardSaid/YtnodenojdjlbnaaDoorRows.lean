/-
  NARROWER THAN 'FOR EVERY INPUT', by the rows' own cells (each row's printed sentence says how): NumTruths: laid · NumLattice: laid · NumDivides: laid · NumLeaves: laid · NumFits: laid · NumOrders: laid · NumFolds: laid · NumReorders: laid · NumSpares: laid · NumAdds: laid · NumRing: laid · NumApplies: laid · NumFirm: laid · NumRuns: laid.
  DERIVED. THE GIVEN ROWS OF THIS SEAT. 14 by the template 'for every input the law returns true; each argument reads behind the call as it read before'; 0 by the template 'total and deterministic' (their statements: YtnodenojdjlbnaaDoorTotals.lean).
  GIVEN WITH THE SEED: the statements are not yours to turn. If you find one false, say at which input.
  Laid BY PROGRAM, IN A SANDBOX (cutbox-rows.mjs): the forced cells as the released guide's own fill.sh prints them over the translation f45a572ea518816c… (all of the seat's roots in one cut). By AI agents, Wed Nov 11 2026. No macro, syntax, notation, axiom, sorry.
-/
import Derived.Test.YtnodenojdjlbnaaDoorChecked
import GoSem.Claim
import GoSem.ClaimJoined
import GoSem.ClaimMapViews
import Derived.JoinedTies
import Derived.KernelRfl
namespace Go.Proofs.YtnodenojdjlbnaaDoor
/- THE CELL 'sum', in the pinned program and in every row, IS THE sha256 OF THE DUMP (.gsa) THAT YtnodenojdjlbnaaDoorProg.lean LOADS. Nothing in Lean hashes anything: it is a label: what it is worth is what the hold of that sum in a sandbox is worth. -/
noncomputable def Tryd.pinned : Pinned := { name := "ytnodenojdjlbnaadoor", sum := "f45a572ea518816cfc49b3f3f39d171a30e681983547f4ed0e310b61efb1584c", checked := Tryd.checked }
namespace Rows
def none {H : Type} : Left H := { results := [], args := [] }

/- WHAT THE LISTED PACKAGE-LEVEL VARIABLES READ AS WHEN THE CALL BEGINS. Each datum BY PROGRAM (the guide's laid-datum.mjs) off the statement by which the dump's own 'gosem.cut.vars' lays the variable. In a bare row this is a premise. The card (YtnodenojdjlbnaaDoorCards.lean) ties it to the program's text. -/
def laid_sluice_num_both {H : Type} : DataW H := .agg [.agg [.agg [.lit (.bool true), .lit (.int .i64 0)], .agg [.lit (.bool true), .lit (.int .i64 0)], .agg [.lit (.bool true), .lit (.int .i64 0)]], .agg [.agg [.lit (.bool true), .lit (.int .i64 0)], .agg [.lit (.bool false), .lit (.int .i64 0)], .agg [.lit (.bool false), .lit (.int .i64 0)]], .agg [.agg [.lit (.bool true), .lit (.int .i64 0)], .agg [.lit (.bool false), .lit (.int .i64 0)], .agg [.lit (.bool true), .lit (.int .i64 1)]]]
def laid_sluice_num_either {H : Type} : DataW H := .agg [.agg [.agg [.lit (.bool true), .lit (.int .i64 0)], .agg [.lit (.bool false), .lit (.int .i64 0)], .agg [.lit (.bool true), .lit (.int .i64 1)]], .agg [.agg [.lit (.bool false), .lit (.int .i64 0)], .agg [.lit (.bool false), .lit (.int .i64 0)], .agg [.lit (.bool true), .lit (.int .i64 1)]], .agg [.agg [.lit (.bool true), .lit (.int .i64 1)], .agg [.lit (.bool true), .lit (.int .i64 1)], .agg [.lit (.bool true), .lit (.int .i64 1)]]]
def laid_sluice_num_other {H : Type} : DataW H := .agg [.agg [.lit (.bool true), .lit (.int .i64 1)], .agg [.lit (.bool false), .lit (.int .i64 0)], .agg [.lit (.bool true), .lit (.int .i64 0)]]
def laid_sluice_num_unknown {H : Type} : DataW H := .agg [.lit (.bool false), .lit (.int .i64 0)]
def laid_sluice_num_no {H : Type} : DataW H := .agg [.lit (.bool true), .lit (.int .i64 0)]
def laid_sluice_num_yes {H : Type} : DataW H := .agg [.lit (.bool true), .lit (.int .i64 1)]

/-- 'sluicelaw1.NumTruths': WHATEVER THE INPUT: true; the input reads as it did. -/
def numTruthsSpec : ChangeSpec := { name := "numTruths", fn := fun _ => fun
  | [d1, d2] => { results := [.lit (.bool true)], args := [d1, d2] }
  | _ => none }
def numTruthsRow : OpenClaim := { program := "ytnodenojdjlbnaadoor", sum := "f45a572ea518816cfc49b3f3f39d171a30e681983547f4ed0e310b61efb1584c", func := "sluice/sluicelaw1.NumTruths", spec := "numTruths", named := ["sluice/num.both", "sluice/num.either", "sluice/num.other"], apart := false, laid := [("sluice/num.both", laid_sluice_num_both), ("sluice/num.either", laid_sluice_num_either), ("sluice/num.other", laid_sluice_num_other)] }
def NumTruthsSaid : Prop := numTruthsRow.holds Tryd.pinned (OpenSpec.ofChange numTruthsSpec)

/-- ITS FALSE NEIGHBOUR: 'it returns false'. Refute it at one input. -/
def numTruthsWrong : ChangeSpec := { name := "numTruths", fn := fun _ => fun
  | [d1, d2] => { results := [.lit (.bool false)], args := [d1, d2] }
  | _ => none }
def NumTruthsWrongFalsely : Prop := numTruthsRow.holds Tryd.pinned (OpenSpec.ofChange numTruthsWrong)

/-- 'sluicelaw1.NumLattice': WHATEVER THE INPUT: true; the input reads as it did. -/
def numLatticeSpec : ChangeSpec := { name := "numLattice", fn := fun _ => fun
  | [d1, d2, d3] => { results := [.lit (.bool true)], args := [d1, d2, d3] }
  | _ => none }
def numLatticeRow : OpenClaim := { program := "ytnodenojdjlbnaadoor", sum := "f45a572ea518816cfc49b3f3f39d171a30e681983547f4ed0e310b61efb1584c", func := "sluice/sluicelaw1.NumLattice", spec := "numLattice", named := ["sluice/num.both", "sluice/num.either", "sluice/num.other"], apart := false, laid := [("sluice/num.both", laid_sluice_num_both), ("sluice/num.either", laid_sluice_num_either), ("sluice/num.other", laid_sluice_num_other)] }
def NumLatticeSaid : Prop := numLatticeRow.holds Tryd.pinned (OpenSpec.ofChange numLatticeSpec)

/-- ITS FALSE NEIGHBOUR: 'it returns false'. Refute it at one input. -/
def numLatticeWrong : ChangeSpec := { name := "numLattice", fn := fun _ => fun
  | [d1, d2, d3] => { results := [.lit (.bool false)], args := [d1, d2, d3] }
  | _ => none }
def NumLatticeWrongFalsely : Prop := numLatticeRow.holds Tryd.pinned (OpenSpec.ofChange numLatticeWrong)

/-- 'sluicelaw1.NumDivides': WHATEVER THE INPUT: true; the input reads as it did. -/
def numDividesSpec : ChangeSpec := { name := "numDivides", fn := fun _ => fun
  | [d1, d2] => { results := [.lit (.bool true)], args := [d1, d2] }
  | _ => none }
def numDividesRow : OpenClaim := { program := "ytnodenojdjlbnaadoor", sum := "f45a572ea518816cfc49b3f3f39d171a30e681983547f4ed0e310b61efb1584c", func := "sluice/sluicelaw1.NumDivides", spec := "numDivides", named := ["sluice/num.unknown"], apart := false, laid := [("sluice/num.unknown", laid_sluice_num_unknown)] }
def NumDividesSaid : Prop := numDividesRow.holds Tryd.pinned (OpenSpec.ofChange numDividesSpec)

/-- ITS FALSE NEIGHBOUR: 'it returns false'. Refute it at one input. -/
def numDividesWrong : ChangeSpec := { name := "numDivides", fn := fun _ => fun
  | [d1, d2] => { results := [.lit (.bool false)], args := [d1, d2] }
  | _ => none }
def NumDividesWrongFalsely : Prop := numDividesRow.holds Tryd.pinned (OpenSpec.ofChange numDividesWrong)

/-- 'sluicelaw1.NumLeaves': WHATEVER THE INPUT: true; the input reads as it did. -/
def numLeavesSpec : ChangeSpec := { name := "numLeaves", fn := fun _ => fun
  | [d1, d2] => { results := [.lit (.bool true)], args := [d1, d2] }
  | _ => none }
def numLeavesRow : OpenClaim := { program := "ytnodenojdjlbnaadoor", sum := "f45a572ea518816cfc49b3f3f39d171a30e681983547f4ed0e310b61efb1584c", func := "sluice/sluicelaw1.NumLeaves", spec := "numLeaves", named := ["sluice/num.unknown"], apart := false, laid := [("sluice/num.unknown", laid_sluice_num_unknown)] }
def NumLeavesSaid : Prop := numLeavesRow.holds Tryd.pinned (OpenSpec.ofChange numLeavesSpec)

/-- ITS FALSE NEIGHBOUR: 'it returns false'. Refute it at one input. -/
def numLeavesWrong : ChangeSpec := { name := "numLeaves", fn := fun _ => fun
  | [d1, d2] => { results := [.lit (.bool false)], args := [d1, d2] }
  | _ => none }
def NumLeavesWrongFalsely : Prop := numLeavesRow.holds Tryd.pinned (OpenSpec.ofChange numLeavesWrong)

/-- 'sluicelaw1.NumFits': WHATEVER THE INPUT: true; the input reads as it did. -/
def numFitsSpec : ChangeSpec := { name := "numFits", fn := fun _ => fun
  | [d1, d2] => { results := [.lit (.bool true)], args := [d1, d2] }
  | _ => none }
def numFitsRow : OpenClaim := { program := "ytnodenojdjlbnaadoor", sum := "f45a572ea518816cfc49b3f3f39d171a30e681983547f4ed0e310b61efb1584c", func := "sluice/sluicelaw1.NumFits", spec := "numFits", named := ["sluice/num.unknown"], apart := false, laid := [("sluice/num.unknown", laid_sluice_num_unknown)] }
def NumFitsSaid : Prop := numFitsRow.holds Tryd.pinned (OpenSpec.ofChange numFitsSpec)

/-- ITS FALSE NEIGHBOUR: 'it returns false'. Refute it at one input. -/
def numFitsWrong : ChangeSpec := { name := "numFits", fn := fun _ => fun
  | [d1, d2] => { results := [.lit (.bool false)], args := [d1, d2] }
  | _ => none }
def NumFitsWrongFalsely : Prop := numFitsRow.holds Tryd.pinned (OpenSpec.ofChange numFitsWrong)

/-- 'sluicelaw1.NumOrders': WHATEVER THE INPUT: true; the input reads as it did. -/
def numOrdersSpec : ChangeSpec := { name := "numOrders", fn := fun _ => fun
  | [d1, d2, d3] => { results := [.lit (.bool true)], args := [d1, d2, d3] }
  | _ => none }
def numOrdersRow : OpenClaim := { program := "ytnodenojdjlbnaadoor", sum := "f45a572ea518816cfc49b3f3f39d171a30e681983547f4ed0e310b61efb1584c", func := "sluice/sluicelaw1.NumOrders", spec := "numOrders", named := ["sluice/num.unknown", "sluice/num.yes", "sluice/num.no"], apart := false, laid := [("sluice/num.no", laid_sluice_num_no), ("sluice/num.unknown", laid_sluice_num_unknown), ("sluice/num.yes", laid_sluice_num_yes)] }
def NumOrdersSaid : Prop := numOrdersRow.holds Tryd.pinned (OpenSpec.ofChange numOrdersSpec)

/-- ITS FALSE NEIGHBOUR: 'it returns false'. Refute it at one input. -/
def numOrdersWrong : ChangeSpec := { name := "numOrders", fn := fun _ => fun
  | [d1, d2, d3] => { results := [.lit (.bool false)], args := [d1, d2, d3] }
  | _ => none }
def NumOrdersWrongFalsely : Prop := numOrdersRow.holds Tryd.pinned (OpenSpec.ofChange numOrdersWrong)

/-- 'sluicelaw1.NumFolds': WHATEVER THE INPUT: true; the input reads as it did. -/
def numFoldsSpec : ChangeSpec := { name := "numFolds", fn := fun _ => fun
  | [d1, d2] => { results := [.lit (.bool true)], args := [d1, d2] }
  | _ => none }
def numFoldsRow : OpenClaim := { program := "ytnodenojdjlbnaadoor", sum := "f45a572ea518816cfc49b3f3f39d171a30e681983547f4ed0e310b61efb1584c", func := "sluice/sluicelaw1.NumFolds", spec := "numFolds", inPlace := ["math/bits.Add64"], named := ["sluice/num.unknown"], apart := false, laid := [("sluice/num.unknown", laid_sluice_num_unknown)] }
def NumFoldsSaid : Prop := numFoldsRow.holds Tryd.pinned (OpenSpec.ofChange numFoldsSpec)

/-- ITS FALSE NEIGHBOUR: 'it returns false'. Refute it at one input. -/
def numFoldsWrong : ChangeSpec := { name := "numFolds", fn := fun _ => fun
  | [d1, d2] => { results := [.lit (.bool false)], args := [d1, d2] }
  | _ => none }
def NumFoldsWrongFalsely : Prop := numFoldsRow.holds Tryd.pinned (OpenSpec.ofChange numFoldsWrong)

/-- 'sluicelaw1.NumReorders': WHATEVER THE INPUT: true; the input reads as it did. -/
def numReordersSpec : ChangeSpec := { name := "numReorders", fn := fun _ => fun
  | [d1, d2, d3] => { results := [.lit (.bool true)], args := [d1, d2, d3] }
  | _ => none }
def numReordersRow : OpenClaim := { program := "ytnodenojdjlbnaadoor", sum := "f45a572ea518816cfc49b3f3f39d171a30e681983547f4ed0e310b61efb1584c", func := "sluice/sluicelaw1.NumReorders", spec := "numReorders", inPlace := ["math/bits.Add64"], named := ["sluice/num.unknown"], apart := false, laid := [("sluice/num.unknown", laid_sluice_num_unknown)] }
def NumReordersSaid : Prop := numReordersRow.holds Tryd.pinned (OpenSpec.ofChange numReordersSpec)

/-- ITS FALSE NEIGHBOUR: 'it returns false'. Refute it at one input. -/
def numReordersWrong : ChangeSpec := { name := "numReorders", fn := fun _ => fun
  | [d1, d2, d3] => { results := [.lit (.bool false)], args := [d1, d2, d3] }
  | _ => none }
def NumReordersWrongFalsely : Prop := numReordersRow.holds Tryd.pinned (OpenSpec.ofChange numReordersWrong)

/-- 'sluicelaw1.NumSpares': WHATEVER THE INPUT: true; the input reads as it did. -/
def numSparesSpec : ChangeSpec := { name := "numSpares", fn := fun _ => fun
  | [d1, d2, d3] => { results := [.lit (.bool true)], args := [d1, d2, d3] }
  | _ => none }
def numSparesRow : OpenClaim := { program := "ytnodenojdjlbnaadoor", sum := "f45a572ea518816cfc49b3f3f39d171a30e681983547f4ed0e310b61efb1584c", func := "sluice/sluicelaw1.NumSpares", spec := "numSpares", inPlace := ["math/bits.Add64"], named := ["sluice/num.unknown"], apart := false, laid := [("sluice/num.unknown", laid_sluice_num_unknown)] }
def NumSparesSaid : Prop := numSparesRow.holds Tryd.pinned (OpenSpec.ofChange numSparesSpec)

/-- ITS FALSE NEIGHBOUR: 'it returns false'. Refute it at one input. -/
def numSparesWrong : ChangeSpec := { name := "numSpares", fn := fun _ => fun
  | [d1, d2, d3] => { results := [.lit (.bool false)], args := [d1, d2, d3] }
  | _ => none }
def NumSparesWrongFalsely : Prop := numSparesRow.holds Tryd.pinned (OpenSpec.ofChange numSparesWrong)

/-- 'sluicelaw1.NumAdds': WHATEVER THE INPUT: true; the input reads as it did. -/
def numAddsSpec : ChangeSpec := { name := "numAdds", fn := fun _ => fun
  | [d1, d2] => { results := [.lit (.bool true)], args := [d1, d2] }
  | _ => none }
def numAddsRow : OpenClaim := { program := "ytnodenojdjlbnaadoor", sum := "f45a572ea518816cfc49b3f3f39d171a30e681983547f4ed0e310b61efb1584c", func := "sluice/sluicelaw1.NumAdds", spec := "numAdds", named := ["sluice/num.unknown"], apart := false, laid := [("sluice/num.unknown", laid_sluice_num_unknown)] }
def NumAddsSaid : Prop := numAddsRow.holds Tryd.pinned (OpenSpec.ofChange numAddsSpec)

/-- ITS FALSE NEIGHBOUR: 'it returns false'. Refute it at one input. -/
def numAddsWrong : ChangeSpec := { name := "numAdds", fn := fun _ => fun
  | [d1, d2] => { results := [.lit (.bool false)], args := [d1, d2] }
  | _ => none }
def NumAddsWrongFalsely : Prop := numAddsRow.holds Tryd.pinned (OpenSpec.ofChange numAddsWrong)

/-- 'sluicelaw1.NumRing': WHATEVER THE INPUT: true; the input reads as it did. -/
def numRingSpec : ChangeSpec := { name := "numRing", fn := fun _ => fun
  | [d1, d2, d3] => { results := [.lit (.bool true)], args := [d1, d2, d3] }
  | _ => none }
def numRingRow : OpenClaim := { program := "ytnodenojdjlbnaadoor", sum := "f45a572ea518816cfc49b3f3f39d171a30e681983547f4ed0e310b61efb1584c", func := "sluice/sluicelaw1.NumRing", spec := "numRing", named := ["sluice/num.unknown"], apart := false, laid := [("sluice/num.unknown", laid_sluice_num_unknown)] }
def NumRingSaid : Prop := numRingRow.holds Tryd.pinned (OpenSpec.ofChange numRingSpec)

/-- ITS FALSE NEIGHBOUR: 'it returns false'. Refute it at one input. -/
def numRingWrong : ChangeSpec := { name := "numRing", fn := fun _ => fun
  | [d1, d2, d3] => { results := [.lit (.bool false)], args := [d1, d2, d3] }
  | _ => none }
def NumRingWrongFalsely : Prop := numRingRow.holds Tryd.pinned (OpenSpec.ofChange numRingWrong)

/-- 'sluicelaw1.NumApplies': WHATEVER THE INPUT: true; the input reads as it did. -/
def numAppliesSpec : ChangeSpec := { name := "numApplies", fn := fun _ => fun
  | [d1, d2, d3] => { results := [.lit (.bool true)], args := [d1, d2, d3] }
  | _ => none }
def numAppliesRow : OpenClaim := { program := "ytnodenojdjlbnaadoor", sum := "f45a572ea518816cfc49b3f3f39d171a30e681983547f4ed0e310b61efb1584c", func := "sluice/sluicelaw1.NumApplies", spec := "numApplies", named := ["sluice/num.unknown", "sluice/num.yes", "sluice/num.no", "sluice/num.both", "sluice/num.either"], apart := false, laid := [("sluice/num.no", laid_sluice_num_no), ("sluice/num.unknown", laid_sluice_num_unknown), ("sluice/num.yes", laid_sluice_num_yes), ("sluice/num.both", laid_sluice_num_both), ("sluice/num.either", laid_sluice_num_either)] }
def NumAppliesSaid : Prop := numAppliesRow.holds Tryd.pinned (OpenSpec.ofChange numAppliesSpec)

/-- ITS FALSE NEIGHBOUR: 'it returns false'. Refute it at one input. -/
def numAppliesWrong : ChangeSpec := { name := "numApplies", fn := fun _ => fun
  | [d1, d2, d3] => { results := [.lit (.bool false)], args := [d1, d2, d3] }
  | _ => none }
def NumAppliesWrongFalsely : Prop := numAppliesRow.holds Tryd.pinned (OpenSpec.ofChange numAppliesWrong)

/-- 'sluicelaw1.NumFirm': WHATEVER THE INPUT: true; the input reads as it did. -/
def numFirmSpec : ChangeSpec := { name := "numFirm", fn := fun _ => fun
  | [d1, d2] => { results := [.lit (.bool true)], args := [d1, d2] }
  | _ => none }
def numFirmRow : OpenClaim := { program := "ytnodenojdjlbnaadoor", sum := "f45a572ea518816cfc49b3f3f39d171a30e681983547f4ed0e310b61efb1584c", func := "sluice/sluicelaw1.NumFirm", spec := "numFirm", inPlace := ["math/bits.Add64"], named := ["sluice/num.unknown", "sluice/num.both", "sluice/num.either", "sluice/num.yes", "sluice/num.no", "sluice/num.other"], apart := false, laid := [("sluice/num.no", laid_sluice_num_no), ("sluice/num.unknown", laid_sluice_num_unknown), ("sluice/num.yes", laid_sluice_num_yes), ("sluice/num.both", laid_sluice_num_both), ("sluice/num.either", laid_sluice_num_either), ("sluice/num.other", laid_sluice_num_other)] }
def NumFirmSaid : Prop := numFirmRow.holds Tryd.pinned (OpenSpec.ofChange numFirmSpec)

/-- ITS FALSE NEIGHBOUR: 'it returns false'. Refute it at one input. -/
def numFirmWrong : ChangeSpec := { name := "numFirm", fn := fun _ => fun
  | [d1, d2] => { results := [.lit (.bool false)], args := [d1, d2] }
  | _ => none }
def NumFirmWrongFalsely : Prop := numFirmRow.holds Tryd.pinned (OpenSpec.ofChange numFirmWrong)

/-- 'sluicelaw1.NumRuns': WHATEVER THE INPUT: true; the input reads as it did. -/
def numRunsSpec : ChangeSpec := { name := "numRuns", fn := fun _ => fun
  | [d] => { results := [.lit (.bool true)], args := [d] }
  | _ => none }
def numRunsRow : OpenClaim := { program := "ytnodenojdjlbnaadoor", sum := "f45a572ea518816cfc49b3f3f39d171a30e681983547f4ed0e310b61efb1584c", func := "sluice/sluicelaw1.NumRuns", spec := "numRuns", inPlace := ["math/bits.Add64"], named := ["sluice/num.unknown", "sluice/num.other", "sluice/num.both", "sluice/num.either", "sluice/num.yes", "sluice/num.no"], apart := false, laid := [("sluice/num.no", laid_sluice_num_no), ("sluice/num.unknown", laid_sluice_num_unknown), ("sluice/num.yes", laid_sluice_num_yes), ("sluice/num.both", laid_sluice_num_both), ("sluice/num.either", laid_sluice_num_either), ("sluice/num.other", laid_sluice_num_other)] }
def NumRunsSaid : Prop := numRunsRow.holds Tryd.pinned (OpenSpec.ofChange numRunsSpec)

/-- ITS FALSE NEIGHBOUR: 'it returns false'. Refute it at one input. -/
def numRunsWrong : ChangeSpec := { name := "numRuns", fn := fun _ => fun
  | [d] => { results := [.lit (.bool false)], args := [d] }
  | _ => none }
def NumRunsWrongFalsely : Prop := numRunsRow.holds Tryd.pinned (OpenSpec.ofChange numRunsWrong)

/- THE SECOND FORM. 'bulk': how many values and letters a reading holds, each counted each time it is reached (what is shared counts as often as it is met; a slice's spare places count too). A statement '..UptoSaid' is the law's where the arguments, and the package variables that the reading takes, are together of bulk at most 1048576: NARROWER than '..Said'. Prove '..Said' where nothing that the law and all that it calls make is longer than what came in: it says more and counts as full. Else prove '..UptoSaid'. A law counts once. -/
mutual
def uptoBulk {H : Type} : DataW H → Nat
  | .lit (.string bytes) => bytes.length + 1
  | .lit _ => 1
  | .nil => 1
  | .ptr d => uptoBulk d + 1
  | .slice elems spare => uptoBulkAll elems + uptoBulkAll spare + 1
  | .agg parts => uptoBulkAll parts + 1
  | .iface _ d => uptoBulk d + 1
  | .map entries => uptoBulkEntries entries + 1
  | .held _ => 1
def uptoBulkAll {H : Type} : List (DataW H) → Nat
  | [] => 0
  | d :: r => uptoBulk d + uptoBulkAll r
def uptoBulkEntries {H : Type} : List (Lit × DataW H) → Nat
  | [] => 0
  | x :: r => uptoBulkEntry x + uptoBulkEntries r
def uptoBulkEntry {H : Type} : Lit × DataW H → Nat
  | (.string bytes, d) => bytes.length + uptoBulk d + 1
  | (_, d) => uptoBulk d + 1
 end
def uptoSmall : (H : Type) → List (DataW H) → Bool := fun _ ds => decide (uptoBulkAll ds ≤ 1048576)
def OpenSpec.upto (s : _root_.Go.ChangeSpec) : _root_.Go.OpenSpec := { _root_.Go.OpenSpec.ofChange s with cond := some uptoSmall }

/-- 'sluicelaw1.NumTruths', WHERE WHAT IT READS IS OF BULK AT MOST 1048576: true; the input reads as it did. -/
def numTruthsUptoRow : OpenClaim := { program := "ytnodenojdjlbnaadoor", sum := "f45a572ea518816cfc49b3f3f39d171a30e681983547f4ed0e310b61efb1584c", func := "sluice/sluicelaw1.NumTruths", spec := "numTruths", named := ["sluice/num.both", "sluice/num.either", "sluice/num.other"], apart := false, laid := [("sluice/num.both", laid_sluice_num_both), ("sluice/num.either", laid_sluice_num_either), ("sluice/num.other", laid_sluice_num_other)], narrowed := true }
def NumTruthsUptoSaid : Prop := numTruthsUptoRow.holds Tryd.pinned (OpenSpec.upto numTruthsSpec)

/-- 'sluicelaw1.NumLattice', WHERE WHAT IT READS IS OF BULK AT MOST 1048576: true; the input reads as it did. -/
def numLatticeUptoRow : OpenClaim := { program := "ytnodenojdjlbnaadoor", sum := "f45a572ea518816cfc49b3f3f39d171a30e681983547f4ed0e310b61efb1584c", func := "sluice/sluicelaw1.NumLattice", spec := "numLattice", named := ["sluice/num.both", "sluice/num.either", "sluice/num.other"], apart := false, laid := [("sluice/num.both", laid_sluice_num_both), ("sluice/num.either", laid_sluice_num_either), ("sluice/num.other", laid_sluice_num_other)], narrowed := true }
def NumLatticeUptoSaid : Prop := numLatticeUptoRow.holds Tryd.pinned (OpenSpec.upto numLatticeSpec)

/-- 'sluicelaw1.NumDivides', WHERE WHAT IT READS IS OF BULK AT MOST 1048576: true; the input reads as it did. -/
def numDividesUptoRow : OpenClaim := { program := "ytnodenojdjlbnaadoor", sum := "f45a572ea518816cfc49b3f3f39d171a30e681983547f4ed0e310b61efb1584c", func := "sluice/sluicelaw1.NumDivides", spec := "numDivides", named := ["sluice/num.unknown"], apart := false, laid := [("sluice/num.unknown", laid_sluice_num_unknown)], narrowed := true }
def NumDividesUptoSaid : Prop := numDividesUptoRow.holds Tryd.pinned (OpenSpec.upto numDividesSpec)

/-- 'sluicelaw1.NumLeaves', WHERE WHAT IT READS IS OF BULK AT MOST 1048576: true; the input reads as it did. -/
def numLeavesUptoRow : OpenClaim := { program := "ytnodenojdjlbnaadoor", sum := "f45a572ea518816cfc49b3f3f39d171a30e681983547f4ed0e310b61efb1584c", func := "sluice/sluicelaw1.NumLeaves", spec := "numLeaves", named := ["sluice/num.unknown"], apart := false, laid := [("sluice/num.unknown", laid_sluice_num_unknown)], narrowed := true }
def NumLeavesUptoSaid : Prop := numLeavesUptoRow.holds Tryd.pinned (OpenSpec.upto numLeavesSpec)

/-- 'sluicelaw1.NumFits', WHERE WHAT IT READS IS OF BULK AT MOST 1048576: true; the input reads as it did. -/
def numFitsUptoRow : OpenClaim := { program := "ytnodenojdjlbnaadoor", sum := "f45a572ea518816cfc49b3f3f39d171a30e681983547f4ed0e310b61efb1584c", func := "sluice/sluicelaw1.NumFits", spec := "numFits", named := ["sluice/num.unknown"], apart := false, laid := [("sluice/num.unknown", laid_sluice_num_unknown)], narrowed := true }
def NumFitsUptoSaid : Prop := numFitsUptoRow.holds Tryd.pinned (OpenSpec.upto numFitsSpec)

/-- 'sluicelaw1.NumOrders', WHERE WHAT IT READS IS OF BULK AT MOST 1048576: true; the input reads as it did. -/
def numOrdersUptoRow : OpenClaim := { program := "ytnodenojdjlbnaadoor", sum := "f45a572ea518816cfc49b3f3f39d171a30e681983547f4ed0e310b61efb1584c", func := "sluice/sluicelaw1.NumOrders", spec := "numOrders", named := ["sluice/num.unknown", "sluice/num.yes", "sluice/num.no"], apart := false, laid := [("sluice/num.no", laid_sluice_num_no), ("sluice/num.unknown", laid_sluice_num_unknown), ("sluice/num.yes", laid_sluice_num_yes)], narrowed := true }
def NumOrdersUptoSaid : Prop := numOrdersUptoRow.holds Tryd.pinned (OpenSpec.upto numOrdersSpec)

/-- 'sluicelaw1.NumFolds', WHERE WHAT IT READS IS OF BULK AT MOST 1048576: true; the input reads as it did. -/
def numFoldsUptoRow : OpenClaim := { program := "ytnodenojdjlbnaadoor", sum := "f45a572ea518816cfc49b3f3f39d171a30e681983547f4ed0e310b61efb1584c", func := "sluice/sluicelaw1.NumFolds", spec := "numFolds", inPlace := ["math/bits.Add64"], named := ["sluice/num.unknown"], apart := false, laid := [("sluice/num.unknown", laid_sluice_num_unknown)], narrowed := true }
def NumFoldsUptoSaid : Prop := numFoldsUptoRow.holds Tryd.pinned (OpenSpec.upto numFoldsSpec)

/-- 'sluicelaw1.NumReorders', WHERE WHAT IT READS IS OF BULK AT MOST 1048576: true; the input reads as it did. -/
def numReordersUptoRow : OpenClaim := { program := "ytnodenojdjlbnaadoor", sum := "f45a572ea518816cfc49b3f3f39d171a30e681983547f4ed0e310b61efb1584c", func := "sluice/sluicelaw1.NumReorders", spec := "numReorders", inPlace := ["math/bits.Add64"], named := ["sluice/num.unknown"], apart := false, laid := [("sluice/num.unknown", laid_sluice_num_unknown)], narrowed := true }
def NumReordersUptoSaid : Prop := numReordersUptoRow.holds Tryd.pinned (OpenSpec.upto numReordersSpec)

/-- 'sluicelaw1.NumSpares', WHERE WHAT IT READS IS OF BULK AT MOST 1048576: true; the input reads as it did. -/
def numSparesUptoRow : OpenClaim := { program := "ytnodenojdjlbnaadoor", sum := "f45a572ea518816cfc49b3f3f39d171a30e681983547f4ed0e310b61efb1584c", func := "sluice/sluicelaw1.NumSpares", spec := "numSpares", inPlace := ["math/bits.Add64"], named := ["sluice/num.unknown"], apart := false, laid := [("sluice/num.unknown", laid_sluice_num_unknown)], narrowed := true }
def NumSparesUptoSaid : Prop := numSparesUptoRow.holds Tryd.pinned (OpenSpec.upto numSparesSpec)

/-- 'sluicelaw1.NumAdds', WHERE WHAT IT READS IS OF BULK AT MOST 1048576: true; the input reads as it did. -/
def numAddsUptoRow : OpenClaim := { program := "ytnodenojdjlbnaadoor", sum := "f45a572ea518816cfc49b3f3f39d171a30e681983547f4ed0e310b61efb1584c", func := "sluice/sluicelaw1.NumAdds", spec := "numAdds", named := ["sluice/num.unknown"], apart := false, laid := [("sluice/num.unknown", laid_sluice_num_unknown)], narrowed := true }
def NumAddsUptoSaid : Prop := numAddsUptoRow.holds Tryd.pinned (OpenSpec.upto numAddsSpec)

/-- 'sluicelaw1.NumRing', WHERE WHAT IT READS IS OF BULK AT MOST 1048576: true; the input reads as it did. -/
def numRingUptoRow : OpenClaim := { program := "ytnodenojdjlbnaadoor", sum := "f45a572ea518816cfc49b3f3f39d171a30e681983547f4ed0e310b61efb1584c", func := "sluice/sluicelaw1.NumRing", spec := "numRing", named := ["sluice/num.unknown"], apart := false, laid := [("sluice/num.unknown", laid_sluice_num_unknown)], narrowed := true }
def NumRingUptoSaid : Prop := numRingUptoRow.holds Tryd.pinned (OpenSpec.upto numRingSpec)

/-- 'sluicelaw1.NumApplies', WHERE WHAT IT READS IS OF BULK AT MOST 1048576: true; the input reads as it did. -/
def numAppliesUptoRow : OpenClaim := { program := "ytnodenojdjlbnaadoor", sum := "f45a572ea518816cfc49b3f3f39d171a30e681983547f4ed0e310b61efb1584c", func := "sluice/sluicelaw1.NumApplies", spec := "numApplies", named := ["sluice/num.unknown", "sluice/num.yes", "sluice/num.no", "sluice/num.both", "sluice/num.either"], apart := false, laid := [("sluice/num.no", laid_sluice_num_no), ("sluice/num.unknown", laid_sluice_num_unknown), ("sluice/num.yes", laid_sluice_num_yes), ("sluice/num.both", laid_sluice_num_both), ("sluice/num.either", laid_sluice_num_either)], narrowed := true }
def NumAppliesUptoSaid : Prop := numAppliesUptoRow.holds Tryd.pinned (OpenSpec.upto numAppliesSpec)

/-- 'sluicelaw1.NumFirm', WHERE WHAT IT READS IS OF BULK AT MOST 1048576: true; the input reads as it did. -/
def numFirmUptoRow : OpenClaim := { program := "ytnodenojdjlbnaadoor", sum := "f45a572ea518816cfc49b3f3f39d171a30e681983547f4ed0e310b61efb1584c", func := "sluice/sluicelaw1.NumFirm", spec := "numFirm", inPlace := ["math/bits.Add64"], named := ["sluice/num.unknown", "sluice/num.both", "sluice/num.either", "sluice/num.yes", "sluice/num.no", "sluice/num.other"], apart := false, laid := [("sluice/num.no", laid_sluice_num_no), ("sluice/num.unknown", laid_sluice_num_unknown), ("sluice/num.yes", laid_sluice_num_yes), ("sluice/num.both", laid_sluice_num_both), ("sluice/num.either", laid_sluice_num_either), ("sluice/num.other", laid_sluice_num_other)], narrowed := true }
def NumFirmUptoSaid : Prop := numFirmUptoRow.holds Tryd.pinned (OpenSpec.upto numFirmSpec)

/-- 'sluicelaw1.NumRuns', WHERE WHAT IT READS IS OF BULK AT MOST 1048576: true; the input reads as it did. -/
def numRunsUptoRow : OpenClaim := { program := "ytnodenojdjlbnaadoor", sum := "f45a572ea518816cfc49b3f3f39d171a30e681983547f4ed0e310b61efb1584c", func := "sluice/sluicelaw1.NumRuns", spec := "numRuns", inPlace := ["math/bits.Add64"], named := ["sluice/num.unknown", "sluice/num.other", "sluice/num.both", "sluice/num.either", "sluice/num.yes", "sluice/num.no"], apart := false, laid := [("sluice/num.no", laid_sluice_num_no), ("sluice/num.unknown", laid_sluice_num_unknown), ("sluice/num.yes", laid_sluice_num_yes), ("sluice/num.both", laid_sluice_num_both), ("sluice/num.either", laid_sluice_num_either), ("sluice/num.other", laid_sluice_num_other)], narrowed := true }
def NumRunsUptoSaid : Prop := numRunsUptoRow.holds Tryd.pinned (OpenSpec.upto numRunsSpec)

end Rows
end Go.Proofs.YtnodenojdjlbnaaDoor
