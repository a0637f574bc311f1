/-
  NARROWER THAN 'FOR EVERY INPUT', by the rows' own cells (each row's printed sentence says how): PlanBuilds: laid · PlanSpreads: laid · PlanKeys: laid · PlanTakes: laid · PlanGuards: laid · PlanPlaces: laid · PlanNames: laid · PlanOwn: laid · PlanEarly: laid · PlanNegations: laid · PlanWhere: laid.
  DERIVED. THE GIVEN ROWS OF THIS SEAT. 11 by the template 'for every input the law returns true; each argument reads behind the call as it read before'; 0 by the template 'total and deterministic' (their statements: YtbffkkeieihpdaaGreatDoorTotals.lean).
  GIVEN WITH THE SEED: the statements are not yours to turn. If you find one false, say at which input.
  Laid BY PROGRAM, IN A SANDBOX (cutbox-rows.mjs): the forced cells as the released guide's own fill.sh prints them over the translation 9d5eb4f7ee721fac… (all of the seat's roots in one cut). By AI agents, Wed Nov 11 2026. No macro, syntax, notation, axiom, sorry.
-/
import Derived.Test.YtbffkkeieihpdaaGreatDoorChecked
import GoSem.Claim
import GoSem.ClaimJoined
import GoSem.ClaimMapViews
import Derived.JoinedTies
import Derived.KernelRfl
namespace Go.Proofs.YtbffkkeieihpdaaGreatDoor
/- THE CELL 'sum', in the pinned program and in every row, IS THE sha256 OF THE DUMP (.gsa) THAT YtbffkkeieihpdaaGreatDoorProg.lean LOADS. Nothing in Lean hashes anything: it is a label: what it is worth is what the hold of that sum in a sandbox is worth. -/
noncomputable def Tryz.pinned : Pinned := { name := "ytbffkkeieihpdaagreatdoor", sum := "9d5eb4f7ee721facb032739968112a9dd6d73520863542bcc33539658457f898", checked := Tryz.checked }
namespace Rows
def none {H : Type} : Left H := { results := [], args := [] }

/- WHAT THE LISTED PACKAGE-LEVEL VARIABLES READ AS WHEN THE CALL BEGINS. Each datum BY PROGRAM (the guide's laid-datum.mjs) off the statement by which the dump's own 'gosem.cut.vars' lays the variable. In a bare row this is a premise. The card (YtbffkkeieihpdaaGreatDoorCards.lean) ties it to the program's text. -/
def laid_sluice_api_Keywords {H : Type} : DataW H := .agg [.lit (.string [80, 65, 84, 84, 69, 82, 78]), .lit (.string [83, 69, 81]), .lit (.string [85, 83, 73, 78, 71]), .lit (.string [65, 78, 89]), .lit (.string [78, 69, 88, 84]), .lit (.string [83, 84, 82, 73, 67, 84]), .lit (.string [87, 72, 69, 82, 69]), .lit (.string [87, 73, 84, 72, 73, 78]), .lit (.string [80, 65, 82, 84, 73, 84, 73, 79, 78]), .lit (.string [66, 89]), .lit (.string [82, 69, 84, 85, 82, 78]), .lit (.string [65, 78, 68]), .lit (.string [79, 82]), .lit (.string [78, 79, 84]), .lit (.string [84, 82, 85, 69]), .lit (.string [70, 65, 76, 83, 69]), .lit (.string [67, 79, 85, 78, 84]), .lit (.string [83, 85, 77]), .lit (.string [77, 73, 78]), .lit (.string [77, 65, 88]), .lit (.string [70, 73, 82, 83, 84]), .lit (.string [76, 65, 83, 84]), .lit (.string [80, 82, 69, 86]), .lit (.string [65, 70, 84, 69, 82]), .lit (.string [65, 76, 76]), .lit (.string [80, 65, 83, 84]), .lit (.string [79, 78, 67, 69])]
def laid_sluice_num_no {H : Type} : DataW H := .agg [.lit (.bool true), .lit (.int .i64 0)]
def laid_sluice_num_unknown {H : Type} : DataW H := .agg [.lit (.bool false), .lit (.int .i64 0)]
def laid_sluice_num_yes {H : Type} : DataW H := .agg [.lit (.bool true), .lit (.int .i64 1)]
def laid_sluice_num_both {H : Type} : DataW H := .agg [.agg [.agg [.lit (.bool true), .lit (.int .i64 0)], .agg [.lit (.bool true), .lit (.int .i64 0)], .agg [.lit (.bool true), .lit (.int .i64 0)]], .agg [.agg [.lit (.bool true), .lit (.int .i64 0)], .agg [.lit (.bool false), .lit (.int .i64 0)], .agg [.lit (.bool false), .lit (.int .i64 0)]], .agg [.agg [.lit (.bool true), .lit (.int .i64 0)], .agg [.lit (.bool false), .lit (.int .i64 0)], .agg [.lit (.bool true), .lit (.int .i64 1)]]]
def laid_sluice_num_either {H : Type} : DataW H := .agg [.agg [.agg [.lit (.bool true), .lit (.int .i64 0)], .agg [.lit (.bool false), .lit (.int .i64 0)], .agg [.lit (.bool true), .lit (.int .i64 1)]], .agg [.agg [.lit (.bool false), .lit (.int .i64 0)], .agg [.lit (.bool false), .lit (.int .i64 0)], .agg [.lit (.bool true), .lit (.int .i64 1)]], .agg [.agg [.lit (.bool true), .lit (.int .i64 1)], .agg [.lit (.bool true), .lit (.int .i64 1)], .agg [.lit (.bool true), .lit (.int .i64 1)]]]
def laid_sluice_num_other {H : Type} : DataW H := .agg [.agg [.lit (.bool true), .lit (.int .i64 1)], .agg [.lit (.bool false), .lit (.int .i64 0)], .agg [.lit (.bool true), .lit (.int .i64 0)]]
def laid_sluice_code_operands {H : Type} : DataW H := .agg [.lit (.int .i64 (-1)), .lit (.int .i64 0), .lit (.int .i64 0), .lit (.int .i64 0), .lit (.int .i64 0), .lit (.int .i64 0), .lit (.int .i64 0), .lit (.int .i64 0), .lit (.int .i64 0), .lit (.int .i64 0), .lit (.int .i64 1), .lit (.int .i64 1), .lit (.int .i64 2), .lit (.int .i64 2), .lit (.int .i64 2), .lit (.int .i64 2), .lit (.int .i64 2), .lit (.int .i64 2), .lit (.int .i64 2), .lit (.int .i64 2), .lit (.int .i64 2), .lit (.int .i64 2), .lit (.int .i64 2), .lit (.int .i64 2), .lit (.int .i64 2), .lit (.int .i64 1), .lit (.int .i64 1)]

/-- 'sluicelaw8.PlanBuilds': WHATEVER THE INPUT: true; the input reads as it did. -/
def planBuildsSpec : ChangeSpec := { name := "planBuilds", fn := fun _ => fun
  | [d1, d2] => { results := [.lit (.bool true)], args := [d1, d2] }
  | _ => none }
def planBuildsRow : OpenClaim := { program := "ytbffkkeieihpdaagreatdoor", sum := "9d5eb4f7ee721facb032739968112a9dd6d73520863542bcc33539658457f898", func := "sluice/sluicelaw8.PlanBuilds", spec := "planBuilds", unfollowed := true, recurses := true, named := ["sluice/api.Keywords"], apart := false, laid := [("sluice/api.Keywords", laid_sluice_api_Keywords)] }
def PlanBuildsSaid : Prop := planBuildsRow.holds Tryz.pinned (OpenSpec.ofChange planBuildsSpec)

/-- ITS FALSE NEIGHBOUR: 'it returns false'. Refute it at one input. -/
def planBuildsWrong : ChangeSpec := { name := "planBuilds", fn := fun _ => fun
  | [d1, d2] => { results := [.lit (.bool false)], args := [d1, d2] }
  | _ => none }
def PlanBuildsWrongFalsely : Prop := planBuildsRow.holds Tryz.pinned (OpenSpec.ofChange planBuildsWrong)

/-- 'sluicelaw8.PlanSpreads': WHATEVER THE INPUT: true; the input reads as it did. -/
def planSpreadsSpec : ChangeSpec := { name := "planSpreads", fn := fun _ => fun
  | [d1, d2, d3] => { results := [.lit (.bool true)], args := [d1, d2, d3] }
  | _ => none }
def planSpreadsRow : OpenClaim := { program := "ytbffkkeieihpdaagreatdoor", sum := "9d5eb4f7ee721facb032739968112a9dd6d73520863542bcc33539658457f898", func := "sluice/sluicelaw8.PlanSpreads", spec := "planSpreads", unfollowed := true, recurses := true, named := ["sluice/api.Keywords"], apart := false, laid := [("sluice/api.Keywords", laid_sluice_api_Keywords)] }
def PlanSpreadsSaid : Prop := planSpreadsRow.holds Tryz.pinned (OpenSpec.ofChange planSpreadsSpec)

/-- ITS FALSE NEIGHBOUR: 'it returns false'. Refute it at one input. -/
def planSpreadsWrong : ChangeSpec := { name := "planSpreads", fn := fun _ => fun
  | [d1, d2, d3] => { results := [.lit (.bool false)], args := [d1, d2, d3] }
  | _ => none }
def PlanSpreadsWrongFalsely : Prop := planSpreadsRow.holds Tryz.pinned (OpenSpec.ofChange planSpreadsWrong)

/-- 'sluicelaw8.PlanKeys': WHATEVER THE INPUT: true; the input reads as it did. -/
def planKeysSpec : ChangeSpec := { name := "planKeys", fn := fun _ => fun
  | [d1, d2, d3] => { results := [.lit (.bool true)], args := [d1, d2, d3] }
  | _ => none }
def planKeysRow : OpenClaim := { program := "ytbffkkeieihpdaagreatdoor", sum := "9d5eb4f7ee721facb032739968112a9dd6d73520863542bcc33539658457f898", func := "sluice/sluicelaw8.PlanKeys", spec := "planKeys", unfollowed := true, recurses := true, named := ["sluice/api.Keywords"], apart := false, laid := [("sluice/api.Keywords", laid_sluice_api_Keywords)] }
def PlanKeysSaid : Prop := planKeysRow.holds Tryz.pinned (OpenSpec.ofChange planKeysSpec)

/-- ITS FALSE NEIGHBOUR: 'it returns false'. Refute it at one input. -/
def planKeysWrong : ChangeSpec := { name := "planKeys", fn := fun _ => fun
  | [d1, d2, d3] => { results := [.lit (.bool false)], args := [d1, d2, d3] }
  | _ => none }
def PlanKeysWrongFalsely : Prop := planKeysRow.holds Tryz.pinned (OpenSpec.ofChange planKeysWrong)

/-- 'sluicelaw8.PlanTakes': WHATEVER THE INPUT: true; the input reads as it did. -/
def planTakesSpec : ChangeSpec := { name := "planTakes", fn := fun _ => fun
  | [d1, d2, d3, d4] => { results := [.lit (.bool true)], args := [d1, d2, d3, d4] }
  | _ => none }
def planTakesRow : OpenClaim := { program := "ytbffkkeieihpdaagreatdoor", sum := "9d5eb4f7ee721facb032739968112a9dd6d73520863542bcc33539658457f898", func := "sluice/sluicelaw8.PlanTakes", spec := "planTakes", inPlace := ["math/bits.Add64"], unfollowed := true, recurses := true, named := ["sluice/api.Keywords", "sluice/code.operands", "sluice/num.unknown", "sluice/num.other", "sluice/num.both", "sluice/num.either", "sluice/num.yes", "sluice/num.no"], apart := false, laid := [("sluice/api.Keywords", laid_sluice_api_Keywords), ("sluice/num.no", laid_sluice_num_no), ("sluice/num.unknown", laid_sluice_num_unknown), ("sluice/num.yes", laid_sluice_num_yes), ("sluice/num.both", laid_sluice_num_both), ("sluice/num.either", laid_sluice_num_either), ("sluice/num.other", laid_sluice_num_other), ("sluice/code.operands", laid_sluice_code_operands)] }
def PlanTakesSaid : Prop := planTakesRow.holds Tryz.pinned (OpenSpec.ofChange planTakesSpec)

/-- ITS FALSE NEIGHBOUR: 'it returns false'. Refute it at one input. -/
def planTakesWrong : ChangeSpec := { name := "planTakes", fn := fun _ => fun
  | [d1, d2, d3, d4] => { results := [.lit (.bool false)], args := [d1, d2, d3, d4] }
  | _ => none }
def PlanTakesWrongFalsely : Prop := planTakesRow.holds Tryz.pinned (OpenSpec.ofChange planTakesWrong)

/-- 'sluicelaw8.PlanGuards': WHATEVER THE INPUT: true; the input reads as it did. -/
def planGuardsSpec : ChangeSpec := { name := "planGuards", fn := fun _ => fun
  | [d1, d2, d3, d4] => { results := [.lit (.bool true)], args := [d1, d2, d3, d4] }
  | _ => none }
def planGuardsRow : OpenClaim := { program := "ytbffkkeieihpdaagreatdoor", sum := "9d5eb4f7ee721facb032739968112a9dd6d73520863542bcc33539658457f898", func := "sluice/sluicelaw8.PlanGuards", spec := "planGuards", inPlace := ["math/bits.Add64"], unfollowed := true, recurses := true, named := ["sluice/api.Keywords", "sluice/code.operands", "sluice/num.unknown", "sluice/num.other", "sluice/num.both", "sluice/num.either", "sluice/num.yes", "sluice/num.no"], apart := false, laid := [("sluice/api.Keywords", laid_sluice_api_Keywords), ("sluice/num.no", laid_sluice_num_no), ("sluice/num.unknown", laid_sluice_num_unknown), ("sluice/num.yes", laid_sluice_num_yes), ("sluice/num.both", laid_sluice_num_both), ("sluice/num.either", laid_sluice_num_either), ("sluice/num.other", laid_sluice_num_other), ("sluice/code.operands", laid_sluice_code_operands)] }
def PlanGuardsSaid : Prop := planGuardsRow.holds Tryz.pinned (OpenSpec.ofChange planGuardsSpec)

/-- ITS FALSE NEIGHBOUR: 'it returns false'. Refute it at one input. -/
def planGuardsWrong : ChangeSpec := { name := "planGuards", fn := fun _ => fun
  | [d1, d2, d3, d4] => { results := [.lit (.bool false)], args := [d1, d2, d3, d4] }
  | _ => none }
def PlanGuardsWrongFalsely : Prop := planGuardsRow.holds Tryz.pinned (OpenSpec.ofChange planGuardsWrong)

/-- 'sluicelaw8.PlanPlaces': WHATEVER THE INPUT: true; the input reads as it did. -/
def planPlacesSpec : ChangeSpec := { name := "planPlaces", fn := fun _ => fun
  | [d1, d2] => { results := [.lit (.bool true)], args := [d1, d2] }
  | _ => none }
def planPlacesRow : OpenClaim := { program := "ytbffkkeieihpdaagreatdoor", sum := "9d5eb4f7ee721facb032739968112a9dd6d73520863542bcc33539658457f898", func := "sluice/sluicelaw8.PlanPlaces", spec := "planPlaces", inPlace := ["math/bits.Add64"], unfollowed := true, recurses := true, named := ["sluice/api.Keywords", "sluice/code.operands", "sluice/num.unknown", "sluice/num.other", "sluice/num.both", "sluice/num.either", "sluice/num.yes", "sluice/num.no"], apart := false, laid := [("sluice/api.Keywords", laid_sluice_api_Keywords), ("sluice/num.no", laid_sluice_num_no), ("sluice/num.unknown", laid_sluice_num_unknown), ("sluice/num.yes", laid_sluice_num_yes), ("sluice/num.both", laid_sluice_num_both), ("sluice/num.either", laid_sluice_num_either), ("sluice/num.other", laid_sluice_num_other), ("sluice/code.operands", laid_sluice_code_operands)] }
def PlanPlacesSaid : Prop := planPlacesRow.holds Tryz.pinned (OpenSpec.ofChange planPlacesSpec)

/-- ITS FALSE NEIGHBOUR: 'it returns false'. Refute it at one input. -/
def planPlacesWrong : ChangeSpec := { name := "planPlaces", fn := fun _ => fun
  | [d1, d2] => { results := [.lit (.bool false)], args := [d1, d2] }
  | _ => none }
def PlanPlacesWrongFalsely : Prop := planPlacesRow.holds Tryz.pinned (OpenSpec.ofChange planPlacesWrong)

/-- 'sluicelaw8.PlanNames': WHATEVER THE INPUT: true; the input reads as it did. -/
def planNamesSpec : ChangeSpec := { name := "planNames", fn := fun _ => fun
  | [d1, d2, d3] => { results := [.lit (.bool true)], args := [d1, d2, d3] }
  | _ => none }
def planNamesRow : OpenClaim := { program := "ytbffkkeieihpdaagreatdoor", sum := "9d5eb4f7ee721facb032739968112a9dd6d73520863542bcc33539658457f898", func := "sluice/sluicelaw8.PlanNames", spec := "planNames", inPlace := ["math/bits.Add64"], unfollowed := true, recurses := true, named := ["sluice/api.Keywords", "sluice/code.operands", "sluice/num.unknown", "sluice/num.other", "sluice/num.both", "sluice/num.either", "sluice/num.yes", "sluice/num.no"], apart := false, laid := [("sluice/api.Keywords", laid_sluice_api_Keywords), ("sluice/num.no", laid_sluice_num_no), ("sluice/num.unknown", laid_sluice_num_unknown), ("sluice/num.yes", laid_sluice_num_yes), ("sluice/num.both", laid_sluice_num_both), ("sluice/num.either", laid_sluice_num_either), ("sluice/num.other", laid_sluice_num_other), ("sluice/code.operands", laid_sluice_code_operands)] }
def PlanNamesSaid : Prop := planNamesRow.holds Tryz.pinned (OpenSpec.ofChange planNamesSpec)

/-- ITS FALSE NEIGHBOUR: 'it returns false'. Refute it at one input. -/
def planNamesWrong : ChangeSpec := { name := "planNames", fn := fun _ => fun
  | [d1, d2, d3] => { results := [.lit (.bool false)], args := [d1, d2, d3] }
  | _ => none }
def PlanNamesWrongFalsely : Prop := planNamesRow.holds Tryz.pinned (OpenSpec.ofChange planNamesWrong)

/-- 'sluicelaw8.PlanOwn': WHATEVER THE INPUT: true; the input reads as it did. -/
def planOwnSpec : ChangeSpec := { name := "planOwn", fn := fun _ => fun
  | [d1, d2] => { results := [.lit (.bool true)], args := [d1, d2] }
  | _ => none }
def planOwnRow : OpenClaim := { program := "ytbffkkeieihpdaagreatdoor", sum := "9d5eb4f7ee721facb032739968112a9dd6d73520863542bcc33539658457f898", func := "sluice/sluicelaw8.PlanOwn", spec := "planOwn", inPlace := ["math/bits.Add64"], unfollowed := true, recurses := true, named := ["sluice/api.Keywords", "sluice/code.operands", "sluice/num.unknown", "sluice/num.other", "sluice/num.both", "sluice/num.either", "sluice/num.yes", "sluice/num.no"], apart := false, laid := [("sluice/api.Keywords", laid_sluice_api_Keywords), ("sluice/num.no", laid_sluice_num_no), ("sluice/num.unknown", laid_sluice_num_unknown), ("sluice/num.yes", laid_sluice_num_yes), ("sluice/num.both", laid_sluice_num_both), ("sluice/num.either", laid_sluice_num_either), ("sluice/num.other", laid_sluice_num_other), ("sluice/code.operands", laid_sluice_code_operands)] }
def PlanOwnSaid : Prop := planOwnRow.holds Tryz.pinned (OpenSpec.ofChange planOwnSpec)

/-- ITS FALSE NEIGHBOUR: 'it returns false'. Refute it at one input. -/
def planOwnWrong : ChangeSpec := { name := "planOwn", fn := fun _ => fun
  | [d1, d2] => { results := [.lit (.bool false)], args := [d1, d2] }
  | _ => none }
def PlanOwnWrongFalsely : Prop := planOwnRow.holds Tryz.pinned (OpenSpec.ofChange planOwnWrong)

/-- 'sluicelaw8.PlanEarly': WHATEVER THE INPUT: true; the input reads as it did. -/
def planEarlySpec : ChangeSpec := { name := "planEarly", fn := fun _ => fun
  | [d1, d2, d3, d4] => { results := [.lit (.bool true)], args := [d1, d2, d3, d4] }
  | _ => none }
def planEarlyRow : OpenClaim := { program := "ytbffkkeieihpdaagreatdoor", sum := "9d5eb4f7ee721facb032739968112a9dd6d73520863542bcc33539658457f898", func := "sluice/sluicelaw8.PlanEarly", spec := "planEarly", inPlace := ["math/bits.Add64"], unfollowed := true, recurses := true, named := ["sluice/api.Keywords", "sluice/code.operands", "sluice/num.unknown", "sluice/num.other", "sluice/num.both", "sluice/num.either", "sluice/num.yes", "sluice/num.no"], apart := false, laid := [("sluice/api.Keywords", laid_sluice_api_Keywords), ("sluice/num.no", laid_sluice_num_no), ("sluice/num.unknown", laid_sluice_num_unknown), ("sluice/num.yes", laid_sluice_num_yes), ("sluice/num.both", laid_sluice_num_both), ("sluice/num.either", laid_sluice_num_either), ("sluice/num.other", laid_sluice_num_other), ("sluice/code.operands", laid_sluice_code_operands)] }
def PlanEarlySaid : Prop := planEarlyRow.holds Tryz.pinned (OpenSpec.ofChange planEarlySpec)

/-- ITS FALSE NEIGHBOUR: 'it returns false'. Refute it at one input. -/
def planEarlyWrong : ChangeSpec := { name := "planEarly", fn := fun _ => fun
  | [d1, d2, d3, d4] => { results := [.lit (.bool false)], args := [d1, d2, d3, d4] }
  | _ => none }
def PlanEarlyWrongFalsely : Prop := planEarlyRow.holds Tryz.pinned (OpenSpec.ofChange planEarlyWrong)

/-- 'sluicelaw8.PlanNegations': WHATEVER THE INPUT: true; the input reads as it did. -/
def planNegationsSpec : ChangeSpec := { name := "planNegations", fn := fun _ => fun
  | [d1, d2, d3, d4, d5] => { results := [.lit (.bool true)], args := [d1, d2, d3, d4, d5] }
  | _ => none }
def planNegationsRow : OpenClaim := { program := "ytbffkkeieihpdaagreatdoor", sum := "9d5eb4f7ee721facb032739968112a9dd6d73520863542bcc33539658457f898", func := "sluice/sluicelaw8.PlanNegations", spec := "planNegations", inPlace := ["math/bits.Add64"], unfollowed := true, recurses := true, named := ["sluice/api.Keywords", "sluice/code.operands", "sluice/num.unknown", "sluice/num.other", "sluice/num.both", "sluice/num.either", "sluice/num.yes", "sluice/num.no"], apart := false, laid := [("sluice/api.Keywords", laid_sluice_api_Keywords), ("sluice/num.no", laid_sluice_num_no), ("sluice/num.unknown", laid_sluice_num_unknown), ("sluice/num.yes", laid_sluice_num_yes), ("sluice/num.both", laid_sluice_num_both), ("sluice/num.either", laid_sluice_num_either), ("sluice/num.other", laid_sluice_num_other), ("sluice/code.operands", laid_sluice_code_operands)] }
def PlanNegationsSaid : Prop := planNegationsRow.holds Tryz.pinned (OpenSpec.ofChange planNegationsSpec)

/-- ITS FALSE NEIGHBOUR: 'it returns false'. Refute it at one input. -/
def planNegationsWrong : ChangeSpec := { name := "planNegations", fn := fun _ => fun
  | [d1, d2, d3, d4, d5] => { results := [.lit (.bool false)], args := [d1, d2, d3, d4, d5] }
  | _ => none }
def PlanNegationsWrongFalsely : Prop := planNegationsRow.holds Tryz.pinned (OpenSpec.ofChange planNegationsWrong)

/-- 'sluicelaw8.PlanWhere': WHATEVER THE INPUT: true; the input reads as it did. -/
def planWhereSpec : ChangeSpec := { name := "planWhere", fn := fun _ => fun
  | [d1, d2, d3] => { results := [.lit (.bool true)], args := [d1, d2, d3] }
  | _ => none }
def planWhereRow : OpenClaim := { program := "ytbffkkeieihpdaagreatdoor", sum := "9d5eb4f7ee721facb032739968112a9dd6d73520863542bcc33539658457f898", func := "sluice/sluicelaw8.PlanWhere", spec := "planWhere", inPlace := ["math/bits.Add64"], unfollowed := true, recurses := true, named := ["sluice/api.Keywords", "sluice/code.operands", "sluice/num.unknown", "sluice/num.other", "sluice/num.both", "sluice/num.either", "sluice/num.yes", "sluice/num.no"], apart := false, laid := [("sluice/api.Keywords", laid_sluice_api_Keywords), ("sluice/num.no", laid_sluice_num_no), ("sluice/num.unknown", laid_sluice_num_unknown), ("sluice/num.yes", laid_sluice_num_yes), ("sluice/num.both", laid_sluice_num_both), ("sluice/num.either", laid_sluice_num_either), ("sluice/num.other", laid_sluice_num_other), ("sluice/code.operands", laid_sluice_code_operands)] }
def PlanWhereSaid : Prop := planWhereRow.holds Tryz.pinned (OpenSpec.ofChange planWhereSpec)

/-- ITS FALSE NEIGHBOUR: 'it returns false'. Refute it at one input. -/
def planWhereWrong : ChangeSpec := { name := "planWhere", fn := fun _ => fun
  | [d1, d2, d3] => { results := [.lit (.bool false)], args := [d1, d2, d3] }
  | _ => none }
def PlanWhereWrongFalsely : Prop := planWhereRow.holds Tryz.pinned (OpenSpec.ofChange planWhereWrong)

/- THE SECOND FORM. 'bulk': how many values and letters a reading holds, each counted each time it is reached (what is shared counts as often as it is met; a slice's spare places count too). A statement '..UptoSaid' is the law's where the arguments, and the package variables that the reading takes, are together of bulk at most 1048576: NARROWER than '..Said'. Prove '..Said' where nothing that the law and all that it calls make is longer than what came in: it says more and counts as full. Else prove '..UptoSaid'. A law counts once. -/
mutual
def uptoBulk {H : Type} : DataW H → Nat
  | .lit (.string bytes) => bytes.length + 1
  | .lit _ => 1
  | .nil => 1
  | .ptr d => uptoBulk d + 1
  | .slice elems spare => uptoBulkAll elems + uptoBulkAll spare + 1
  | .agg parts => uptoBulkAll parts + 1
  | .iface _ d => uptoBulk d + 1
  | .map entries => uptoBulkEntries entries + 1
  | .held _ => 1
def uptoBulkAll {H : Type} : List (DataW H) → Nat
  | [] => 0
  | d :: r => uptoBulk d + uptoBulkAll r
def uptoBulkEntries {H : Type} : List (Lit × DataW H) → Nat
  | [] => 0
  | x :: r => uptoBulkEntry x + uptoBulkEntries r
def uptoBulkEntry {H : Type} : Lit × DataW H → Nat
  | (.string bytes, d) => bytes.length + uptoBulk d + 1
  | (_, d) => uptoBulk d + 1
 end
def uptoSmall : (H : Type) → List (DataW H) → Bool := fun _ ds => decide (uptoBulkAll ds ≤ 1048576)
def OpenSpec.upto (s : _root_.Go.ChangeSpec) : _root_.Go.OpenSpec := { _root_.Go.OpenSpec.ofChange s with cond := some uptoSmall }

/-- 'sluicelaw8.PlanBuilds', WHERE WHAT IT READS IS OF BULK AT MOST 1048576: true; the input reads as it did. -/
def planBuildsUptoRow : OpenClaim := { program := "ytbffkkeieihpdaagreatdoor", sum := "9d5eb4f7ee721facb032739968112a9dd6d73520863542bcc33539658457f898", func := "sluice/sluicelaw8.PlanBuilds", spec := "planBuilds", unfollowed := true, recurses := true, named := ["sluice/api.Keywords"], apart := false, laid := [("sluice/api.Keywords", laid_sluice_api_Keywords)], narrowed := true }
def PlanBuildsUptoSaid : Prop := planBuildsUptoRow.holds Tryz.pinned (OpenSpec.upto planBuildsSpec)

/-- 'sluicelaw8.PlanSpreads', WHERE WHAT IT READS IS OF BULK AT MOST 1048576: true; the input reads as it did. -/
def planSpreadsUptoRow : OpenClaim := { program := "ytbffkkeieihpdaagreatdoor", sum := "9d5eb4f7ee721facb032739968112a9dd6d73520863542bcc33539658457f898", func := "sluice/sluicelaw8.PlanSpreads", spec := "planSpreads", unfollowed := true, recurses := true, named := ["sluice/api.Keywords"], apart := false, laid := [("sluice/api.Keywords", laid_sluice_api_Keywords)], narrowed := true }
def PlanSpreadsUptoSaid : Prop := planSpreadsUptoRow.holds Tryz.pinned (OpenSpec.upto planSpreadsSpec)

/-- 'sluicelaw8.PlanKeys', WHERE WHAT IT READS IS OF BULK AT MOST 1048576: true; the input reads as it did. -/
def planKeysUptoRow : OpenClaim := { program := "ytbffkkeieihpdaagreatdoor", sum := "9d5eb4f7ee721facb032739968112a9dd6d73520863542bcc33539658457f898", func := "sluice/sluicelaw8.PlanKeys", spec := "planKeys", unfollowed := true, recurses := true, named := ["sluice/api.Keywords"], apart := false, laid := [("sluice/api.Keywords", laid_sluice_api_Keywords)], narrowed := true }
def PlanKeysUptoSaid : Prop := planKeysUptoRow.holds Tryz.pinned (OpenSpec.upto planKeysSpec)

/-- 'sluicelaw8.PlanTakes', WHERE WHAT IT READS IS OF BULK AT MOST 1048576: true; the input reads as it did. -/
def planTakesUptoRow : OpenClaim := { program := "ytbffkkeieihpdaagreatdoor", sum := "9d5eb4f7ee721facb032739968112a9dd6d73520863542bcc33539658457f898", func := "sluice/sluicelaw8.PlanTakes", spec := "planTakes", inPlace := ["math/bits.Add64"], unfollowed := true, recurses := true, named := ["sluice/api.Keywords", "sluice/code.operands", "sluice/num.unknown", "sluice/num.other", "sluice/num.both", "sluice/num.either", "sluice/num.yes", "sluice/num.no"], apart := false, laid := [("sluice/api.Keywords", laid_sluice_api_Keywords), ("sluice/num.no", laid_sluice_num_no), ("sluice/num.unknown", laid_sluice_num_unknown), ("sluice/num.yes", laid_sluice_num_yes), ("sluice/num.both", laid_sluice_num_both), ("sluice/num.either", laid_sluice_num_either), ("sluice/num.other", laid_sluice_num_other), ("sluice/code.operands", laid_sluice_code_operands)], narrowed := true }
def PlanTakesUptoSaid : Prop := planTakesUptoRow.holds Tryz.pinned (OpenSpec.upto planTakesSpec)

/-- 'sluicelaw8.PlanGuards', WHERE WHAT IT READS IS OF BULK AT MOST 1048576: true; the input reads as it did. -/
def planGuardsUptoRow : OpenClaim := { program := "ytbffkkeieihpdaagreatdoor", sum := "9d5eb4f7ee721facb032739968112a9dd6d73520863542bcc33539658457f898", func := "sluice/sluicelaw8.PlanGuards", spec := "planGuards", inPlace := ["math/bits.Add64"], unfollowed := true, recurses := true, named := ["sluice/api.Keywords", "sluice/code.operands", "sluice/num.unknown", "sluice/num.other", "sluice/num.both", "sluice/num.either", "sluice/num.yes", "sluice/num.no"], apart := false, laid := [("sluice/api.Keywords", laid_sluice_api_Keywords), ("sluice/num.no", laid_sluice_num_no), ("sluice/num.unknown", laid_sluice_num_unknown), ("sluice/num.yes", laid_sluice_num_yes), ("sluice/num.both", laid_sluice_num_both), ("sluice/num.either", laid_sluice_num_either), ("sluice/num.other", laid_sluice_num_other), ("sluice/code.operands", laid_sluice_code_operands)], narrowed := true }
def PlanGuardsUptoSaid : Prop := planGuardsUptoRow.holds Tryz.pinned (OpenSpec.upto planGuardsSpec)

/-- 'sluicelaw8.PlanPlaces', WHERE WHAT IT READS IS OF BULK AT MOST 1048576: true; the input reads as it did. -/
def planPlacesUptoRow : OpenClaim := { program := "ytbffkkeieihpdaagreatdoor", sum := "9d5eb4f7ee721facb032739968112a9dd6d73520863542bcc33539658457f898", func := "sluice/sluicelaw8.PlanPlaces", spec := "planPlaces", inPlace := ["math/bits.Add64"], unfollowed := true, recurses := true, named := ["sluice/api.Keywords", "sluice/code.operands", "sluice/num.unknown", "sluice/num.other", "sluice/num.both", "sluice/num.either", "sluice/num.yes", "sluice/num.no"], apart := false, laid := [("sluice/api.Keywords", laid_sluice_api_Keywords), ("sluice/num.no", laid_sluice_num_no), ("sluice/num.unknown", laid_sluice_num_unknown), ("sluice/num.yes", laid_sluice_num_yes), ("sluice/num.both", laid_sluice_num_both), ("sluice/num.either", laid_sluice_num_either), ("sluice/num.other", laid_sluice_num_other), ("sluice/code.operands", laid_sluice_code_operands)], narrowed := true }
def PlanPlacesUptoSaid : Prop := planPlacesUptoRow.holds Tryz.pinned (OpenSpec.upto planPlacesSpec)

/-- 'sluicelaw8.PlanNames', WHERE WHAT IT READS IS OF BULK AT MOST 1048576: true; the input reads as it did. -/
def planNamesUptoRow : OpenClaim := { program := "ytbffkkeieihpdaagreatdoor", sum := "9d5eb4f7ee721facb032739968112a9dd6d73520863542bcc33539658457f898", func := "sluice/sluicelaw8.PlanNames", spec := "planNames", inPlace := ["math/bits.Add64"], unfollowed := true, recurses := true, named := ["sluice/api.Keywords", "sluice/code.operands", "sluice/num.unknown", "sluice/num.other", "sluice/num.both", "sluice/num.either", "sluice/num.yes", "sluice/num.no"], apart := false, laid := [("sluice/api.Keywords", laid_sluice_api_Keywords), ("sluice/num.no", laid_sluice_num_no), ("sluice/num.unknown", laid_sluice_num_unknown), ("sluice/num.yes", laid_sluice_num_yes), ("sluice/num.both", laid_sluice_num_both), ("sluice/num.either", laid_sluice_num_either), ("sluice/num.other", laid_sluice_num_other), ("sluice/code.operands", laid_sluice_code_operands)], narrowed := true }
def PlanNamesUptoSaid : Prop := planNamesUptoRow.holds Tryz.pinned (OpenSpec.upto planNamesSpec)

/-- 'sluicelaw8.PlanOwn', WHERE WHAT IT READS IS OF BULK AT MOST 1048576: true; the input reads as it did. -/
def planOwnUptoRow : OpenClaim := { program := "ytbffkkeieihpdaagreatdoor", sum := "9d5eb4f7ee721facb032739968112a9dd6d73520863542bcc33539658457f898", func := "sluice/sluicelaw8.PlanOwn", spec := "planOwn", inPlace := ["math/bits.Add64"], unfollowed := true, recurses := true, named := ["sluice/api.Keywords", "sluice/code.operands", "sluice/num.unknown", "sluice/num.other", "sluice/num.both", "sluice/num.either", "sluice/num.yes", "sluice/num.no"], apart := false, laid := [("sluice/api.Keywords", laid_sluice_api_Keywords), ("sluice/num.no", laid_sluice_num_no), ("sluice/num.unknown", laid_sluice_num_unknown), ("sluice/num.yes", laid_sluice_num_yes), ("sluice/num.both", laid_sluice_num_both), ("sluice/num.either", laid_sluice_num_either), ("sluice/num.other", laid_sluice_num_other), ("sluice/code.operands", laid_sluice_code_operands)], narrowed := true }
def PlanOwnUptoSaid : Prop := planOwnUptoRow.holds Tryz.pinned (OpenSpec.upto planOwnSpec)

/-- 'sluicelaw8.PlanEarly', WHERE WHAT IT READS IS OF BULK AT MOST 1048576: true; the input reads as it did. -/
def planEarlyUptoRow : OpenClaim := { program := "ytbffkkeieihpdaagreatdoor", sum := "9d5eb4f7ee721facb032739968112a9dd6d73520863542bcc33539658457f898", func := "sluice/sluicelaw8.PlanEarly", spec := "planEarly", inPlace := ["math/bits.Add64"], unfollowed := true, recurses := true, named := ["sluice/api.Keywords", "sluice/code.operands", "sluice/num.unknown", "sluice/num.other", "sluice/num.both", "sluice/num.either", "sluice/num.yes", "sluice/num.no"], apart := false, laid := [("sluice/api.Keywords", laid_sluice_api_Keywords), ("sluice/num.no", laid_sluice_num_no), ("sluice/num.unknown", laid_sluice_num_unknown), ("sluice/num.yes", laid_sluice_num_yes), ("sluice/num.both", laid_sluice_num_both), ("sluice/num.either", laid_sluice_num_either), ("sluice/num.other", laid_sluice_num_other), ("sluice/code.operands", laid_sluice_code_operands)], narrowed := true }
def PlanEarlyUptoSaid : Prop := planEarlyUptoRow.holds Tryz.pinned (OpenSpec.upto planEarlySpec)

/-- 'sluicelaw8.PlanNegations', WHERE WHAT IT READS IS OF BULK AT MOST 1048576: true; the input reads as it did. -/
def planNegationsUptoRow : OpenClaim := { program := "ytbffkkeieihpdaagreatdoor", sum := "9d5eb4f7ee721facb032739968112a9dd6d73520863542bcc33539658457f898", func := "sluice/sluicelaw8.PlanNegations", spec := "planNegations", inPlace := ["math/bits.Add64"], unfollowed := true, recurses := true, named := ["sluice/api.Keywords", "sluice/code.operands", "sluice/num.unknown", "sluice/num.other", "sluice/num.both", "sluice/num.either", "sluice/num.yes", "sluice/num.no"], apart := false, laid := [("sluice/api.Keywords", laid_sluice_api_Keywords), ("sluice/num.no", laid_sluice_num_no), ("sluice/num.unknown", laid_sluice_num_unknown), ("sluice/num.yes", laid_sluice_num_yes), ("sluice/num.both", laid_sluice_num_both), ("sluice/num.either", laid_sluice_num_either), ("sluice/num.other", laid_sluice_num_other), ("sluice/code.operands", laid_sluice_code_operands)], narrowed := true }
def PlanNegationsUptoSaid : Prop := planNegationsUptoRow.holds Tryz.pinned (OpenSpec.upto planNegationsSpec)

/-- 'sluicelaw8.PlanWhere', WHERE WHAT IT READS IS OF BULK AT MOST 1048576: true; the input reads as it did. -/
def planWhereUptoRow : OpenClaim := { program := "ytbffkkeieihpdaagreatdoor", sum := "9d5eb4f7ee721facb032739968112a9dd6d73520863542bcc33539658457f898", func := "sluice/sluicelaw8.PlanWhere", spec := "planWhere", inPlace := ["math/bits.Add64"], unfollowed := true, recurses := true, named := ["sluice/api.Keywords", "sluice/code.operands", "sluice/num.unknown", "sluice/num.other", "sluice/num.both", "sluice/num.either", "sluice/num.yes", "sluice/num.no"], apart := false, laid := [("sluice/api.Keywords", laid_sluice_api_Keywords), ("sluice/num.no", laid_sluice_num_no), ("sluice/num.unknown", laid_sluice_num_unknown), ("sluice/num.yes", laid_sluice_num_yes), ("sluice/num.both", laid_sluice_num_both), ("sluice/num.either", laid_sluice_num_either), ("sluice/num.other", laid_sluice_num_other), ("sluice/code.operands", laid_sluice_code_operands)], narrowed := true }
def PlanWhereUptoSaid : Prop := planWhereUptoRow.holds Tryz.pinned (OpenSpec.upto planWhereSpec)

end Rows
end Go.Proofs.YtbffkkeieihpdaaGreatDoor
