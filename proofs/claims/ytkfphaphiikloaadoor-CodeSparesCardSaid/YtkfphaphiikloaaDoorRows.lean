/-
  NARROWER THAN 'FOR EVERY INPUT', by the rows' own cells (each row's printed sentence says how): CodeCompiles: laid · CodeRuns: laid · CodeEvery: laid · CodeEvals: laid · CodeSpares: laid · CodeAgrees: laid · CodeComposes: laid · CodeSkips: laid · CodeFrame: laid · CodeConjuncts: laid · CodeRenames: laid.
  DERIVED. THE GIVEN ROWS OF THIS SEAT. 11 by the template 'for every input the law returns true; each argument reads behind the call as it read before'; 0 by the template 'total and deterministic' (their statements: YtkfphaphiikloaaDoorTotals.lean).
  GIVEN WITH THE SEED: the statements are not yours to turn. If you find one false, say at which input.
  Laid BY PROGRAM, IN A SANDBOX (cutbox-rows.mjs): the forced cells as the released guide's own fill.sh prints them over the translation 75fba426b63aa414… (all of the seat's roots in one cut). By AI agents, Wed Nov 11 2026. No macro, syntax, notation, axiom, sorry.
-/
import Derived.Test.YtkfphaphiikloaaDoorChecked
import GoSem.Claim
import GoSem.ClaimJoined
import GoSem.ClaimMapViews
import Derived.JoinedTies
import Derived.KernelRfl
namespace Go.Proofs.YtkfphaphiikloaaDoor
/- THE CELL 'sum', in the pinned program and in every row, IS THE sha256 OF THE DUMP (.gsa) THAT YtkfphaphiikloaaDoorProg.lean LOADS. Nothing in Lean hashes anything: it is a label: what it is worth is what the hold of that sum in a sandbox is worth. -/
noncomputable def Tryd.pinned : Pinned := { name := "ytkfphaphiikloaadoor", sum := "75fba426b63aa4146461346b0d815903d160ee91e370d71b148914c1b0aa5e2b", checked := Tryd.checked }
namespace Rows
def none {H : Type} : Left H := { results := [], args := [] }

/- WHAT THE LISTED PACKAGE-LEVEL VARIABLES READ AS WHEN THE CALL BEGINS. Each datum BY PROGRAM (the guide's laid-datum.mjs) off the statement by which the dump's own 'gosem.cut.vars' lays the variable. In a bare row this is a premise. The card (YtkfphaphiikloaaDoorCards.lean) ties it to the program's text. -/
def laid_sluice_api_Keywords {H : Type} : DataW H := .agg [.lit (.string [80, 65, 84, 84, 69, 82, 78]), .lit (.string [83, 69, 81]), .lit (.string [85, 83, 73, 78, 71]), .lit (.string [65, 78, 89]), .lit (.string [78, 69, 88, 84]), .lit (.string [83, 84, 82, 73, 67, 84]), .lit (.string [87, 72, 69, 82, 69]), .lit (.string [87, 73, 84, 72, 73, 78]), .lit (.string [80, 65, 82, 84, 73, 84, 73, 79, 78]), .lit (.string [66, 89]), .lit (.string [82, 69, 84, 85, 82, 78]), .lit (.string [65, 78, 68]), .lit (.string [79, 82]), .lit (.string [78, 79, 84]), .lit (.string [84, 82, 85, 69]), .lit (.string [70, 65, 76, 83, 69]), .lit (.string [67, 79, 85, 78, 84]), .lit (.string [83, 85, 77]), .lit (.string [77, 73, 78]), .lit (.string [77, 65, 88]), .lit (.string [70, 73, 82, 83, 84]), .lit (.string [76, 65, 83, 84]), .lit (.string [80, 82, 69, 86]), .lit (.string [65, 70, 84, 69, 82]), .lit (.string [65, 76, 76]), .lit (.string [80, 65, 83, 84]), .lit (.string [79, 78, 67, 69])]
def laid_sluice_num_no {H : Type} : DataW H := .agg [.lit (.bool true), .lit (.int .i64 0)]
def laid_sluice_num_unknown {H : Type} : DataW H := .agg [.lit (.bool false), .lit (.int .i64 0)]
def laid_sluice_num_yes {H : Type} : DataW H := .agg [.lit (.bool true), .lit (.int .i64 1)]
def laid_sluice_num_both {H : Type} : DataW H := .agg [.agg [.agg [.lit (.bool true), .lit (.int .i64 0)], .agg [.lit (.bool true), .lit (.int .i64 0)], .agg [.lit (.bool true), .lit (.int .i64 0)]], .agg [.agg [.lit (.bool true), .lit (.int .i64 0)], .agg [.lit (.bool false), .lit (.int .i64 0)], .agg [.lit (.bool false), .lit (.int .i64 0)]], .agg [.agg [.lit (.bool true), .lit (.int .i64 0)], .agg [.lit (.bool false), .lit (.int .i64 0)], .agg [.lit (.bool true), .lit (.int .i64 1)]]]
def laid_sluice_num_either {H : Type} : DataW H := .agg [.agg [.agg [.lit (.bool true), .lit (.int .i64 0)], .agg [.lit (.bool false), .lit (.int .i64 0)], .agg [.lit (.bool true), .lit (.int .i64 1)]], .agg [.agg [.lit (.bool false), .lit (.int .i64 0)], .agg [.lit (.bool false), .lit (.int .i64 0)], .agg [.lit (.bool true), .lit (.int .i64 1)]], .agg [.agg [.lit (.bool true), .lit (.int .i64 1)], .agg [.lit (.bool true), .lit (.int .i64 1)], .agg [.lit (.bool true), .lit (.int .i64 1)]]]
def laid_sluice_num_other {H : Type} : DataW H := .agg [.agg [.lit (.bool true), .lit (.int .i64 1)], .agg [.lit (.bool false), .lit (.int .i64 0)], .agg [.lit (.bool true), .lit (.int .i64 0)]]
def laid_sluice_code_operands {H : Type} : DataW H := .agg [.lit (.int .i64 (-1)), .lit (.int .i64 0), .lit (.int .i64 0), .lit (.int .i64 0), .lit (.int .i64 0), .lit (.int .i64 0), .lit (.int .i64 0), .lit (.int .i64 0), .lit (.int .i64 0), .lit (.int .i64 0), .lit (.int .i64 1), .lit (.int .i64 1), .lit (.int .i64 2), .lit (.int .i64 2), .lit (.int .i64 2), .lit (.int .i64 2), .lit (.int .i64 2), .lit (.int .i64 2), .lit (.int .i64 2), .lit (.int .i64 2), .lit (.int .i64 2), .lit (.int .i64 2), .lit (.int .i64 2), .lit (.int .i64 2), .lit (.int .i64 2), .lit (.int .i64 1), .lit (.int .i64 1)]
def laid_math_bits_deBruijn32tab {H : Type} : DataW H := .agg [.lit (.int .u8 0), .lit (.int .u8 1), .lit (.int .u8 28), .lit (.int .u8 2), .lit (.int .u8 29), .lit (.int .u8 14), .lit (.int .u8 24), .lit (.int .u8 3), .lit (.int .u8 30), .lit (.int .u8 22), .lit (.int .u8 20), .lit (.int .u8 15), .lit (.int .u8 25), .lit (.int .u8 17), .lit (.int .u8 4), .lit (.int .u8 8), .lit (.int .u8 31), .lit (.int .u8 27), .lit (.int .u8 13), .lit (.int .u8 23), .lit (.int .u8 21), .lit (.int .u8 19), .lit (.int .u8 16), .lit (.int .u8 7), .lit (.int .u8 26), .lit (.int .u8 12), .lit (.int .u8 18), .lit (.int .u8 6), .lit (.int .u8 11), .lit (.int .u8 5), .lit (.int .u8 10), .lit (.int .u8 9)]
def laid_math_bits_deBruijn64tab {H : Type} : DataW H := .agg [.lit (.int .u8 0), .lit (.int .u8 1), .lit (.int .u8 56), .lit (.int .u8 2), .lit (.int .u8 57), .lit (.int .u8 49), .lit (.int .u8 28), .lit (.int .u8 3), .lit (.int .u8 61), .lit (.int .u8 58), .lit (.int .u8 42), .lit (.int .u8 50), .lit (.int .u8 38), .lit (.int .u8 29), .lit (.int .u8 17), .lit (.int .u8 4), .lit (.int .u8 62), .lit (.int .u8 47), .lit (.int .u8 59), .lit (.int .u8 36), .lit (.int .u8 45), .lit (.int .u8 43), .lit (.int .u8 51), .lit (.int .u8 22), .lit (.int .u8 53), .lit (.int .u8 39), .lit (.int .u8 33), .lit (.int .u8 30), .lit (.int .u8 24), .lit (.int .u8 18), .lit (.int .u8 12), .lit (.int .u8 5), .lit (.int .u8 63), .lit (.int .u8 55), .lit (.int .u8 48), .lit (.int .u8 27), .lit (.int .u8 60), .lit (.int .u8 41), .lit (.int .u8 37), .lit (.int .u8 16), .lit (.int .u8 46), .lit (.int .u8 35), .lit (.int .u8 44), .lit (.int .u8 21), .lit (.int .u8 52), .lit (.int .u8 32), .lit (.int .u8 23), .lit (.int .u8 11), .lit (.int .u8 54), .lit (.int .u8 26), .lit (.int .u8 40), .lit (.int .u8 15), .lit (.int .u8 34), .lit (.int .u8 20), .lit (.int .u8 31), .lit (.int .u8 10), .lit (.int .u8 25), .lit (.int .u8 14), .lit (.int .u8 19), .lit (.int .u8 9), .lit (.int .u8 13), .lit (.int .u8 8), .lit (.int .u8 7), .lit (.int .u8 6)]
def laid_internal_strconv_uint64pow10 {H : Type} : DataW H := .agg [.lit (.int .u64 1), .lit (.int .u64 10), .lit (.int .u64 100), .lit (.int .u64 1000), .lit (.int .u64 10000), .lit (.int .u64 100000), .lit (.int .u64 1000000), .lit (.int .u64 10000000), .lit (.int .u64 100000000), .lit (.int .u64 1000000000), .lit (.int .u64 10000000000), .lit (.int .u64 100000000000), .lit (.int .u64 1000000000000), .lit (.int .u64 10000000000000), .lit (.int .u64 100000000000000), .lit (.int .u64 1000000000000000), .lit (.int .u64 10000000000000000), .lit (.int .u64 100000000000000000), .lit (.int .u64 1000000000000000000), .lit (.int .u64 10000000000000000000)]

/-- 'sluicelaw7.CodeCompiles': WHATEVER THE INPUT: true; the input reads as it did. -/
def codeCompilesSpec : ChangeSpec := { name := "codeCompiles", fn := fun _ => fun
  | [d1, d2, d3] => { results := [.lit (.bool true)], args := [d1, d2, d3] }
  | _ => none }
def codeCompilesRow : OpenClaim := { program := "ytkfphaphiikloaadoor", sum := "75fba426b63aa4146461346b0d815903d160ee91e370d71b148914c1b0aa5e2b", func := "sluice/sluicelaw7.CodeCompiles", spec := "codeCompiles", named := ["sluice/api.Keywords"], apart := false, laid := [("sluice/api.Keywords", laid_sluice_api_Keywords)] }
def CodeCompilesSaid : Prop := codeCompilesRow.holds Tryd.pinned (OpenSpec.ofChange codeCompilesSpec)

/-- ITS FALSE NEIGHBOUR: 'it returns false'. Refute it at one input. -/
def codeCompilesWrong : ChangeSpec := { name := "codeCompiles", fn := fun _ => fun
  | [d1, d2, d3] => { results := [.lit (.bool false)], args := [d1, d2, d3] }
  | _ => none }
def CodeCompilesWrongFalsely : Prop := codeCompilesRow.holds Tryd.pinned (OpenSpec.ofChange codeCompilesWrong)

/-- 'sluicelaw7.CodeRuns': WHATEVER THE INPUT: true; the input reads as it did. -/
def codeRunsSpec : ChangeSpec := { name := "codeRuns", fn := fun _ => fun
  | [d1, d2] => { results := [.lit (.bool true)], args := [d1, d2] }
  | _ => none }
def codeRunsRow : OpenClaim := { program := "ytkfphaphiikloaadoor", sum := "75fba426b63aa4146461346b0d815903d160ee91e370d71b148914c1b0aa5e2b", func := "sluice/sluicelaw7.CodeRuns", spec := "codeRuns", inPlace := ["math/bits.Add64"], named := ["sluice/code.operands", "sluice/num.unknown", "sluice/num.other", "sluice/num.both", "sluice/num.either", "sluice/num.yes", "sluice/num.no"], apart := false, laid := [("sluice/num.no", laid_sluice_num_no), ("sluice/num.unknown", laid_sluice_num_unknown), ("sluice/num.yes", laid_sluice_num_yes), ("sluice/num.both", laid_sluice_num_both), ("sluice/num.either", laid_sluice_num_either), ("sluice/num.other", laid_sluice_num_other), ("sluice/code.operands", laid_sluice_code_operands)] }
def CodeRunsSaid : Prop := codeRunsRow.holds Tryd.pinned (OpenSpec.ofChange codeRunsSpec)

/-- ITS FALSE NEIGHBOUR: 'it returns false'. Refute it at one input. -/
def codeRunsWrong : ChangeSpec := { name := "codeRuns", fn := fun _ => fun
  | [d1, d2] => { results := [.lit (.bool false)], args := [d1, d2] }
  | _ => none }
def CodeRunsWrongFalsely : Prop := codeRunsRow.holds Tryd.pinned (OpenSpec.ofChange codeRunsWrong)

/-- 'sluicelaw7.CodeEvery': WHATEVER THE INPUT: true; the input reads as it did. -/
def codeEverySpec : ChangeSpec := { name := "codeEvery", fn := fun _ => fun
  | [d1, d2] => { results := [.lit (.bool true)], args := [d1, d2] }
  | _ => none }
def codeEveryRow : OpenClaim := { program := "ytkfphaphiikloaadoor", sum := "75fba426b63aa4146461346b0d815903d160ee91e370d71b148914c1b0aa5e2b", func := "sluice/sluicelaw7.CodeEvery", spec := "codeEvery", inPlace := ["math/bits.Add64"], named := ["sluice/code.operands", "sluice/num.unknown", "sluice/num.other", "sluice/num.both", "sluice/num.either", "sluice/num.yes", "sluice/num.no"], apart := false, laid := [("sluice/num.no", laid_sluice_num_no), ("sluice/num.unknown", laid_sluice_num_unknown), ("sluice/num.yes", laid_sluice_num_yes), ("sluice/num.both", laid_sluice_num_both), ("sluice/num.either", laid_sluice_num_either), ("sluice/num.other", laid_sluice_num_other), ("sluice/code.operands", laid_sluice_code_operands)] }
def CodeEverySaid : Prop := codeEveryRow.holds Tryd.pinned (OpenSpec.ofChange codeEverySpec)

/-- ITS FALSE NEIGHBOUR: 'it returns false'. Refute it at one input. -/
def codeEveryWrong : ChangeSpec := { name := "codeEvery", fn := fun _ => fun
  | [d1, d2] => { results := [.lit (.bool false)], args := [d1, d2] }
  | _ => none }
def CodeEveryWrongFalsely : Prop := codeEveryRow.holds Tryd.pinned (OpenSpec.ofChange codeEveryWrong)

/-- 'sluicelaw7.CodeEvals': WHATEVER THE INPUT: true; the input reads as it did. -/
def codeEvalsSpec : ChangeSpec := { name := "codeEvals", fn := fun _ => fun
  | [d1, d2, d3, d4] => { results := [.lit (.bool true)], args := [d1, d2, d3, d4] }
  | _ => none }
def codeEvalsRow : OpenClaim := { program := "ytkfphaphiikloaadoor", sum := "75fba426b63aa4146461346b0d815903d160ee91e370d71b148914c1b0aa5e2b", func := "sluice/sluicelaw7.CodeEvals", spec := "codeEvals", inPlace := ["math/bits.Add64"], recurses := true, named := ["sluice/api.Keywords", "sluice/num.unknown", "sluice/num.other", "sluice/num.both", "sluice/num.either", "sluice/num.yes", "sluice/num.no"], apart := false, laid := [("sluice/api.Keywords", laid_sluice_api_Keywords), ("sluice/num.no", laid_sluice_num_no), ("sluice/num.unknown", laid_sluice_num_unknown), ("sluice/num.yes", laid_sluice_num_yes), ("sluice/num.both", laid_sluice_num_both), ("sluice/num.either", laid_sluice_num_either), ("sluice/num.other", laid_sluice_num_other)] }
def CodeEvalsSaid : Prop := codeEvalsRow.holds Tryd.pinned (OpenSpec.ofChange codeEvalsSpec)

/-- ITS FALSE NEIGHBOUR: 'it returns false'. Refute it at one input. -/
def codeEvalsWrong : ChangeSpec := { name := "codeEvals", fn := fun _ => fun
  | [d1, d2, d3, d4] => { results := [.lit (.bool false)], args := [d1, d2, d3, d4] }
  | _ => none }
def CodeEvalsWrongFalsely : Prop := codeEvalsRow.holds Tryd.pinned (OpenSpec.ofChange codeEvalsWrong)

/-- 'sluicelaw7.CodeSpares': WHATEVER THE INPUT: true; the input reads as it did. -/
def codeSparesSpec : ChangeSpec := { name := "codeSpares", fn := fun _ => fun
  | [d1, d2, d3, d4] => { results := [.lit (.bool true)], args := [d1, d2, d3, d4] }
  | _ => none }
def codeSparesRow : OpenClaim := { program := "ytkfphaphiikloaadoor", sum := "75fba426b63aa4146461346b0d815903d160ee91e370d71b148914c1b0aa5e2b", func := "sluice/sluicelaw7.CodeSpares", spec := "codeSpares", inPlace := ["math/bits.Add64"], recurses := true, named := ["sluice/api.Keywords", "sluice/num.unknown", "sluice/num.other", "sluice/num.both", "sluice/num.either", "sluice/num.yes", "sluice/num.no", "sluice/code.operands"], apart := false, laid := [("sluice/api.Keywords", laid_sluice_api_Keywords), ("sluice/num.no", laid_sluice_num_no), ("sluice/num.unknown", laid_sluice_num_unknown), ("sluice/num.yes", laid_sluice_num_yes), ("sluice/num.both", laid_sluice_num_both), ("sluice/num.either", laid_sluice_num_either), ("sluice/num.other", laid_sluice_num_other), ("sluice/code.operands", laid_sluice_code_operands)] }
def CodeSparesSaid : Prop := codeSparesRow.holds Tryd.pinned (OpenSpec.ofChange codeSparesSpec)

/-- ITS FALSE NEIGHBOUR: 'it returns false'. Refute it at one input. -/
def codeSparesWrong : ChangeSpec := { name := "codeSpares", fn := fun _ => fun
  | [d1, d2, d3, d4] => { results := [.lit (.bool false)], args := [d1, d2, d3, d4] }
  | _ => none }
def CodeSparesWrongFalsely : Prop := codeSparesRow.holds Tryd.pinned (OpenSpec.ofChange codeSparesWrong)

/-- 'sluicelaw7.CodeAgrees': WHATEVER THE INPUT: true; the input reads as it did. -/
def codeAgreesSpec : ChangeSpec := { name := "codeAgrees", fn := fun _ => fun
  | [d1, d2, d3, d4] => { results := [.lit (.bool true)], args := [d1, d2, d3, d4] }
  | _ => none }
def codeAgreesRow : OpenClaim := { program := "ytkfphaphiikloaadoor", sum := "75fba426b63aa4146461346b0d815903d160ee91e370d71b148914c1b0aa5e2b", func := "sluice/sluicelaw7.CodeAgrees", spec := "codeAgrees", inPlace := ["math/bits.Add64"], recurses := true, named := ["sluice/api.Keywords", "sluice/num.unknown", "sluice/num.other", "sluice/num.both", "sluice/num.either", "sluice/num.yes", "sluice/num.no", "sluice/code.operands"], apart := false, laid := [("sluice/api.Keywords", laid_sluice_api_Keywords), ("sluice/num.no", laid_sluice_num_no), ("sluice/num.unknown", laid_sluice_num_unknown), ("sluice/num.yes", laid_sluice_num_yes), ("sluice/num.both", laid_sluice_num_both), ("sluice/num.either", laid_sluice_num_either), ("sluice/num.other", laid_sluice_num_other), ("sluice/code.operands", laid_sluice_code_operands)] }
def CodeAgreesSaid : Prop := codeAgreesRow.holds Tryd.pinned (OpenSpec.ofChange codeAgreesSpec)

/-- ITS FALSE NEIGHBOUR: 'it returns false'. Refute it at one input. -/
def codeAgreesWrong : ChangeSpec := { name := "codeAgrees", fn := fun _ => fun
  | [d1, d2, d3, d4] => { results := [.lit (.bool false)], args := [d1, d2, d3, d4] }
  | _ => none }
def CodeAgreesWrongFalsely : Prop := codeAgreesRow.holds Tryd.pinned (OpenSpec.ofChange codeAgreesWrong)

/-- 'sluicelaw7.CodeComposes': WHATEVER THE INPUT: true; the input reads as it did. -/
def codeComposesSpec : ChangeSpec := { name := "codeComposes", fn := fun _ => fun
  | [d1, d2, d3, d4, d5, d6] => { results := [.lit (.bool true)], args := [d1, d2, d3, d4, d5, d6] }
  | _ => none }
def codeComposesRow : OpenClaim := { program := "ytkfphaphiikloaadoor", sum := "75fba426b63aa4146461346b0d815903d160ee91e370d71b148914c1b0aa5e2b", func := "sluice/sluicelaw7.CodeComposes", spec := "codeComposes", inPlace := ["math/bits.Add64"], recurses := true, named := ["sluice/api.Keywords", "sluice/num.unknown", "sluice/num.other", "sluice/num.both", "sluice/num.either", "sluice/num.yes", "sluice/num.no", "sluice/code.operands"], apart := false, laid := [("sluice/api.Keywords", laid_sluice_api_Keywords), ("sluice/num.no", laid_sluice_num_no), ("sluice/num.unknown", laid_sluice_num_unknown), ("sluice/num.yes", laid_sluice_num_yes), ("sluice/num.both", laid_sluice_num_both), ("sluice/num.either", laid_sluice_num_either), ("sluice/num.other", laid_sluice_num_other), ("sluice/code.operands", laid_sluice_code_operands)] }
def CodeComposesSaid : Prop := codeComposesRow.holds Tryd.pinned (OpenSpec.ofChange codeComposesSpec)

/-- ITS FALSE NEIGHBOUR: 'it returns false'. Refute it at one input. -/
def codeComposesWrong : ChangeSpec := { name := "codeComposes", fn := fun _ => fun
  | [d1, d2, d3, d4, d5, d6] => { results := [.lit (.bool false)], args := [d1, d2, d3, d4, d5, d6] }
  | _ => none }
def CodeComposesWrongFalsely : Prop := codeComposesRow.holds Tryd.pinned (OpenSpec.ofChange codeComposesWrong)

/-- 'sluicelaw7.CodeSkips': WHATEVER THE INPUT: true; the input reads as it did. -/
def codeSkipsSpec : ChangeSpec := { name := "codeSkips", fn := fun _ => fun
  | [d1, d2, d3, d4, d5, d6] => { results := [.lit (.bool true)], args := [d1, d2, d3, d4, d5, d6] }
  | _ => none }
def codeSkipsRow : OpenClaim := { program := "ytkfphaphiikloaadoor", sum := "75fba426b63aa4146461346b0d815903d160ee91e370d71b148914c1b0aa5e2b", func := "sluice/sluicelaw7.CodeSkips", spec := "codeSkips", inPlace := ["math/bits.Add64"], recurses := true, named := ["sluice/api.Keywords", "sluice/num.unknown", "sluice/num.other", "sluice/num.both", "sluice/num.either", "sluice/num.yes", "sluice/num.no", "sluice/code.operands"], apart := false, laid := [("sluice/api.Keywords", laid_sluice_api_Keywords), ("sluice/num.no", laid_sluice_num_no), ("sluice/num.unknown", laid_sluice_num_unknown), ("sluice/num.yes", laid_sluice_num_yes), ("sluice/num.both", laid_sluice_num_both), ("sluice/num.either", laid_sluice_num_either), ("sluice/num.other", laid_sluice_num_other), ("sluice/code.operands", laid_sluice_code_operands)] }
def CodeSkipsSaid : Prop := codeSkipsRow.holds Tryd.pinned (OpenSpec.ofChange codeSkipsSpec)

/-- ITS FALSE NEIGHBOUR: 'it returns false'. Refute it at one input. -/
def codeSkipsWrong : ChangeSpec := { name := "codeSkips", fn := fun _ => fun
  | [d1, d2, d3, d4, d5, d6] => { results := [.lit (.bool false)], args := [d1, d2, d3, d4, d5, d6] }
  | _ => none }
def CodeSkipsWrongFalsely : Prop := codeSkipsRow.holds Tryd.pinned (OpenSpec.ofChange codeSkipsWrong)

/-- 'sluicelaw7.CodeFrame': WHATEVER THE INPUT: true; the input reads as it did. -/
def codeFrameSpec : ChangeSpec := { name := "codeFrame", fn := fun _ => fun
  | [d1, d2, d3, d4, d5] => { results := [.lit (.bool true)], args := [d1, d2, d3, d4, d5] }
  | _ => none }
def codeFrameRow : OpenClaim := { program := "ytkfphaphiikloaadoor", sum := "75fba426b63aa4146461346b0d815903d160ee91e370d71b148914c1b0aa5e2b", func := "sluice/sluicelaw7.CodeFrame", spec := "codeFrame", inPlace := ["math/bits.Add64"], unfollowed := true, recurses := true, named := ["sluice/api.Keywords", "sluice/num.unknown", "sluice/num.other", "sluice/num.both", "sluice/num.either", "sluice/num.yes", "sluice/num.no", "sluice/code.operands"], apart := false, laid := [("sluice/api.Keywords", laid_sluice_api_Keywords), ("sluice/num.no", laid_sluice_num_no), ("sluice/num.unknown", laid_sluice_num_unknown), ("sluice/num.yes", laid_sluice_num_yes), ("sluice/num.both", laid_sluice_num_both), ("sluice/num.either", laid_sluice_num_either), ("sluice/num.other", laid_sluice_num_other), ("sluice/code.operands", laid_sluice_code_operands)] }
def CodeFrameSaid : Prop := codeFrameRow.holds Tryd.pinned (OpenSpec.ofChange codeFrameSpec)

/-- ITS FALSE NEIGHBOUR: 'it returns false'. Refute it at one input. -/
def codeFrameWrong : ChangeSpec := { name := "codeFrame", fn := fun _ => fun
  | [d1, d2, d3, d4, d5] => { results := [.lit (.bool false)], args := [d1, d2, d3, d4, d5] }
  | _ => none }
def CodeFrameWrongFalsely : Prop := codeFrameRow.holds Tryd.pinned (OpenSpec.ofChange codeFrameWrong)

/-- 'sluicelaw7.CodeConjuncts': WHATEVER THE INPUT: true; the input reads as it did. -/
def codeConjunctsSpec : ChangeSpec := { name := "codeConjuncts", fn := fun _ => fun
  | [d1, d2, d3, d4] => { results := [.lit (.bool true)], args := [d1, d2, d3, d4] }
  | _ => none }
def codeConjunctsRow : OpenClaim := { program := "ytkfphaphiikloaadoor", sum := "75fba426b63aa4146461346b0d815903d160ee91e370d71b148914c1b0aa5e2b", func := "sluice/sluicelaw7.CodeConjuncts", spec := "codeConjuncts", inPlace := ["math/bits.Add64"], unfollowed := true, recurses := true, named := ["sluice/api.Keywords", "sluice/num.unknown", "sluice/num.other", "sluice/num.both", "sluice/num.either", "sluice/num.yes", "sluice/num.no", "sluice/code.operands"], apart := false, laid := [("sluice/api.Keywords", laid_sluice_api_Keywords), ("sluice/num.no", laid_sluice_num_no), ("sluice/num.unknown", laid_sluice_num_unknown), ("sluice/num.yes", laid_sluice_num_yes), ("sluice/num.both", laid_sluice_num_both), ("sluice/num.either", laid_sluice_num_either), ("sluice/num.other", laid_sluice_num_other), ("sluice/code.operands", laid_sluice_code_operands)] }
def CodeConjunctsSaid : Prop := codeConjunctsRow.holds Tryd.pinned (OpenSpec.ofChange codeConjunctsSpec)

/-- ITS FALSE NEIGHBOUR: 'it returns false'. Refute it at one input. -/
def codeConjunctsWrong : ChangeSpec := { name := "codeConjuncts", fn := fun _ => fun
  | [d1, d2, d3, d4] => { results := [.lit (.bool false)], args := [d1, d2, d3, d4] }
  | _ => none }
def CodeConjunctsWrongFalsely : Prop := codeConjunctsRow.holds Tryd.pinned (OpenSpec.ofChange codeConjunctsWrong)

/-- 'sluicelaw7.CodeRenames': WHATEVER THE INPUT: true; the input reads as it did. -/
def codeRenamesSpec : ChangeSpec := { name := "codeRenames", fn := fun _ => fun
  | [d1, d2, d3, d4] => { results := [.lit (.bool true)], args := [d1, d2, d3, d4] }
  | _ => none }
def codeRenamesRow : OpenClaim := { program := "ytkfphaphiikloaadoor", sum := "75fba426b63aa4146461346b0d815903d160ee91e370d71b148914c1b0aa5e2b", func := "sluice/sluicelaw7.CodeRenames", spec := "codeRenames", inPlace := ["math/bits.Add64"], recurses := true, named := ["sluice/api.Keywords", "sluice/num.unknown", "sluice/num.other", "sluice/num.both", "sluice/num.either", "sluice/num.yes", "sluice/num.no", "sluice/code.operands", "internal/strconv.uint64pow10", "math/bits.deBruijn32tab", "math/bits.deBruijn64tab"], apart := false, laid := [("math/bits.deBruijn32tab", laid_math_bits_deBruijn32tab), ("math/bits.deBruijn64tab", laid_math_bits_deBruijn64tab), ("internal/strconv.uint64pow10", laid_internal_strconv_uint64pow10), ("sluice/api.Keywords", laid_sluice_api_Keywords), ("sluice/num.no", laid_sluice_num_no), ("sluice/num.unknown", laid_sluice_num_unknown), ("sluice/num.yes", laid_sluice_num_yes), ("sluice/num.both", laid_sluice_num_both), ("sluice/num.either", laid_sluice_num_either), ("sluice/num.other", laid_sluice_num_other), ("sluice/code.operands", laid_sluice_code_operands)] }
def CodeRenamesSaid : Prop := codeRenamesRow.holds Tryd.pinned (OpenSpec.ofChange codeRenamesSpec)

/-- ITS FALSE NEIGHBOUR: 'it returns false'. Refute it at one input. -/
def codeRenamesWrong : ChangeSpec := { name := "codeRenames", fn := fun _ => fun
  | [d1, d2, d3, d4] => { results := [.lit (.bool false)], args := [d1, d2, d3, d4] }
  | _ => none }
def CodeRenamesWrongFalsely : Prop := codeRenamesRow.holds Tryd.pinned (OpenSpec.ofChange codeRenamesWrong)

/- THE SECOND FORM. 'bulk': how many values and letters a reading holds, each counted each time it is reached (what is shared counts as often as it is met; a slice's spare places count too). A statement '..UptoSaid' is the law's where the arguments, and the package variables that the reading takes, are together of bulk at most 1048576: NARROWER than '..Said'. Prove '..Said' where nothing that the law and all that it calls make is longer than what came in: it says more and counts as full. Else prove '..UptoSaid'. A law counts once. -/
mutual
def uptoBulk {H : Type} : DataW H → Nat
  | .lit (.string bytes) => bytes.length + 1
  | .lit _ => 1
  | .nil => 1
  | .ptr d => uptoBulk d + 1
  | .slice elems spare => uptoBulkAll elems + uptoBulkAll spare + 1
  | .agg parts => uptoBulkAll parts + 1
  | .iface _ d => uptoBulk d + 1
  | .map entries => uptoBulkEntries entries + 1
  | .held _ => 1
def uptoBulkAll {H : Type} : List (DataW H) → Nat
  | [] => 0
  | d :: r => uptoBulk d + uptoBulkAll r
def uptoBulkEntries {H : Type} : List (Lit × DataW H) → Nat
  | [] => 0
  | x :: r => uptoBulkEntry x + uptoBulkEntries r
def uptoBulkEntry {H : Type} : Lit × DataW H → Nat
  | (.string bytes, d) => bytes.length + uptoBulk d + 1
  | (_, d) => uptoBulk d + 1
 end
def uptoSmall : (H : Type) → List (DataW H) → Bool := fun _ ds => decide (uptoBulkAll ds ≤ 1048576)
def OpenSpec.upto (s : _root_.Go.ChangeSpec) : _root_.Go.OpenSpec := { _root_.Go.OpenSpec.ofChange s with cond := some uptoSmall }

/-- 'sluicelaw7.CodeCompiles', WHERE WHAT IT READS IS OF BULK AT MOST 1048576: true; the input reads as it did. -/
def codeCompilesUptoRow : OpenClaim := { program := "ytkfphaphiikloaadoor", sum := "75fba426b63aa4146461346b0d815903d160ee91e370d71b148914c1b0aa5e2b", func := "sluice/sluicelaw7.CodeCompiles", spec := "codeCompiles", named := ["sluice/api.Keywords"], apart := false, laid := [("sluice/api.Keywords", laid_sluice_api_Keywords)], narrowed := true }
def CodeCompilesUptoSaid : Prop := codeCompilesUptoRow.holds Tryd.pinned (OpenSpec.upto codeCompilesSpec)

/-- 'sluicelaw7.CodeRuns', WHERE WHAT IT READS IS OF BULK AT MOST 1048576: true; the input reads as it did. -/
def codeRunsUptoRow : OpenClaim := { program := "ytkfphaphiikloaadoor", sum := "75fba426b63aa4146461346b0d815903d160ee91e370d71b148914c1b0aa5e2b", func := "sluice/sluicelaw7.CodeRuns", spec := "codeRuns", inPlace := ["math/bits.Add64"], named := ["sluice/code.operands", "sluice/num.unknown", "sluice/num.other", "sluice/num.both", "sluice/num.either", "sluice/num.yes", "sluice/num.no"], apart := false, laid := [("sluice/num.no", laid_sluice_num_no), ("sluice/num.unknown", laid_sluice_num_unknown), ("sluice/num.yes", laid_sluice_num_yes), ("sluice/num.both", laid_sluice_num_both), ("sluice/num.either", laid_sluice_num_either), ("sluice/num.other", laid_sluice_num_other), ("sluice/code.operands", laid_sluice_code_operands)], narrowed := true }
def CodeRunsUptoSaid : Prop := codeRunsUptoRow.holds Tryd.pinned (OpenSpec.upto codeRunsSpec)

/-- 'sluicelaw7.CodeEvery', WHERE WHAT IT READS IS OF BULK AT MOST 1048576: true; the input reads as it did. -/
def codeEveryUptoRow : OpenClaim := { program := "ytkfphaphiikloaadoor", sum := "75fba426b63aa4146461346b0d815903d160ee91e370d71b148914c1b0aa5e2b", func := "sluice/sluicelaw7.CodeEvery", spec := "codeEvery", inPlace := ["math/bits.Add64"], named := ["sluice/code.operands", "sluice/num.unknown", "sluice/num.other", "sluice/num.both", "sluice/num.either", "sluice/num.yes", "sluice/num.no"], apart := false, laid := [("sluice/num.no", laid_sluice_num_no), ("sluice/num.unknown", laid_sluice_num_unknown), ("sluice/num.yes", laid_sluice_num_yes), ("sluice/num.both", laid_sluice_num_both), ("sluice/num.either", laid_sluice_num_either), ("sluice/num.other", laid_sluice_num_other), ("sluice/code.operands", laid_sluice_code_operands)], narrowed := true }
def CodeEveryUptoSaid : Prop := codeEveryUptoRow.holds Tryd.pinned (OpenSpec.upto codeEverySpec)

/-- 'sluicelaw7.CodeEvals', WHERE WHAT IT READS IS OF BULK AT MOST 1048576: true; the input reads as it did. -/
def codeEvalsUptoRow : OpenClaim := { program := "ytkfphaphiikloaadoor", sum := "75fba426b63aa4146461346b0d815903d160ee91e370d71b148914c1b0aa5e2b", func := "sluice/sluicelaw7.CodeEvals", spec := "codeEvals", inPlace := ["math/bits.Add64"], recurses := true, named := ["sluice/api.Keywords", "sluice/num.unknown", "sluice/num.other", "sluice/num.both", "sluice/num.either", "sluice/num.yes", "sluice/num.no"], apart := false, laid := [("sluice/api.Keywords", laid_sluice_api_Keywords), ("sluice/num.no", laid_sluice_num_no), ("sluice/num.unknown", laid_sluice_num_unknown), ("sluice/num.yes", laid_sluice_num_yes), ("sluice/num.both", laid_sluice_num_both), ("sluice/num.either", laid_sluice_num_either), ("sluice/num.other", laid_sluice_num_other)], narrowed := true }
def CodeEvalsUptoSaid : Prop := codeEvalsUptoRow.holds Tryd.pinned (OpenSpec.upto codeEvalsSpec)

/-- 'sluicelaw7.CodeSpares', WHERE WHAT IT READS IS OF BULK AT MOST 1048576: true; the input reads as it did. -/
def codeSparesUptoRow : OpenClaim := { program := "ytkfphaphiikloaadoor", sum := "75fba426b63aa4146461346b0d815903d160ee91e370d71b148914c1b0aa5e2b", func := "sluice/sluicelaw7.CodeSpares", spec := "codeSpares", inPlace := ["math/bits.Add64"], recurses := true, named := ["sluice/api.Keywords", "sluice/num.unknown", "sluice/num.other", "sluice/num.both", "sluice/num.either", "sluice/num.yes", "sluice/num.no", "sluice/code.operands"], apart := false, laid := [("sluice/api.Keywords", laid_sluice_api_Keywords), ("sluice/num.no", laid_sluice_num_no), ("sluice/num.unknown", laid_sluice_num_unknown), ("sluice/num.yes", laid_sluice_num_yes), ("sluice/num.both", laid_sluice_num_both), ("sluice/num.either", laid_sluice_num_either), ("sluice/num.other", laid_sluice_num_other), ("sluice/code.operands", laid_sluice_code_operands)], narrowed := true }
def CodeSparesUptoSaid : Prop := codeSparesUptoRow.holds Tryd.pinned (OpenSpec.upto codeSparesSpec)

/-- 'sluicelaw7.CodeAgrees', WHERE WHAT IT READS IS OF BULK AT MOST 1048576: true; the input reads as it did. -/
def codeAgreesUptoRow : OpenClaim := { program := "ytkfphaphiikloaadoor", sum := "75fba426b63aa4146461346b0d815903d160ee91e370d71b148914c1b0aa5e2b", func := "sluice/sluicelaw7.CodeAgrees", spec := "codeAgrees", inPlace := ["math/bits.Add64"], recurses := true, named := ["sluice/api.Keywords", "sluice/num.unknown", "sluice/num.other", "sluice/num.both", "sluice/num.either", "sluice/num.yes", "sluice/num.no", "sluice/code.operands"], apart := false, laid := [("sluice/api.Keywords", laid_sluice_api_Keywords), ("sluice/num.no", laid_sluice_num_no), ("sluice/num.unknown", laid_sluice_num_unknown), ("sluice/num.yes", laid_sluice_num_yes), ("sluice/num.both", laid_sluice_num_both), ("sluice/num.either", laid_sluice_num_either), ("sluice/num.other", laid_sluice_num_other), ("sluice/code.operands", laid_sluice_code_operands)], narrowed := true }
def CodeAgreesUptoSaid : Prop := codeAgreesUptoRow.holds Tryd.pinned (OpenSpec.upto codeAgreesSpec)

/-- 'sluicelaw7.CodeComposes', WHERE WHAT IT READS IS OF BULK AT MOST 1048576: true; the input reads as it did. -/
def codeComposesUptoRow : OpenClaim := { program := "ytkfphaphiikloaadoor", sum := "75fba426b63aa4146461346b0d815903d160ee91e370d71b148914c1b0aa5e2b", func := "sluice/sluicelaw7.CodeComposes", spec := "codeComposes", inPlace := ["math/bits.Add64"], recurses := true, named := ["sluice/api.Keywords", "sluice/num.unknown", "sluice/num.other", "sluice/num.both", "sluice/num.either", "sluice/num.yes", "sluice/num.no", "sluice/code.operands"], apart := false, laid := [("sluice/api.Keywords", laid_sluice_api_Keywords), ("sluice/num.no", laid_sluice_num_no), ("sluice/num.unknown", laid_sluice_num_unknown), ("sluice/num.yes", laid_sluice_num_yes), ("sluice/num.both", laid_sluice_num_both), ("sluice/num.either", laid_sluice_num_either), ("sluice/num.other", laid_sluice_num_other), ("sluice/code.operands", laid_sluice_code_operands)], narrowed := true }
def CodeComposesUptoSaid : Prop := codeComposesUptoRow.holds Tryd.pinned (OpenSpec.upto codeComposesSpec)

/-- 'sluicelaw7.CodeSkips', WHERE WHAT IT READS IS OF BULK AT MOST 1048576: true; the input reads as it did. -/
def codeSkipsUptoRow : OpenClaim := { program := "ytkfphaphiikloaadoor", sum := "75fba426b63aa4146461346b0d815903d160ee91e370d71b148914c1b0aa5e2b", func := "sluice/sluicelaw7.CodeSkips", spec := "codeSkips", inPlace := ["math/bits.Add64"], recurses := true, named := ["sluice/api.Keywords", "sluice/num.unknown", "sluice/num.other", "sluice/num.both", "sluice/num.either", "sluice/num.yes", "sluice/num.no", "sluice/code.operands"], apart := false, laid := [("sluice/api.Keywords", laid_sluice_api_Keywords), ("sluice/num.no", laid_sluice_num_no), ("sluice/num.unknown", laid_sluice_num_unknown), ("sluice/num.yes", laid_sluice_num_yes), ("sluice/num.both", laid_sluice_num_both), ("sluice/num.either", laid_sluice_num_either), ("sluice/num.other", laid_sluice_num_other), ("sluice/code.operands", laid_sluice_code_operands)], narrowed := true }
def CodeSkipsUptoSaid : Prop := codeSkipsUptoRow.holds Tryd.pinned (OpenSpec.upto codeSkipsSpec)

/-- 'sluicelaw7.CodeFrame', WHERE WHAT IT READS IS OF BULK AT MOST 1048576: true; the input reads as it did. -/
def codeFrameUptoRow : OpenClaim := { program := "ytkfphaphiikloaadoor", sum := "75fba426b63aa4146461346b0d815903d160ee91e370d71b148914c1b0aa5e2b", func := "sluice/sluicelaw7.CodeFrame", spec := "codeFrame", inPlace := ["math/bits.Add64"], unfollowed := true, recurses := true, named := ["sluice/api.Keywords", "sluice/num.unknown", "sluice/num.other", "sluice/num.both", "sluice/num.either", "sluice/num.yes", "sluice/num.no", "sluice/code.operands"], apart := false, laid := [("sluice/api.Keywords", laid_sluice_api_Keywords), ("sluice/num.no", laid_sluice_num_no), ("sluice/num.unknown", laid_sluice_num_unknown), ("sluice/num.yes", laid_sluice_num_yes), ("sluice/num.both", laid_sluice_num_both), ("sluice/num.either", laid_sluice_num_either), ("sluice/num.other", laid_sluice_num_other), ("sluice/code.operands", laid_sluice_code_operands)], narrowed := true }
def CodeFrameUptoSaid : Prop := codeFrameUptoRow.holds Tryd.pinned (OpenSpec.upto codeFrameSpec)

/-- 'sluicelaw7.CodeConjuncts', WHERE WHAT IT READS IS OF BULK AT MOST 1048576: true; the input reads as it did. -/
def codeConjunctsUptoRow : OpenClaim := { program := "ytkfphaphiikloaadoor", sum := "75fba426b63aa4146461346b0d815903d160ee91e370d71b148914c1b0aa5e2b", func := "sluice/sluicelaw7.CodeConjuncts", spec := "codeConjuncts", inPlace := ["math/bits.Add64"], unfollowed := true, recurses := true, named := ["sluice/api.Keywords", "sluice/num.unknown", "sluice/num.other", "sluice/num.both", "sluice/num.either", "sluice/num.yes", "sluice/num.no", "sluice/code.operands"], apart := false, laid := [("sluice/api.Keywords", laid_sluice_api_Keywords), ("sluice/num.no", laid_sluice_num_no), ("sluice/num.unknown", laid_sluice_num_unknown), ("sluice/num.yes", laid_sluice_num_yes), ("sluice/num.both", laid_sluice_num_both), ("sluice/num.either", laid_sluice_num_either), ("sluice/num.other", laid_sluice_num_other), ("sluice/code.operands", laid_sluice_code_operands)], narrowed := true }
def CodeConjunctsUptoSaid : Prop := codeConjunctsUptoRow.holds Tryd.pinned (OpenSpec.upto codeConjunctsSpec)

/-- 'sluicelaw7.CodeRenames', WHERE WHAT IT READS IS OF BULK AT MOST 1048576: true; the input reads as it did. -/
def codeRenamesUptoRow : OpenClaim := { program := "ytkfphaphiikloaadoor", sum := "75fba426b63aa4146461346b0d815903d160ee91e370d71b148914c1b0aa5e2b", func := "sluice/sluicelaw7.CodeRenames", spec := "codeRenames", inPlace := ["math/bits.Add64"], recurses := true, named := ["sluice/api.Keywords", "sluice/num.unknown", "sluice/num.other", "sluice/num.both", "sluice/num.either", "sluice/num.yes", "sluice/num.no", "sluice/code.operands", "internal/strconv.uint64pow10", "math/bits.deBruijn32tab", "math/bits.deBruijn64tab"], apart := false, laid := [("math/bits.deBruijn32tab", laid_math_bits_deBruijn32tab), ("math/bits.deBruijn64tab", laid_math_bits_deBruijn64tab), ("internal/strconv.uint64pow10", laid_internal_strconv_uint64pow10), ("sluice/api.Keywords", laid_sluice_api_Keywords), ("sluice/num.no", laid_sluice_num_no), ("sluice/num.unknown", laid_sluice_num_unknown), ("sluice/num.yes", laid_sluice_num_yes), ("sluice/num.both", laid_sluice_num_both), ("sluice/num.either", laid_sluice_num_either), ("sluice/num.other", laid_sluice_num_other), ("sluice/code.operands", laid_sluice_code_operands)], narrowed := true }
def CodeRenamesUptoSaid : Prop := codeRenamesUptoRow.holds Tryd.pinned (OpenSpec.upto codeRenamesSpec)

end Rows
end Go.Proofs.YtkfphaphiikloaaDoor
