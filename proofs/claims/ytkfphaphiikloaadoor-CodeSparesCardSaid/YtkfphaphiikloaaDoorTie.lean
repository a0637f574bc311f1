/-
  DERIVED. GIVEN WITH THE SEED: THE PROGRAM's TIES (one call each: nine closed facts by the kernel) AND EACH ROW's TIE, after the 31st guide's Derived/Test/Toyas{Tie, Card}.lean. No idea stands in it: it is a product of the set-up. Laid BY PROGRAM, IN A SANDBOX (cutbox-door.mjs). By AI agents, Wed Nov 11 2026. No macro, syntax, notation, axiom, sorry.
-/
import Derived.Test.YtkfphaphiikloaaDoorRows
import Derived.LaidByTextLater
import Derived.SevenTiedAt
import Derived.LaidSub
import Derived.LaidOnce
namespace Go.Proofs.YtkfphaphiikloaaDoor
open Go
set_option maxRecDepth 100000
theorem seatTie1 : Tryd.prog.laidByTextLater [("math/bits.deBruijn32tab", Rows.laid_math_bits_deBruijn32tab), ("math/bits.deBruijn64tab", Rows.laid_math_bits_deBruijn64tab), ("internal/strconv.uint64pow10", Rows.laid_internal_strconv_uint64pow10), ("sluice/api.Keywords", Rows.laid_sluice_api_Keywords), ("sluice/num.no", Rows.laid_sluice_num_no), ("sluice/num.unknown", Rows.laid_sluice_num_unknown), ("sluice/num.yes", Rows.laid_sluice_num_yes), ("sluice/num.both", Rows.laid_sluice_num_both), ("sluice/num.either", Rows.laid_sluice_num_either), ("sluice/num.other", Rows.laid_sluice_num_other), ("sluice/code.operands", Rows.laid_sluice_code_operands)] [.data, .data, .data, .data, .data, .data, .data, .data, .data, .data, .data] true :=
  Program.laidByTextLater_by_one 91 8 65 (by kernel_rfl) (by kernel_rfl) (by kernel_rfl) (by kernel_rfl) (by kernel_rfl) (by kernel_rfl) (fun _ _ => by kernel_rfl)
theorem noOwnUnsafe : Tryd.pinned.checked.prog.headLifts.contains "ownunsafe" = false := by kernel_rfl
theorem tie : Tryd.prog.laidByTextLater [("sluice/api.Keywords", Rows.laid_sluice_api_Keywords)] [.data] true :=
  Program.laidByTextLater.sub seatTie1 ["sluice/api.Keywords"] (by kernel_rfl) (by kernel_rfl)
theorem codeCompiles_row_tie : Rows.codeCompilesRow.laidByTextAt .later Tryd.pinned [.data] true :=
  OpenClaim.laidByTextAt_later rfl rfl tie noOwnUnsafe
theorem tie2 : Tryd.prog.laidByTextLater [("sluice/num.no", Rows.laid_sluice_num_no), ("sluice/num.unknown", Rows.laid_sluice_num_unknown), ("sluice/num.yes", Rows.laid_sluice_num_yes), ("sluice/num.both", Rows.laid_sluice_num_both), ("sluice/num.either", Rows.laid_sluice_num_either), ("sluice/num.other", Rows.laid_sluice_num_other), ("sluice/code.operands", Rows.laid_sluice_code_operands)] [.data, .data, .data, .data, .data, .data, .data] true :=
  Program.laidByTextLater.sub seatTie1 ["sluice/num.no", "sluice/num.unknown", "sluice/num.yes", "sluice/num.both", "sluice/num.either", "sluice/num.other", "sluice/code.operands"] (by kernel_rfl) (by kernel_rfl)
theorem codeRuns_row_tie : Rows.codeRunsRow.laidByTextAt .later Tryd.pinned [.data, .data, .data, .data, .data, .data, .data] true :=
  OpenClaim.laidByTextAt_later rfl rfl tie2 noOwnUnsafe
theorem codeEvery_row_tie : Rows.codeEveryRow.laidByTextAt .later Tryd.pinned [.data, .data, .data, .data, .data, .data, .data] true :=
  OpenClaim.laidByTextAt_later rfl rfl tie2 noOwnUnsafe
theorem tie3 : Tryd.prog.laidByTextLater [("sluice/api.Keywords", Rows.laid_sluice_api_Keywords), ("sluice/num.no", Rows.laid_sluice_num_no), ("sluice/num.unknown", Rows.laid_sluice_num_unknown), ("sluice/num.yes", Rows.laid_sluice_num_yes), ("sluice/num.both", Rows.laid_sluice_num_both), ("sluice/num.either", Rows.laid_sluice_num_either), ("sluice/num.other", Rows.laid_sluice_num_other)] [.data, .data, .data, .data, .data, .data, .data] true :=
  Program.laidByTextLater.sub seatTie1 ["sluice/api.Keywords", "sluice/num.no", "sluice/num.unknown", "sluice/num.yes", "sluice/num.both", "sluice/num.either", "sluice/num.other"] (by kernel_rfl) (by kernel_rfl)
theorem codeEvals_row_tie : Rows.codeEvalsRow.laidByTextAt .later Tryd.pinned [.data, .data, .data, .data, .data, .data, .data] true :=
  OpenClaim.laidByTextAt_later rfl rfl tie3 noOwnUnsafe
theorem tie4 : Tryd.prog.laidByTextLater [("sluice/api.Keywords", Rows.laid_sluice_api_Keywords), ("sluice/num.no", Rows.laid_sluice_num_no), ("sluice/num.unknown", Rows.laid_sluice_num_unknown), ("sluice/num.yes", Rows.laid_sluice_num_yes), ("sluice/num.both", Rows.laid_sluice_num_both), ("sluice/num.either", Rows.laid_sluice_num_either), ("sluice/num.other", Rows.laid_sluice_num_other), ("sluice/code.operands", Rows.laid_sluice_code_operands)] [.data, .data, .data, .data, .data, .data, .data, .data] true :=
  Program.laidByTextLater.sub seatTie1 ["sluice/api.Keywords", "sluice/num.no", "sluice/num.unknown", "sluice/num.yes", "sluice/num.both", "sluice/num.either", "sluice/num.other", "sluice/code.operands"] (by kernel_rfl) (by kernel_rfl)
theorem codeSpares_row_tie : Rows.codeSparesRow.laidByTextAt .later Tryd.pinned [.data, .data, .data, .data, .data, .data, .data, .data] true :=
  OpenClaim.laidByTextAt_later rfl rfl tie4 noOwnUnsafe
theorem codeAgrees_row_tie : Rows.codeAgreesRow.laidByTextAt .later Tryd.pinned [.data, .data, .data, .data, .data, .data, .data, .data] true :=
  OpenClaim.laidByTextAt_later rfl rfl tie4 noOwnUnsafe
theorem codeComposes_row_tie : Rows.codeComposesRow.laidByTextAt .later Tryd.pinned [.data, .data, .data, .data, .data, .data, .data, .data] true :=
  OpenClaim.laidByTextAt_later rfl rfl tie4 noOwnUnsafe
theorem codeSkips_row_tie : Rows.codeSkipsRow.laidByTextAt .later Tryd.pinned [.data, .data, .data, .data, .data, .data, .data, .data] true :=
  OpenClaim.laidByTextAt_later rfl rfl tie4 noOwnUnsafe
theorem codeFrame_row_tie : Rows.codeFrameRow.laidByTextAt .later Tryd.pinned [.data, .data, .data, .data, .data, .data, .data, .data] true :=
  OpenClaim.laidByTextAt_later rfl rfl tie4 noOwnUnsafe
theorem codeConjuncts_row_tie : Rows.codeConjunctsRow.laidByTextAt .later Tryd.pinned [.data, .data, .data, .data, .data, .data, .data, .data] true :=
  OpenClaim.laidByTextAt_later rfl rfl tie4 noOwnUnsafe
theorem tie5 : Tryd.prog.laidByTextLater [("math/bits.deBruijn32tab", Rows.laid_math_bits_deBruijn32tab), ("math/bits.deBruijn64tab", Rows.laid_math_bits_deBruijn64tab), ("internal/strconv.uint64pow10", Rows.laid_internal_strconv_uint64pow10), ("sluice/api.Keywords", Rows.laid_sluice_api_Keywords), ("sluice/num.no", Rows.laid_sluice_num_no), ("sluice/num.unknown", Rows.laid_sluice_num_unknown), ("sluice/num.yes", Rows.laid_sluice_num_yes), ("sluice/num.both", Rows.laid_sluice_num_both), ("sluice/num.either", Rows.laid_sluice_num_either), ("sluice/num.other", Rows.laid_sluice_num_other), ("sluice/code.operands", Rows.laid_sluice_code_operands)] [.data, .data, .data, .data, .data, .data, .data, .data, .data, .data, .data] true :=
  Program.laidByTextLater.sub seatTie1 ["math/bits.deBruijn32tab", "math/bits.deBruijn64tab", "internal/strconv.uint64pow10", "sluice/api.Keywords", "sluice/num.no", "sluice/num.unknown", "sluice/num.yes", "sluice/num.both", "sluice/num.either", "sluice/num.other", "sluice/code.operands"] (by kernel_rfl) (by kernel_rfl)
theorem codeRenames_row_tie : Rows.codeRenamesRow.laidByTextAt .later Tryd.pinned [.data, .data, .data, .data, .data, .data, .data, .data, .data, .data, .data] true :=
  OpenClaim.laidByTextAt_later rfl rfl tie5 noOwnUnsafe
theorem codeCompilesUpto_row_tie : Rows.codeCompilesUptoRow.laidByTextAt .later Tryd.pinned [.data] true :=
  OpenClaim.laidByTextAt_later rfl rfl tie noOwnUnsafe
theorem codeRunsUpto_row_tie : Rows.codeRunsUptoRow.laidByTextAt .later Tryd.pinned [.data, .data, .data, .data, .data, .data, .data] true :=
  OpenClaim.laidByTextAt_later rfl rfl tie2 noOwnUnsafe
theorem codeEveryUpto_row_tie : Rows.codeEveryUptoRow.laidByTextAt .later Tryd.pinned [.data, .data, .data, .data, .data, .data, .data] true :=
  OpenClaim.laidByTextAt_later rfl rfl tie2 noOwnUnsafe
theorem codeEvalsUpto_row_tie : Rows.codeEvalsUptoRow.laidByTextAt .later Tryd.pinned [.data, .data, .data, .data, .data, .data, .data] true :=
  OpenClaim.laidByTextAt_later rfl rfl tie3 noOwnUnsafe
theorem codeSparesUpto_row_tie : Rows.codeSparesUptoRow.laidByTextAt .later Tryd.pinned [.data, .data, .data, .data, .data, .data, .data, .data] true :=
  OpenClaim.laidByTextAt_later rfl rfl tie4 noOwnUnsafe
theorem codeAgreesUpto_row_tie : Rows.codeAgreesUptoRow.laidByTextAt .later Tryd.pinned [.data, .data, .data, .data, .data, .data, .data, .data] true :=
  OpenClaim.laidByTextAt_later rfl rfl tie4 noOwnUnsafe
theorem codeComposesUpto_row_tie : Rows.codeComposesUptoRow.laidByTextAt .later Tryd.pinned [.data, .data, .data, .data, .data, .data, .data, .data] true :=
  OpenClaim.laidByTextAt_later rfl rfl tie4 noOwnUnsafe
theorem codeSkipsUpto_row_tie : Rows.codeSkipsUptoRow.laidByTextAt .later Tryd.pinned [.data, .data, .data, .data, .data, .data, .data, .data] true :=
  OpenClaim.laidByTextAt_later rfl rfl tie4 noOwnUnsafe
theorem codeFrameUpto_row_tie : Rows.codeFrameUptoRow.laidByTextAt .later Tryd.pinned [.data, .data, .data, .data, .data, .data, .data, .data] true :=
  OpenClaim.laidByTextAt_later rfl rfl tie4 noOwnUnsafe
theorem codeConjunctsUpto_row_tie : Rows.codeConjunctsUptoRow.laidByTextAt .later Tryd.pinned [.data, .data, .data, .data, .data, .data, .data, .data] true :=
  OpenClaim.laidByTextAt_later rfl rfl tie4 noOwnUnsafe
theorem codeRenamesUpto_row_tie : Rows.codeRenamesUptoRow.laidByTextAt .later Tryd.pinned [.data, .data, .data, .data, .data, .data, .data, .data, .data, .data, .data] true :=
  OpenClaim.laidByTextAt_later rfl rfl tie5 noOwnUnsafe
end Go.Proofs.YtkfphaphiikloaaDoor
