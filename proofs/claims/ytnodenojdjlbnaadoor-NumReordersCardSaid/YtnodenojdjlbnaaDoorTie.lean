/-
  DERIVED. GIVEN WITH THE SEED: THE PROGRAM's TIES (one call each: nine closed facts by the kernel) AND EACH ROW's TIE, after the 31st guide's Derived/Test/Toyas{Tie, Card}.lean. No idea stands in it: it is a product of the set-up. Laid BY PROGRAM, IN A SANDBOX (cutbox-door.mjs). By AI agents, Wed Nov 11 2026. No macro, syntax, notation, axiom, sorry.
-/
import Derived.Test.YtnodenojdjlbnaaDoorRows
import Derived.LaidByTextLater
import Derived.SevenTiedAt
import Derived.LaidSub
import Derived.LaidOnce
namespace Go.Proofs.YtnodenojdjlbnaaDoor
open Go
set_option maxRecDepth 100000
theorem seatTie1 : Tryd.prog.laidByTextLater [("sluice/num.no", Rows.laid_sluice_num_no), ("sluice/num.unknown", Rows.laid_sluice_num_unknown), ("sluice/num.yes", Rows.laid_sluice_num_yes), ("sluice/num.both", Rows.laid_sluice_num_both), ("sluice/num.either", Rows.laid_sluice_num_either), ("sluice/num.other", Rows.laid_sluice_num_other)] [.data, .data, .data, .data, .data, .data] true :=
  Program.laidByTextLater_by_one 66 8 19 (by kernel_rfl) (by kernel_rfl) (by kernel_rfl) (by kernel_rfl) (by kernel_rfl) (by kernel_rfl) (fun _ _ => by kernel_rfl)
theorem noOwnUnsafe : Tryd.pinned.checked.prog.headLifts.contains "ownunsafe" = false := by kernel_rfl
theorem tie : Tryd.prog.laidByTextLater [("sluice/num.both", Rows.laid_sluice_num_both), ("sluice/num.either", Rows.laid_sluice_num_either), ("sluice/num.other", Rows.laid_sluice_num_other)] [.data, .data, .data] true :=
  Program.laidByTextLater.sub seatTie1 ["sluice/num.both", "sluice/num.either", "sluice/num.other"] (by kernel_rfl) (by kernel_rfl)
theorem numTruths_row_tie : Rows.numTruthsRow.laidByTextAt .later Tryd.pinned [.data, .data, .data] true :=
  OpenClaim.laidByTextAt_later rfl rfl tie noOwnUnsafe
theorem numLattice_row_tie : Rows.numLatticeRow.laidByTextAt .later Tryd.pinned [.data, .data, .data] true :=
  OpenClaim.laidByTextAt_later rfl rfl tie noOwnUnsafe
theorem tie2 : Tryd.prog.laidByTextLater [("sluice/num.unknown", Rows.laid_sluice_num_unknown)] [.data] true :=
  Program.laidByTextLater.sub seatTie1 ["sluice/num.unknown"] (by kernel_rfl) (by kernel_rfl)
theorem numDivides_row_tie : Rows.numDividesRow.laidByTextAt .later Tryd.pinned [.data] true :=
  OpenClaim.laidByTextAt_later rfl rfl tie2 noOwnUnsafe
theorem numLeaves_row_tie : Rows.numLeavesRow.laidByTextAt .later Tryd.pinned [.data] true :=
  OpenClaim.laidByTextAt_later rfl rfl tie2 noOwnUnsafe
theorem numFits_row_tie : Rows.numFitsRow.laidByTextAt .later Tryd.pinned [.data] true :=
  OpenClaim.laidByTextAt_later rfl rfl tie2 noOwnUnsafe
theorem numFolds_row_tie : Rows.numFoldsRow.laidByTextAt .later Tryd.pinned [.data] true :=
  OpenClaim.laidByTextAt_later rfl rfl tie2 noOwnUnsafe
theorem numReorders_row_tie : Rows.numReordersRow.laidByTextAt .later Tryd.pinned [.data] true :=
  OpenClaim.laidByTextAt_later rfl rfl tie2 noOwnUnsafe
theorem numSpares_row_tie : Rows.numSparesRow.laidByTextAt .later Tryd.pinned [.data] true :=
  OpenClaim.laidByTextAt_later rfl rfl tie2 noOwnUnsafe
theorem numAdds_row_tie : Rows.numAddsRow.laidByTextAt .later Tryd.pinned [.data] true :=
  OpenClaim.laidByTextAt_later rfl rfl tie2 noOwnUnsafe
theorem numRing_row_tie : Rows.numRingRow.laidByTextAt .later Tryd.pinned [.data] true :=
  OpenClaim.laidByTextAt_later rfl rfl tie2 noOwnUnsafe
theorem tie3 : Tryd.prog.laidByTextLater [("sluice/num.no", Rows.laid_sluice_num_no), ("sluice/num.unknown", Rows.laid_sluice_num_unknown), ("sluice/num.yes", Rows.laid_sluice_num_yes)] [.data, .data, .data] true :=
  Program.laidByTextLater.sub seatTie1 ["sluice/num.no", "sluice/num.unknown", "sluice/num.yes"] (by kernel_rfl) (by kernel_rfl)
theorem numOrders_row_tie : Rows.numOrdersRow.laidByTextAt .later Tryd.pinned [.data, .data, .data] true :=
  OpenClaim.laidByTextAt_later rfl rfl tie3 noOwnUnsafe
theorem tie4 : Tryd.prog.laidByTextLater [("sluice/num.no", Rows.laid_sluice_num_no), ("sluice/num.unknown", Rows.laid_sluice_num_unknown), ("sluice/num.yes", Rows.laid_sluice_num_yes), ("sluice/num.both", Rows.laid_sluice_num_both), ("sluice/num.either", Rows.laid_sluice_num_either)] [.data, .data, .data, .data, .data] true :=
  Program.laidByTextLater.sub seatTie1 ["sluice/num.no", "sluice/num.unknown", "sluice/num.yes", "sluice/num.both", "sluice/num.either"] (by kernel_rfl) (by kernel_rfl)
theorem numApplies_row_tie : Rows.numAppliesRow.laidByTextAt .later Tryd.pinned [.data, .data, .data, .data, .data] true :=
  OpenClaim.laidByTextAt_later rfl rfl tie4 noOwnUnsafe
theorem tie5 : Tryd.prog.laidByTextLater [("sluice/num.no", Rows.laid_sluice_num_no), ("sluice/num.unknown", Rows.laid_sluice_num_unknown), ("sluice/num.yes", Rows.laid_sluice_num_yes), ("sluice/num.both", Rows.laid_sluice_num_both), ("sluice/num.either", Rows.laid_sluice_num_either), ("sluice/num.other", Rows.laid_sluice_num_other)] [.data, .data, .data, .data, .data, .data] true :=
  Program.laidByTextLater.sub seatTie1 ["sluice/num.no", "sluice/num.unknown", "sluice/num.yes", "sluice/num.both", "sluice/num.either", "sluice/num.other"] (by kernel_rfl) (by kernel_rfl)
theorem numFirm_row_tie : Rows.numFirmRow.laidByTextAt .later Tryd.pinned [.data, .data, .data, .data, .data, .data] true :=
  OpenClaim.laidByTextAt_later rfl rfl tie5 noOwnUnsafe
theorem numRuns_row_tie : Rows.numRunsRow.laidByTextAt .later Tryd.pinned [.data, .data, .data, .data, .data, .data] true :=
  OpenClaim.laidByTextAt_later rfl rfl tie5 noOwnUnsafe
theorem numTruthsUpto_row_tie : Rows.numTruthsUptoRow.laidByTextAt .later Tryd.pinned [.data, .data, .data] true :=
  OpenClaim.laidByTextAt_later rfl rfl tie noOwnUnsafe
theorem numLatticeUpto_row_tie : Rows.numLatticeUptoRow.laidByTextAt .later Tryd.pinned [.data, .data, .data] true :=
  OpenClaim.laidByTextAt_later rfl rfl tie noOwnUnsafe
theorem numDividesUpto_row_tie : Rows.numDividesUptoRow.laidByTextAt .later Tryd.pinned [.data] true :=
  OpenClaim.laidByTextAt_later rfl rfl tie2 noOwnUnsafe
theorem numLeavesUpto_row_tie : Rows.numLeavesUptoRow.laidByTextAt .later Tryd.pinned [.data] true :=
  OpenClaim.laidByTextAt_later rfl rfl tie2 noOwnUnsafe
theorem numFitsUpto_row_tie : Rows.numFitsUptoRow.laidByTextAt .later Tryd.pinned [.data] true :=
  OpenClaim.laidByTextAt_later rfl rfl tie2 noOwnUnsafe
theorem numOrdersUpto_row_tie : Rows.numOrdersUptoRow.laidByTextAt .later Tryd.pinned [.data, .data, .data] true :=
  OpenClaim.laidByTextAt_later rfl rfl tie3 noOwnUnsafe
theorem numFoldsUpto_row_tie : Rows.numFoldsUptoRow.laidByTextAt .later Tryd.pinned [.data] true :=
  OpenClaim.laidByTextAt_later rfl rfl tie2 noOwnUnsafe
theorem numReordersUpto_row_tie : Rows.numReordersUptoRow.laidByTextAt .later Tryd.pinned [.data] true :=
  OpenClaim.laidByTextAt_later rfl rfl tie2 noOwnUnsafe
theorem numSparesUpto_row_tie : Rows.numSparesUptoRow.laidByTextAt .later Tryd.pinned [.data] true :=
  OpenClaim.laidByTextAt_later rfl rfl tie2 noOwnUnsafe
theorem numAddsUpto_row_tie : Rows.numAddsUptoRow.laidByTextAt .later Tryd.pinned [.data] true :=
  OpenClaim.laidByTextAt_later rfl rfl tie2 noOwnUnsafe
theorem numRingUpto_row_tie : Rows.numRingUptoRow.laidByTextAt .later Tryd.pinned [.data] true :=
  OpenClaim.laidByTextAt_later rfl rfl tie2 noOwnUnsafe
theorem numAppliesUpto_row_tie : Rows.numAppliesUptoRow.laidByTextAt .later Tryd.pinned [.data, .data, .data, .data, .data] true :=
  OpenClaim.laidByTextAt_later rfl rfl tie4 noOwnUnsafe
theorem numFirmUpto_row_tie : Rows.numFirmUptoRow.laidByTextAt .later Tryd.pinned [.data, .data, .data, .data, .data, .data] true :=
  OpenClaim.laidByTextAt_later rfl rfl tie5 noOwnUnsafe
theorem numRunsUpto_row_tie : Rows.numRunsUptoRow.laidByTextAt .later Tryd.pinned [.data, .data, .data, .data, .data, .data] true :=
  OpenClaim.laidByTextAt_later rfl rfl tie5 noOwnUnsafe
end Go.Proofs.YtnodenojdjlbnaaDoor
