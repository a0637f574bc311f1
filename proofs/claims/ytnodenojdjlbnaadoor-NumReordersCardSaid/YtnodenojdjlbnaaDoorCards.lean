/-
  DERIVED. GIVEN WITH THE SEED: THE CARDS: each row of YtnodenojdjlbnaaDoorRows.lean that lists a variable, with what it lists TIED to the program's text (the seventh form; the later family's looks); each row that meets fmt, with fmt's text TOLD by the authors' own Lean function (tested against real Go, not proved from fmt's source: count such statements apart). THE CARD IS WHAT COUNTS. Prove the row's statement (the work); the ties are given (YtnodenojdjlbnaaDoorTie.lean); close each card by the builder's one call (the guide's Derived/Test/ToyasCard.lean, 'card_holds'). Laid BY PROGRAM, IN A SANDBOX (cutbox-door.mjs). By AI agents, Wed Nov 11 2026. No macro, syntax, notation, axiom, sorry.
-/
import Derived.Test.YtnodenojdjlbnaaDoorRows
import GoSem.ClaimSeven
namespace Go.Proofs.YtnodenojdjlbnaaDoor
namespace Rows

/-- THE TIED CARD OF 'sluicelaw1.NumTruths'. -/
def numTruthsCard : Claim7 := { stood := { row := numTruthsRow, standIns := [], harness := (true, "c7512263aaf8c12bdf5cdf26ca6fca04fd4238ee3038fe2c391042777b5cebf6"), looks := false }, kinds := [], alts := [], laidByText := true, laidKinds := [.data, .data, .data], laidTests := true, laidLooks := .later }
def NumTruthsCardSaid : Prop := Claim7.holds Tryd.pinned (.plain (OpenSpec.ofChange numTruthsSpec)) numTruthsCard

/-- THE TIED CARD OF 'sluicelaw1.NumLattice'. -/
def numLatticeCard : Claim7 := { stood := { row := numLatticeRow, standIns := [], harness := (true, "c7512263aaf8c12bdf5cdf26ca6fca04fd4238ee3038fe2c391042777b5cebf6"), looks := false }, kinds := [], alts := [], laidByText := true, laidKinds := [.data, .data, .data], laidTests := true, laidLooks := .later }
def NumLatticeCardSaid : Prop := Claim7.holds Tryd.pinned (.plain (OpenSpec.ofChange numLatticeSpec)) numLatticeCard

/-- THE TIED CARD OF 'sluicelaw1.NumDivides'. -/
def numDividesCard : Claim7 := { stood := { row := numDividesRow, standIns := [], harness := (true, "c7512263aaf8c12bdf5cdf26ca6fca04fd4238ee3038fe2c391042777b5cebf6"), looks := false }, kinds := [], alts := [], laidByText := true, laidKinds := [.data], laidTests := true, laidLooks := .later }
def NumDividesCardSaid : Prop := Claim7.holds Tryd.pinned (.plain (OpenSpec.ofChange numDividesSpec)) numDividesCard

/-- THE TIED CARD OF 'sluicelaw1.NumLeaves'. -/
def numLeavesCard : Claim7 := { stood := { row := numLeavesRow, standIns := [], harness := (true, "c7512263aaf8c12bdf5cdf26ca6fca04fd4238ee3038fe2c391042777b5cebf6"), looks := false }, kinds := [], alts := [], laidByText := true, laidKinds := [.data], laidTests := true, laidLooks := .later }
def NumLeavesCardSaid : Prop := Claim7.holds Tryd.pinned (.plain (OpenSpec.ofChange numLeavesSpec)) numLeavesCard

/-- THE TIED CARD OF 'sluicelaw1.NumFits'. -/
def numFitsCard : Claim7 := { stood := { row := numFitsRow, standIns := [], harness := (true, "c7512263aaf8c12bdf5cdf26ca6fca04fd4238ee3038fe2c391042777b5cebf6"), looks := false }, kinds := [], alts := [], laidByText := true, laidKinds := [.data], laidTests := true, laidLooks := .later }
def NumFitsCardSaid : Prop := Claim7.holds Tryd.pinned (.plain (OpenSpec.ofChange numFitsSpec)) numFitsCard

/-- THE TIED CARD OF 'sluicelaw1.NumOrders'. -/
def numOrdersCard : Claim7 := { stood := { row := numOrdersRow, standIns := [], harness := (true, "c7512263aaf8c12bdf5cdf26ca6fca04fd4238ee3038fe2c391042777b5cebf6"), looks := false }, kinds := [], alts := [], laidByText := true, laidKinds := [.data, .data, .data], laidTests := true, laidLooks := .later }
def NumOrdersCardSaid : Prop := Claim7.holds Tryd.pinned (.plain (OpenSpec.ofChange numOrdersSpec)) numOrdersCard

/-- THE TIED CARD OF 'sluicelaw1.NumFolds'. -/
def numFoldsCard : Claim7 := { stood := { row := numFoldsRow, standIns := [], harness := (true, "c7512263aaf8c12bdf5cdf26ca6fca04fd4238ee3038fe2c391042777b5cebf6"), looks := false }, kinds := [], alts := [], laidByText := true, laidKinds := [.data], laidTests := true, laidLooks := .later }
def NumFoldsCardSaid : Prop := Claim7.holds Tryd.pinned (.plain (OpenSpec.ofChange numFoldsSpec)) numFoldsCard

/-- THE TIED CARD OF 'sluicelaw1.NumReorders'. -/
def numReordersCard : Claim7 := { stood := { row := numReordersRow, standIns := [], harness := (true, "c7512263aaf8c12bdf5cdf26ca6fca04fd4238ee3038fe2c391042777b5cebf6"), looks := false }, kinds := [], alts := [], laidByText := true, laidKinds := [.data], laidTests := true, laidLooks := .later }
def NumReordersCardSaid : Prop := Claim7.holds Tryd.pinned (.plain (OpenSpec.ofChange numReordersSpec)) numReordersCard

/-- THE TIED CARD OF 'sluicelaw1.NumSpares'. -/
def numSparesCard : Claim7 := { stood := { row := numSparesRow, standIns := [], harness := (true, "c7512263aaf8c12bdf5cdf26ca6fca04fd4238ee3038fe2c391042777b5cebf6"), looks := false }, kinds := [], alts := [], laidByText := true, laidKinds := [.data], laidTests := true, laidLooks := .later }
def NumSparesCardSaid : Prop := Claim7.holds Tryd.pinned (.plain (OpenSpec.ofChange numSparesSpec)) numSparesCard

/-- THE TIED CARD OF 'sluicelaw1.NumAdds'. -/
def numAddsCard : Claim7 := { stood := { row := numAddsRow, standIns := [], harness := (true, "c7512263aaf8c12bdf5cdf26ca6fca04fd4238ee3038fe2c391042777b5cebf6"), looks := false }, kinds := [], alts := [], laidByText := true, laidKinds := [.data], laidTests := true, laidLooks := .later }
def NumAddsCardSaid : Prop := Claim7.holds Tryd.pinned (.plain (OpenSpec.ofChange numAddsSpec)) numAddsCard

/-- THE TIED CARD OF 'sluicelaw1.NumRing'. -/
def numRingCard : Claim7 := { stood := { row := numRingRow, standIns := [], harness := (true, "c7512263aaf8c12bdf5cdf26ca6fca04fd4238ee3038fe2c391042777b5cebf6"), looks := false }, kinds := [], alts := [], laidByText := true, laidKinds := [.data], laidTests := true, laidLooks := .later }
def NumRingCardSaid : Prop := Claim7.holds Tryd.pinned (.plain (OpenSpec.ofChange numRingSpec)) numRingCard

/-- THE TIED CARD OF 'sluicelaw1.NumApplies'. -/
def numAppliesCard : Claim7 := { stood := { row := numAppliesRow, standIns := [], harness := (true, "c7512263aaf8c12bdf5cdf26ca6fca04fd4238ee3038fe2c391042777b5cebf6"), looks := false }, kinds := [], alts := [], laidByText := true, laidKinds := [.data, .data, .data, .data, .data], laidTests := true, laidLooks := .later }
def NumAppliesCardSaid : Prop := Claim7.holds Tryd.pinned (.plain (OpenSpec.ofChange numAppliesSpec)) numAppliesCard

/-- THE TIED CARD OF 'sluicelaw1.NumFirm'. -/
def numFirmCard : Claim7 := { stood := { row := numFirmRow, standIns := [], harness := (true, "c7512263aaf8c12bdf5cdf26ca6fca04fd4238ee3038fe2c391042777b5cebf6"), looks := false }, kinds := [], alts := [], laidByText := true, laidKinds := [.data, .data, .data, .data, .data, .data], laidTests := true, laidLooks := .later }
def NumFirmCardSaid : Prop := Claim7.holds Tryd.pinned (.plain (OpenSpec.ofChange numFirmSpec)) numFirmCard

/-- THE TIED CARD OF 'sluicelaw1.NumRuns'. -/
def numRunsCard : Claim7 := { stood := { row := numRunsRow, standIns := [], harness := (true, "c7512263aaf8c12bdf5cdf26ca6fca04fd4238ee3038fe2c391042777b5cebf6"), looks := false }, kinds := [], alts := [], laidByText := true, laidKinds := [.data, .data, .data, .data, .data, .data], laidTests := true, laidLooks := .later }
def NumRunsCardSaid : Prop := Claim7.holds Tryd.pinned (.plain (OpenSpec.ofChange numRunsSpec)) numRunsCard

/-- THE SECOND FORM's CARD OF 'sluicelaw1.NumTruths'. -/
def numTruthsUptoCard : Claim7 := { stood := { row := numTruthsUptoRow, standIns := [], harness := (true, "c7512263aaf8c12bdf5cdf26ca6fca04fd4238ee3038fe2c391042777b5cebf6"), looks := false }, kinds := [], alts := [], laidByText := true, laidKinds := [.data, .data, .data], laidTests := true, laidLooks := .later }
def NumTruthsUptoCardSaid : Prop := Claim7.holds Tryd.pinned (.plain (OpenSpec.upto numTruthsSpec)) numTruthsUptoCard

/-- THE SECOND FORM's CARD OF 'sluicelaw1.NumLattice'. -/
def numLatticeUptoCard : Claim7 := { stood := { row := numLatticeUptoRow, standIns := [], harness := (true, "c7512263aaf8c12bdf5cdf26ca6fca04fd4238ee3038fe2c391042777b5cebf6"), looks := false }, kinds := [], alts := [], laidByText := true, laidKinds := [.data, .data, .data], laidTests := true, laidLooks := .later }
def NumLatticeUptoCardSaid : Prop := Claim7.holds Tryd.pinned (.plain (OpenSpec.upto numLatticeSpec)) numLatticeUptoCard

/-- THE SECOND FORM's CARD OF 'sluicelaw1.NumDivides'. -/
def numDividesUptoCard : Claim7 := { stood := { row := numDividesUptoRow, standIns := [], harness := (true, "c7512263aaf8c12bdf5cdf26ca6fca04fd4238ee3038fe2c391042777b5cebf6"), looks := false }, kinds := [], alts := [], laidByText := true, laidKinds := [.data], laidTests := true, laidLooks := .later }
def NumDividesUptoCardSaid : Prop := Claim7.holds Tryd.pinned (.plain (OpenSpec.upto numDividesSpec)) numDividesUptoCard

/-- THE SECOND FORM's CARD OF 'sluicelaw1.NumLeaves'. -/
def numLeavesUptoCard : Claim7 := { stood := { row := numLeavesUptoRow, standIns := [], harness := (true, "c7512263aaf8c12bdf5cdf26ca6fca04fd4238ee3038fe2c391042777b5cebf6"), looks := false }, kinds := [], alts := [], laidByText := true, laidKinds := [.data], laidTests := true, laidLooks := .later }
def NumLeavesUptoCardSaid : Prop := Claim7.holds Tryd.pinned (.plain (OpenSpec.upto numLeavesSpec)) numLeavesUptoCard

/-- THE SECOND FORM's CARD OF 'sluicelaw1.NumFits'. -/
def numFitsUptoCard : Claim7 := { stood := { row := numFitsUptoRow, standIns := [], harness := (true, "c7512263aaf8c12bdf5cdf26ca6fca04fd4238ee3038fe2c391042777b5cebf6"), looks := false }, kinds := [], alts := [], laidByText := true, laidKinds := [.data], laidTests := true, laidLooks := .later }
def NumFitsUptoCardSaid : Prop := Claim7.holds Tryd.pinned (.plain (OpenSpec.upto numFitsSpec)) numFitsUptoCard

/-- THE SECOND FORM's CARD OF 'sluicelaw1.NumOrders'. -/
def numOrdersUptoCard : Claim7 := { stood := { row := numOrdersUptoRow, standIns := [], harness := (true, "c7512263aaf8c12bdf5cdf26ca6fca04fd4238ee3038fe2c391042777b5cebf6"), looks := false }, kinds := [], alts := [], laidByText := true, laidKinds := [.data, .data, .data], laidTests := true, laidLooks := .later }
def NumOrdersUptoCardSaid : Prop := Claim7.holds Tryd.pinned (.plain (OpenSpec.upto numOrdersSpec)) numOrdersUptoCard

/-- THE SECOND FORM's CARD OF 'sluicelaw1.NumFolds'. -/
def numFoldsUptoCard : Claim7 := { stood := { row := numFoldsUptoRow, standIns := [], harness := (true, "c7512263aaf8c12bdf5cdf26ca6fca04fd4238ee3038fe2c391042777b5cebf6"), looks := false }, kinds := [], alts := [], laidByText := true, laidKinds := [.data], laidTests := true, laidLooks := .later }
def NumFoldsUptoCardSaid : Prop := Claim7.holds Tryd.pinned (.plain (OpenSpec.upto numFoldsSpec)) numFoldsUptoCard

/-- THE SECOND FORM's CARD OF 'sluicelaw1.NumReorders'. -/
def numReordersUptoCard : Claim7 := { stood := { row := numReordersUptoRow, standIns := [], harness := (true, "c7512263aaf8c12bdf5cdf26ca6fca04fd4238ee3038fe2c391042777b5cebf6"), looks := false }, kinds := [], alts := [], laidByText := true, laidKinds := [.data], laidTests := true, laidLooks := .later }
def NumReordersUptoCardSaid : Prop := Claim7.holds Tryd.pinned (.plain (OpenSpec.upto numReordersSpec)) numReordersUptoCard

/-- THE SECOND FORM's CARD OF 'sluicelaw1.NumSpares'. -/
def numSparesUptoCard : Claim7 := { stood := { row := numSparesUptoRow, standIns := [], harness := (true, "c7512263aaf8c12bdf5cdf26ca6fca04fd4238ee3038fe2c391042777b5cebf6"), looks := false }, kinds := [], alts := [], laidByText := true, laidKinds := [.data], laidTests := true, laidLooks := .later }
def NumSparesUptoCardSaid : Prop := Claim7.holds Tryd.pinned (.plain (OpenSpec.upto numSparesSpec)) numSparesUptoCard

/-- THE SECOND FORM's CARD OF 'sluicelaw1.NumAdds'. -/
def numAddsUptoCard : Claim7 := { stood := { row := numAddsUptoRow, standIns := [], harness := (true, "c7512263aaf8c12bdf5cdf26ca6fca04fd4238ee3038fe2c391042777b5cebf6"), looks := false }, kinds := [], alts := [], laidByText := true, laidKinds := [.data], laidTests := true, laidLooks := .later }
def NumAddsUptoCardSaid : Prop := Claim7.holds Tryd.pinned (.plain (OpenSpec.upto numAddsSpec)) numAddsUptoCard

/-- THE SECOND FORM's CARD OF 'sluicelaw1.NumRing'. -/
def numRingUptoCard : Claim7 := { stood := { row := numRingUptoRow, standIns := [], harness := (true, "c7512263aaf8c12bdf5cdf26ca6fca04fd4238ee3038fe2c391042777b5cebf6"), looks := false }, kinds := [], alts := [], laidByText := true, laidKinds := [.data], laidTests := true, laidLooks := .later }
def NumRingUptoCardSaid : Prop := Claim7.holds Tryd.pinned (.plain (OpenSpec.upto numRingSpec)) numRingUptoCard

/-- THE SECOND FORM's CARD OF 'sluicelaw1.NumApplies'. -/
def numAppliesUptoCard : Claim7 := { stood := { row := numAppliesUptoRow, standIns := [], harness := (true, "c7512263aaf8c12bdf5cdf26ca6fca04fd4238ee3038fe2c391042777b5cebf6"), looks := false }, kinds := [], alts := [], laidByText := true, laidKinds := [.data, .data, .data, .data, .data], laidTests := true, laidLooks := .later }
def NumAppliesUptoCardSaid : Prop := Claim7.holds Tryd.pinned (.plain (OpenSpec.upto numAppliesSpec)) numAppliesUptoCard

/-- THE SECOND FORM's CARD OF 'sluicelaw1.NumFirm'. -/
def numFirmUptoCard : Claim7 := { stood := { row := numFirmUptoRow, standIns := [], harness := (true, "c7512263aaf8c12bdf5cdf26ca6fca04fd4238ee3038fe2c391042777b5cebf6"), looks := false }, kinds := [], alts := [], laidByText := true, laidKinds := [.data, .data, .data, .data, .data, .data], laidTests := true, laidLooks := .later }
def NumFirmUptoCardSaid : Prop := Claim7.holds Tryd.pinned (.plain (OpenSpec.upto numFirmSpec)) numFirmUptoCard

/-- THE SECOND FORM's CARD OF 'sluicelaw1.NumRuns'. -/
def numRunsUptoCard : Claim7 := { stood := { row := numRunsUptoRow, standIns := [], harness := (true, "c7512263aaf8c12bdf5cdf26ca6fca04fd4238ee3038fe2c391042777b5cebf6"), looks := false }, kinds := [], alts := [], laidByText := true, laidKinds := [.data, .data, .data, .data, .data, .data], laidTests := true, laidLooks := .later }
def NumRunsUptoCardSaid : Prop := Claim7.holds Tryd.pinned (.plain (OpenSpec.upto numRunsSpec)) numRunsUptoCard
end Rows
end Go.Proofs.YtnodenojdjlbnaaDoor
