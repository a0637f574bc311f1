/-
  DERIVED. GIVEN WITH THE SEED: THE CARDS: each row of YtbffkkeieihpdaaGreatDoorRows.lean that lists a variable, with what it lists TIED to the program's text (the seventh form; the later family's looks); each row that meets fmt, with fmt's text TOLD by the authors' own Lean function (tested against real Go, not proved from fmt's source: count such statements apart). THE CARD IS WHAT COUNTS. Prove the row's statement (the work); the ties are given (YtbffkkeieihpdaaGreatDoorTie.lean); close each card by the builder's one call (the guide's Derived/Test/ToyasCard.lean, 'card_holds'). Laid BY PROGRAM, IN A SANDBOX (cutbox-door.mjs). By AI agents, Wed Nov 11 2026. No macro, syntax, notation, axiom, sorry.
-/
import Derived.Test.YtbffkkeieihpdaaGreatDoorRows
import GoSem.ClaimSeven
namespace Go.Proofs.YtbffkkeieihpdaaGreatDoor
namespace Rows

/-- THE TIED CARD OF 'sluicelaw8.PlanBuilds'. -/
def planBuildsCard : Claim7 := { stood := { row := planBuildsRow, standIns := [], harness := (true, "e05e32637377b3c79268a20145a1c8629d209c5c3aff5aa1ea58331ee1f0ed2f"), looks := false }, kinds := [], alts := [], laidByText := true, laidKinds := [.data], laidTests := true, laidLooks := .later }
def PlanBuildsCardSaid : Prop := Claim7.holds Tryz.pinned (.plain (OpenSpec.ofChange planBuildsSpec)) planBuildsCard

/-- THE TIED CARD OF 'sluicelaw8.PlanSpreads'. -/
def planSpreadsCard : Claim7 := { stood := { row := planSpreadsRow, standIns := [], harness := (true, "e05e32637377b3c79268a20145a1c8629d209c5c3aff5aa1ea58331ee1f0ed2f"), looks := false }, kinds := [], alts := [], laidByText := true, laidKinds := [.data], laidTests := true, laidLooks := .later }
def PlanSpreadsCardSaid : Prop := Claim7.holds Tryz.pinned (.plain (OpenSpec.ofChange planSpreadsSpec)) planSpreadsCard

/-- THE TIED CARD OF 'sluicelaw8.PlanKeys'. -/
def planKeysCard : Claim7 := { stood := { row := planKeysRow, standIns := [], harness := (true, "e05e32637377b3c79268a20145a1c8629d209c5c3aff5aa1ea58331ee1f0ed2f"), looks := false }, kinds := [], alts := [], laidByText := true, laidKinds := [.data], laidTests := true, laidLooks := .later }
def PlanKeysCardSaid : Prop := Claim7.holds Tryz.pinned (.plain (OpenSpec.ofChange planKeysSpec)) planKeysCard

/-- THE TIED CARD OF 'sluicelaw8.PlanTakes'. -/
def planTakesCard : Claim7 := { stood := { row := planTakesRow, standIns := [], harness := (true, "e05e32637377b3c79268a20145a1c8629d209c5c3aff5aa1ea58331ee1f0ed2f"), looks := false }, kinds := [], alts := [], laidByText := true, laidKinds := [.data, .data, .data, .data, .data, .data, .data, .data], laidTests := true, laidLooks := .later }
def PlanTakesCardSaid : Prop := Claim7.holds Tryz.pinned (.plain (OpenSpec.ofChange planTakesSpec)) planTakesCard

/-- THE TIED CARD OF 'sluicelaw8.PlanGuards'. -/
def planGuardsCard : Claim7 := { stood := { row := planGuardsRow, standIns := [], harness := (true, "e05e32637377b3c79268a20145a1c8629d209c5c3aff5aa1ea58331ee1f0ed2f"), looks := false }, kinds := [], alts := [], laidByText := true, laidKinds := [.data, .data, .data, .data, .data, .data, .data, .data], laidTests := true, laidLooks := .later }
def PlanGuardsCardSaid : Prop := Claim7.holds Tryz.pinned (.plain (OpenSpec.ofChange planGuardsSpec)) planGuardsCard

/-- THE TIED CARD OF 'sluicelaw8.PlanPlaces'. -/
def planPlacesCard : Claim7 := { stood := { row := planPlacesRow, standIns := [], harness := (true, "e05e32637377b3c79268a20145a1c8629d209c5c3aff5aa1ea58331ee1f0ed2f"), looks := false }, kinds := [], alts := [], laidByText := true, laidKinds := [.data, .data, .data, .data, .data, .data, .data, .data], laidTests := true, laidLooks := .later }
def PlanPlacesCardSaid : Prop := Claim7.holds Tryz.pinned (.plain (OpenSpec.ofChange planPlacesSpec)) planPlacesCard

/-- THE TIED CARD OF 'sluicelaw8.PlanNames'. -/
def planNamesCard : Claim7 := { stood := { row := planNamesRow, standIns := [], harness := (true, "e05e32637377b3c79268a20145a1c8629d209c5c3aff5aa1ea58331ee1f0ed2f"), looks := false }, kinds := [], alts := [], laidByText := true, laidKinds := [.data, .data, .data, .data, .data, .data, .data, .data], laidTests := true, laidLooks := .later }
def PlanNamesCardSaid : Prop := Claim7.holds Tryz.pinned (.plain (OpenSpec.ofChange planNamesSpec)) planNamesCard

/-- THE TIED CARD OF 'sluicelaw8.PlanOwn'. -/
def planOwnCard : Claim7 := { stood := { row := planOwnRow, standIns := [], harness := (true, "e05e32637377b3c79268a20145a1c8629d209c5c3aff5aa1ea58331ee1f0ed2f"), looks := false }, kinds := [], alts := [], laidByText := true, laidKinds := [.data, .data, .data, .data, .data, .data, .data, .data], laidTests := true, laidLooks := .later }
def PlanOwnCardSaid : Prop := Claim7.holds Tryz.pinned (.plain (OpenSpec.ofChange planOwnSpec)) planOwnCard

/-- THE TIED CARD OF 'sluicelaw8.PlanEarly'. -/
def planEarlyCard : Claim7 := { stood := { row := planEarlyRow, standIns := [], harness := (true, "e05e32637377b3c79268a20145a1c8629d209c5c3aff5aa1ea58331ee1f0ed2f"), looks := false }, kinds := [], alts := [], laidByText := true, laidKinds := [.data, .data, .data, .data, .data, .data, .data, .data], laidTests := true, laidLooks := .later }
def PlanEarlyCardSaid : Prop := Claim7.holds Tryz.pinned (.plain (OpenSpec.ofChange planEarlySpec)) planEarlyCard

/-- THE TIED CARD OF 'sluicelaw8.PlanNegations'. -/
def planNegationsCard : Claim7 := { stood := { row := planNegationsRow, standIns := [], harness := (true, "e05e32637377b3c79268a20145a1c8629d209c5c3aff5aa1ea58331ee1f0ed2f"), looks := false }, kinds := [], alts := [], laidByText := true, laidKinds := [.data, .data, .data, .data, .data, .data, .data, .data], laidTests := true, laidLooks := .later }
def PlanNegationsCardSaid : Prop := Claim7.holds Tryz.pinned (.plain (OpenSpec.ofChange planNegationsSpec)) planNegationsCard

/-- THE TIED CARD OF 'sluicelaw8.PlanWhere'. -/
def planWhereCard : Claim7 := { stood := { row := planWhereRow, standIns := [], harness := (true, "e05e32637377b3c79268a20145a1c8629d209c5c3aff5aa1ea58331ee1f0ed2f"), looks := false }, kinds := [], alts := [], laidByText := true, laidKinds := [.data, .data, .data, .data, .data, .data, .data, .data], laidTests := true, laidLooks := .later }
def PlanWhereCardSaid : Prop := Claim7.holds Tryz.pinned (.plain (OpenSpec.ofChange planWhereSpec)) planWhereCard

/-- THE SECOND FORM's CARD OF 'sluicelaw8.PlanBuilds'. -/
def planBuildsUptoCard : Claim7 := { stood := { row := planBuildsUptoRow, standIns := [], harness := (true, "e05e32637377b3c79268a20145a1c8629d209c5c3aff5aa1ea58331ee1f0ed2f"), looks := false }, kinds := [], alts := [], laidByText := true, laidKinds := [.data], laidTests := true, laidLooks := .later }
def PlanBuildsUptoCardSaid : Prop := Claim7.holds Tryz.pinned (.plain (OpenSpec.upto planBuildsSpec)) planBuildsUptoCard

/-- THE SECOND FORM's CARD OF 'sluicelaw8.PlanSpreads'. -/
def planSpreadsUptoCard : Claim7 := { stood := { row := planSpreadsUptoRow, standIns := [], harness := (true, "e05e32637377b3c79268a20145a1c8629d209c5c3aff5aa1ea58331ee1f0ed2f"), looks := false }, kinds := [], alts := [], laidByText := true, laidKinds := [.data], laidTests := true, laidLooks := .later }
def PlanSpreadsUptoCardSaid : Prop := Claim7.holds Tryz.pinned (.plain (OpenSpec.upto planSpreadsSpec)) planSpreadsUptoCard

/-- THE SECOND FORM's CARD OF 'sluicelaw8.PlanKeys'. -/
def planKeysUptoCard : Claim7 := { stood := { row := planKeysUptoRow, standIns := [], harness := (true, "e05e32637377b3c79268a20145a1c8629d209c5c3aff5aa1ea58331ee1f0ed2f"), looks := false }, kinds := [], alts := [], laidByText := true, laidKinds := [.data], laidTests := true, laidLooks := .later }
def PlanKeysUptoCardSaid : Prop := Claim7.holds Tryz.pinned (.plain (OpenSpec.upto planKeysSpec)) planKeysUptoCard

/-- THE SECOND FORM's CARD OF 'sluicelaw8.PlanTakes'. -/
def planTakesUptoCard : Claim7 := { stood := { row := planTakesUptoRow, standIns := [], harness := (true, "e05e32637377b3c79268a20145a1c8629d209c5c3aff5aa1ea58331ee1f0ed2f"), looks := false }, kinds := [], alts := [], laidByText := true, laidKinds := [.data, .data, .data, .data, .data, .data, .data, .data], laidTests := true, laidLooks := .later }
def PlanTakesUptoCardSaid : Prop := Claim7.holds Tryz.pinned (.plain (OpenSpec.upto planTakesSpec)) planTakesUptoCard

/-- THE SECOND FORM's CARD OF 'sluicelaw8.PlanGuards'. -/
def planGuardsUptoCard : Claim7 := { stood := { row := planGuardsUptoRow, standIns := [], harness := (true, "e05e32637377b3c79268a20145a1c8629d209c5c3aff5aa1ea58331ee1f0ed2f"), looks := false }, kinds := [], alts := [], laidByText := true, laidKinds := [.data, .data, .data, .data, .data, .data, .data, .data], laidTests := true, laidLooks := .later }
def PlanGuardsUptoCardSaid : Prop := Claim7.holds Tryz.pinned (.plain (OpenSpec.upto planGuardsSpec)) planGuardsUptoCard

/-- THE SECOND FORM's CARD OF 'sluicelaw8.PlanPlaces'. -/
def planPlacesUptoCard : Claim7 := { stood := { row := planPlacesUptoRow, standIns := [], harness := (true, "e05e32637377b3c79268a20145a1c8629d209c5c3aff5aa1ea58331ee1f0ed2f"), looks := false }, kinds := [], alts := [], laidByText := true, laidKinds := [.data, .data, .data, .data, .data, .data, .data, .data], laidTests := true, laidLooks := .later }
def PlanPlacesUptoCardSaid : Prop := Claim7.holds Tryz.pinned (.plain (OpenSpec.upto planPlacesSpec)) planPlacesUptoCard

/-- THE SECOND FORM's CARD OF 'sluicelaw8.PlanNames'. -/
def planNamesUptoCard : Claim7 := { stood := { row := planNamesUptoRow, standIns := [], harness := (true, "e05e32637377b3c79268a20145a1c8629d209c5c3aff5aa1ea58331ee1f0ed2f"), looks := false }, kinds := [], alts := [], laidByText := true, laidKinds := [.data, .data, .data, .data, .data, .data, .data, .data], laidTests := true, laidLooks := .later }
def PlanNamesUptoCardSaid : Prop := Claim7.holds Tryz.pinned (.plain (OpenSpec.upto planNamesSpec)) planNamesUptoCard

/-- THE SECOND FORM's CARD OF 'sluicelaw8.PlanOwn'. -/
def planOwnUptoCard : Claim7 := { stood := { row := planOwnUptoRow, standIns := [], harness := (true, "e05e32637377b3c79268a20145a1c8629d209c5c3aff5aa1ea58331ee1f0ed2f"), looks := false }, kinds := [], alts := [], laidByText := true, laidKinds := [.data, .data, .data, .data, .data, .data, .data, .data], laidTests := true, laidLooks := .later }
def PlanOwnUptoCardSaid : Prop := Claim7.holds Tryz.pinned (.plain (OpenSpec.upto planOwnSpec)) planOwnUptoCard

/-- THE SECOND FORM's CARD OF 'sluicelaw8.PlanEarly'. -/
def planEarlyUptoCard : Claim7 := { stood := { row := planEarlyUptoRow, standIns := [], harness := (true, "e05e32637377b3c79268a20145a1c8629d209c5c3aff5aa1ea58331ee1f0ed2f"), looks := false }, kinds := [], alts := [], laidByText := true, laidKinds := [.data, .data, .data, .data, .data, .data, .data, .data], laidTests := true, laidLooks := .later }
def PlanEarlyUptoCardSaid : Prop := Claim7.holds Tryz.pinned (.plain (OpenSpec.upto planEarlySpec)) planEarlyUptoCard

/-- THE SECOND FORM's CARD OF 'sluicelaw8.PlanNegations'. -/
def planNegationsUptoCard : Claim7 := { stood := { row := planNegationsUptoRow, standIns := [], harness := (true, "e05e32637377b3c79268a20145a1c8629d209c5c3aff5aa1ea58331ee1f0ed2f"), looks := false }, kinds := [], alts := [], laidByText := true, laidKinds := [.data, .data, .data, .data, .data, .data, .data, .data], laidTests := true, laidLooks := .later }
def PlanNegationsUptoCardSaid : Prop := Claim7.holds Tryz.pinned (.plain (OpenSpec.upto planNegationsSpec)) planNegationsUptoCard

/-- THE SECOND FORM's CARD OF 'sluicelaw8.PlanWhere'. -/
def planWhereUptoCard : Claim7 := { stood := { row := planWhereUptoRow, standIns := [], harness := (true, "e05e32637377b3c79268a20145a1c8629d209c5c3aff5aa1ea58331ee1f0ed2f"), looks := false }, kinds := [], alts := [], laidByText := true, laidKinds := [.data, .data, .data, .data, .data, .data, .data, .data], laidTests := true, laidLooks := .later }
def PlanWhereUptoCardSaid : Prop := Claim7.holds Tryz.pinned (.plain (OpenSpec.upto planWhereSpec)) planWhereUptoCard
end Rows
end Go.Proofs.YtbffkkeieihpdaaGreatDoor
