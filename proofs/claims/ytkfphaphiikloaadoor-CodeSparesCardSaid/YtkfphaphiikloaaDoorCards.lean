/-
  DERIVED. GIVEN WITH THE SEED: THE CARDS: each row of YtkfphaphiikloaaDoorRows.lean that lists a variable, with what it lists TIED to the program's text (the seventh form; the later family's looks); each row that meets fmt, with fmt's text TOLD by the authors' own Lean function (tested against real Go, not proved from fmt's source: count such statements apart). THE CARD IS WHAT COUNTS. Prove the row's statement (the work); the ties are given (YtkfphaphiikloaaDoorTie.lean); close each card by the builder's one call (the guide's Derived/Test/ToyasCard.lean, 'card_holds'). Laid BY PROGRAM, IN A SANDBOX (cutbox-door.mjs). By AI agents, Wed Nov 11 2026. No macro, syntax, notation, axiom, sorry.
-/
import Derived.Test.YtkfphaphiikloaaDoorRows
import GoSem.ClaimSeven
namespace Go.Proofs.YtkfphaphiikloaaDoor
namespace Rows

/-- THE TIED CARD OF 'sluicelaw7.CodeCompiles'. -/
def codeCompilesCard : Claim7 := { stood := { row := codeCompilesRow, standIns := [], harness := (true, "7268a66df8f3d9c3319583cb0c5c8d1dc7489b957e019c3a90e18d72b597e655"), looks := false }, kinds := [], alts := [], laidByText := true, laidKinds := [.data], laidTests := true, laidLooks := .later }
def CodeCompilesCardSaid : Prop := Claim7.holds Tryd.pinned (.plain (OpenSpec.ofChange codeCompilesSpec)) codeCompilesCard

/-- THE TIED CARD OF 'sluicelaw7.CodeRuns'. -/
def codeRunsCard : Claim7 := { stood := { row := codeRunsRow, standIns := [], harness := (true, "7268a66df8f3d9c3319583cb0c5c8d1dc7489b957e019c3a90e18d72b597e655"), looks := false }, kinds := [], alts := [], laidByText := true, laidKinds := [.data, .data, .data, .data, .data, .data, .data], laidTests := true, laidLooks := .later }
def CodeRunsCardSaid : Prop := Claim7.holds Tryd.pinned (.plain (OpenSpec.ofChange codeRunsSpec)) codeRunsCard

/-- THE TIED CARD OF 'sluicelaw7.CodeEvery'. -/
def codeEveryCard : Claim7 := { stood := { row := codeEveryRow, standIns := [], harness := (true, "7268a66df8f3d9c3319583cb0c5c8d1dc7489b957e019c3a90e18d72b597e655"), looks := false }, kinds := [], alts := [], laidByText := true, laidKinds := [.data, .data, .data, .data, .data, .data, .data], laidTests := true, laidLooks := .later }
def CodeEveryCardSaid : Prop := Claim7.holds Tryd.pinned (.plain (OpenSpec.ofChange codeEverySpec)) codeEveryCard

/-- THE TIED CARD OF 'sluicelaw7.CodeEvals'. -/
def codeEvalsCard : Claim7 := { stood := { row := codeEvalsRow, standIns := [], harness := (true, "7268a66df8f3d9c3319583cb0c5c8d1dc7489b957e019c3a90e18d72b597e655"), looks := false }, kinds := [], alts := [], laidByText := true, laidKinds := [.data, .data, .data, .data, .data, .data, .data], laidTests := true, laidLooks := .later }
def CodeEvalsCardSaid : Prop := Claim7.holds Tryd.pinned (.plain (OpenSpec.ofChange codeEvalsSpec)) codeEvalsCard

/-- THE TIED CARD OF 'sluicelaw7.CodeSpares'. -/
def codeSparesCard : Claim7 := { stood := { row := codeSparesRow, standIns := [], harness := (true, "7268a66df8f3d9c3319583cb0c5c8d1dc7489b957e019c3a90e18d72b597e655"), looks := false }, kinds := [], alts := [], laidByText := true, laidKinds := [.data, .data, .data, .data, .data, .data, .data, .data], laidTests := true, laidLooks := .later }
def CodeSparesCardSaid : Prop := Claim7.holds Tryd.pinned (.plain (OpenSpec.ofChange codeSparesSpec)) codeSparesCard

/-- THE TIED CARD OF 'sluicelaw7.CodeAgrees'. -/
def codeAgreesCard : Claim7 := { stood := { row := codeAgreesRow, standIns := [], harness := (true, "7268a66df8f3d9c3319583cb0c5c8d1dc7489b957e019c3a90e18d72b597e655"), looks := false }, kinds := [], alts := [], laidByText := true, laidKinds := [.data, .data, .data, .data, .data, .data, .data, .data], laidTests := true, laidLooks := .later }
def CodeAgreesCardSaid : Prop := Claim7.holds Tryd.pinned (.plain (OpenSpec.ofChange codeAgreesSpec)) codeAgreesCard

/-- THE TIED CARD OF 'sluicelaw7.CodeComposes'. -/
def codeComposesCard : Claim7 := { stood := { row := codeComposesRow, standIns := [], harness := (true, "7268a66df8f3d9c3319583cb0c5c8d1dc7489b957e019c3a90e18d72b597e655"), looks := false }, kinds := [], alts := [], laidByText := true, laidKinds := [.data, .data, .data, .data, .data, .data, .data, .data], laidTests := true, laidLooks := .later }
def CodeComposesCardSaid : Prop := Claim7.holds Tryd.pinned (.plain (OpenSpec.ofChange codeComposesSpec)) codeComposesCard

/-- THE TIED CARD OF 'sluicelaw7.CodeSkips'. -/
def codeSkipsCard : Claim7 := { stood := { row := codeSkipsRow, standIns := [], harness := (true, "7268a66df8f3d9c3319583cb0c5c8d1dc7489b957e019c3a90e18d72b597e655"), looks := false }, kinds := [], alts := [], laidByText := true, laidKinds := [.data, .data, .data, .data, .data, .data, .data, .data], laidTests := true, laidLooks := .later }
def CodeSkipsCardSaid : Prop := Claim7.holds Tryd.pinned (.plain (OpenSpec.ofChange codeSkipsSpec)) codeSkipsCard

/-- THE TIED CARD OF 'sluicelaw7.CodeFrame'. -/
def codeFrameCard : Claim7 := { stood := { row := codeFrameRow, standIns := [], harness := (true, "7268a66df8f3d9c3319583cb0c5c8d1dc7489b957e019c3a90e18d72b597e655"), looks := false }, kinds := [], alts := [], laidByText := true, laidKinds := [.data, .data, .data, .data, .data, .data, .data, .data], laidTests := true, laidLooks := .later }
def CodeFrameCardSaid : Prop := Claim7.holds Tryd.pinned (.plain (OpenSpec.ofChange codeFrameSpec)) codeFrameCard

/-- THE TIED CARD OF 'sluicelaw7.CodeConjuncts'. -/
def codeConjunctsCard : Claim7 := { stood := { row := codeConjunctsRow, standIns := [], harness := (true, "7268a66df8f3d9c3319583cb0c5c8d1dc7489b957e019c3a90e18d72b597e655"), looks := false }, kinds := [], alts := [], laidByText := true, laidKinds := [.data, .data, .data, .data, .data, .data, .data, .data], laidTests := true, laidLooks := .later }
def CodeConjunctsCardSaid : Prop := Claim7.holds Tryd.pinned (.plain (OpenSpec.ofChange codeConjunctsSpec)) codeConjunctsCard

/-- THE TIED CARD OF 'sluicelaw7.CodeRenames'. -/
def codeRenamesCard : Claim7 := { stood := { row := codeRenamesRow, standIns := [], harness := (true, "7268a66df8f3d9c3319583cb0c5c8d1dc7489b957e019c3a90e18d72b597e655"), looks := false }, kinds := [], alts := [], laidByText := true, laidKinds := [.data, .data, .data, .data, .data, .data, .data, .data, .data, .data, .data], laidTests := true, laidLooks := .later }
def CodeRenamesCardSaid : Prop := Claim7.holds Tryd.pinned (.plain (OpenSpec.ofChange codeRenamesSpec)) codeRenamesCard

/-- THE SECOND FORM's CARD OF 'sluicelaw7.CodeCompiles'. -/
def codeCompilesUptoCard : Claim7 := { stood := { row := codeCompilesUptoRow, standIns := [], harness := (true, "7268a66df8f3d9c3319583cb0c5c8d1dc7489b957e019c3a90e18d72b597e655"), looks := false }, kinds := [], alts := [], laidByText := true, laidKinds := [.data], laidTests := true, laidLooks := .later }
def CodeCompilesUptoCardSaid : Prop := Claim7.holds Tryd.pinned (.plain (OpenSpec.upto codeCompilesSpec)) codeCompilesUptoCard

/-- THE SECOND FORM's CARD OF 'sluicelaw7.CodeRuns'. -/
def codeRunsUptoCard : Claim7 := { stood := { row := codeRunsUptoRow, standIns := [], harness := (true, "7268a66df8f3d9c3319583cb0c5c8d1dc7489b957e019c3a90e18d72b597e655"), looks := false }, kinds := [], alts := [], laidByText := true, laidKinds := [.data, .data, .data, .data, .data, .data, .data], laidTests := true, laidLooks := .later }
def CodeRunsUptoCardSaid : Prop := Claim7.holds Tryd.pinned (.plain (OpenSpec.upto codeRunsSpec)) codeRunsUptoCard

/-- THE SECOND FORM's CARD OF 'sluicelaw7.CodeEvery'. -/
def codeEveryUptoCard : Claim7 := { stood := { row := codeEveryUptoRow, standIns := [], harness := (true, "7268a66df8f3d9c3319583cb0c5c8d1dc7489b957e019c3a90e18d72b597e655"), looks := false }, kinds := [], alts := [], laidByText := true, laidKinds := [.data, .data, .data, .data, .data, .data, .data], laidTests := true, laidLooks := .later }
def CodeEveryUptoCardSaid : Prop := Claim7.holds Tryd.pinned (.plain (OpenSpec.upto codeEverySpec)) codeEveryUptoCard

/-- THE SECOND FORM's CARD OF 'sluicelaw7.CodeEvals'. -/
def codeEvalsUptoCard : Claim7 := { stood := { row := codeEvalsUptoRow, standIns := [], harness := (true, "7268a66df8f3d9c3319583cb0c5c8d1dc7489b957e019c3a90e18d72b597e655"), looks := false }, kinds := [], alts := [], laidByText := true, laidKinds := [.data, .data, .data, .data, .data, .data, .data], laidTests := true, laidLooks := .later }
def CodeEvalsUptoCardSaid : Prop := Claim7.holds Tryd.pinned (.plain (OpenSpec.upto codeEvalsSpec)) codeEvalsUptoCard

/-- THE SECOND FORM's CARD OF 'sluicelaw7.CodeSpares'. -/
def codeSparesUptoCard : Claim7 := { stood := { row := codeSparesUptoRow, standIns := [], harness := (true, "7268a66df8f3d9c3319583cb0c5c8d1dc7489b957e019c3a90e18d72b597e655"), looks := false }, kinds := [], alts := [], laidByText := true, laidKinds := [.data, .data, .data, .data, .data, .data, .data, .data], laidTests := true, laidLooks := .later }
def CodeSparesUptoCardSaid : Prop := Claim7.holds Tryd.pinned (.plain (OpenSpec.upto codeSparesSpec)) codeSparesUptoCard

/-- THE SECOND FORM's CARD OF 'sluicelaw7.CodeAgrees'. -/
def codeAgreesUptoCard : Claim7 := { stood := { row := codeAgreesUptoRow, standIns := [], harness := (true, "7268a66df8f3d9c3319583cb0c5c8d1dc7489b957e019c3a90e18d72b597e655"), looks := false }, kinds := [], alts := [], laidByText := true, laidKinds := [.data, .data, .data, .data, .data, .data, .data, .data], laidTests := true, laidLooks := .later }
def CodeAgreesUptoCardSaid : Prop := Claim7.holds Tryd.pinned (.plain (OpenSpec.upto codeAgreesSpec)) codeAgreesUptoCard

/-- THE SECOND FORM's CARD OF 'sluicelaw7.CodeComposes'. -/
def codeComposesUptoCard : Claim7 := { stood := { row := codeComposesUptoRow, standIns := [], harness := (true, "7268a66df8f3d9c3319583cb0c5c8d1dc7489b957e019c3a90e18d72b597e655"), looks := false }, kinds := [], alts := [], laidByText := true, laidKinds := [.data, .data, .data, .data, .data, .data, .data, .data], laidTests := true, laidLooks := .later }
def CodeComposesUptoCardSaid : Prop := Claim7.holds Tryd.pinned (.plain (OpenSpec.upto codeComposesSpec)) codeComposesUptoCard

/-- THE SECOND FORM's CARD OF 'sluicelaw7.CodeSkips'. -/
def codeSkipsUptoCard : Claim7 := { stood := { row := codeSkipsUptoRow, standIns := [], harness := (true, "7268a66df8f3d9c3319583cb0c5c8d1dc7489b957e019c3a90e18d72b597e655"), looks := false }, kinds := [], alts := [], laidByText := true, laidKinds := [.data, .data, .data, .data, .data, .data, .data, .data], laidTests := true, laidLooks := .later }
def CodeSkipsUptoCardSaid : Prop := Claim7.holds Tryd.pinned (.plain (OpenSpec.upto codeSkipsSpec)) codeSkipsUptoCard

/-- THE SECOND FORM's CARD OF 'sluicelaw7.CodeFrame'. -/
def codeFrameUptoCard : Claim7 := { stood := { row := codeFrameUptoRow, standIns := [], harness := (true, "7268a66df8f3d9c3319583cb0c5c8d1dc7489b957e019c3a90e18d72b597e655"), looks := false }, kinds := [], alts := [], laidByText := true, laidKinds := [.data, .data, .data, .data, .data, .data, .data, .data], laidTests := true, laidLooks := .later }
def CodeFrameUptoCardSaid : Prop := Claim7.holds Tryd.pinned (.plain (OpenSpec.upto codeFrameSpec)) codeFrameUptoCard

/-- THE SECOND FORM's CARD OF 'sluicelaw7.CodeConjuncts'. -/
def codeConjunctsUptoCard : Claim7 := { stood := { row := codeConjunctsUptoRow, standIns := [], harness := (true, "7268a66df8f3d9c3319583cb0c5c8d1dc7489b957e019c3a90e18d72b597e655"), looks := false }, kinds := [], alts := [], laidByText := true, laidKinds := [.data, .data, .data, .data, .data, .data, .data, .data], laidTests := true, laidLooks := .later }
def CodeConjunctsUptoCardSaid : Prop := Claim7.holds Tryd.pinned (.plain (OpenSpec.upto codeConjunctsSpec)) codeConjunctsUptoCard

/-- THE SECOND FORM's CARD OF 'sluicelaw7.CodeRenames'. -/
def codeRenamesUptoCard : Claim7 := { stood := { row := codeRenamesUptoRow, standIns := [], harness := (true, "7268a66df8f3d9c3319583cb0c5c8d1dc7489b957e019c3a90e18d72b597e655"), looks := false }, kinds := [], alts := [], laidByText := true, laidKinds := [.data, .data, .data, .data, .data, .data, .data, .data, .data, .data, .data], laidTests := true, laidLooks := .later }
def CodeRenamesUptoCardSaid : Prop := Claim7.holds Tryd.pinned (.plain (OpenSpec.upto codeRenamesSpec)) codeRenamesUptoCard
end Rows
end Go.Proofs.YtkfphaphiikloaaDoor
