/-
  DERIVED. GIVEN WITH THE SEED: THE CARDS: each row of YtnaahincolooeaaGreatDoorRows.lean that lists a variable, with what it lists TIED to the program's text (the seventh form; the later family's looks); each row that meets fmt, with fmt's text TOLD by the authors' own Lean function (tested against real Go, not proved from fmt's source: count such statements apart). THE CARD IS WHAT COUNTS. Prove the row's statement (the work); the ties are given (YtnaahincolooeaaGreatDoorTie.lean); close each card by the builder's one call (the guide's Derived/Test/ToyasCard.lean, 'card_holds'). Laid BY PROGRAM, IN A SANDBOX (cutbox-door.mjs). By AI agents, Wed Nov 11 2026. No macro, syntax, notation, axiom, sorry.
-/
import Derived.Test.YtnaahincolooeaaGreatDoorRows
import GoSem.ClaimSeven
namespace Go.Proofs.YtnaahincolooeaaGreatDoor
namespace Rows

/-- THE TIED CARD OF 'laws.FnDropAt'. -/
def fnDropAtCard : Claim7 := { stood := { row := fnDropAtRow, standIns := [], harness := (true, "a262e780854a34273396b41e0781cf87effc3b2482dfa39fba90b346d790b489"), looks := false }, kinds := [], alts := [], laidByText := true, laidKinds := [.data, .data, .data, .data, .pinned], laidTests := true, laidLooks := .later }
def FnDropAtCardSaid : Prop := Claim7.holds Tryz.pinned (.plain (OpenSpec.ofChange fnDropAtSpec)) fnDropAtCard

/-- THE TIED CARD OF 'laws.FnWriteBack'. -/
def fnWriteBackCard : Claim7 := { stood := { row := fnWriteBackRow, standIns := [], harness := (true, "a262e780854a34273396b41e0781cf87effc3b2482dfa39fba90b346d790b489"), looks := false }, kinds := [], alts := [], laidByText := true, laidKinds := [.data, .data, .data, .data, .pinned], laidTests := true, laidLooks := .later }
def FnWriteBackCardSaid : Prop := Claim7.holds Tryz.pinned (.plain (OpenSpec.ofChange fnWriteBackSpec)) fnWriteBackCard

/-- THE TIED CARD OF 'laws.FnWriteAt'. -/
def fnWriteAtCard : Claim7 := { stood := { row := fnWriteAtRow, standIns := [], harness := (true, "a262e780854a34273396b41e0781cf87effc3b2482dfa39fba90b346d790b489"), looks := false }, kinds := [], alts := [], laidByText := true, laidKinds := [.data, .data, .data, .data, .pinned], laidTests := true, laidLooks := .later }
def FnWriteAtCardSaid : Prop := Claim7.holds Tryz.pinned (.plain (OpenSpec.ofChange fnWriteAtSpec)) fnWriteAtCard

/-- THE TIED CARD OF 'laws.FnAllFiles'. -/
def fnAllFilesCard : Claim7 := { stood := { row := fnAllFilesRow, standIns := [], harness := (true, "a262e780854a34273396b41e0781cf87effc3b2482dfa39fba90b346d790b489"), looks := false }, kinds := [], alts := [], laidByText := true, laidKinds := [.data, .data, .data, .data, .pinned], laidTests := true, laidLooks := .later }
def FnAllFilesCardSaid : Prop := Claim7.holds Tryz.pinned (.plain (OpenSpec.ofChange fnAllFilesSpec)) fnAllFilesCard

/-- THE TIED CARD OF 'laws.FnFilesNamed'. -/
def fnFilesNamedCard : Claim7 := { stood := { row := fnFilesNamedRow, standIns := [], harness := (true, "a262e780854a34273396b41e0781cf87effc3b2482dfa39fba90b346d790b489"), looks := false }, kinds := [], alts := [], laidByText := true, laidKinds := [.data, .data, .data, .data, .pinned], laidTests := true, laidLooks := .later }
def FnFilesNamedCardSaid : Prop := Claim7.holds Tryz.pinned (.plain (OpenSpec.ofChange fnFilesNamedSpec)) fnFilesNamedCard

/-- THE TIED CARD OF 'laws.FnAbsenceRight'. -/
def fnAbsenceRightCard : Claim7 := { stood := { row := fnAbsenceRightRow, standIns := [], harness := (true, "a262e780854a34273396b41e0781cf87effc3b2482dfa39fba90b346d790b489"), looks := false }, kinds := [], alts := [], laidByText := true, laidKinds := [.data, .data, .data, .data, .pinned], laidTests := true, laidLooks := .later }
def FnAbsenceRightCardSaid : Prop := Claim7.holds Tryz.pinned (.plain (OpenSpec.ofChange fnAbsenceRightSpec)) fnAbsenceRightCard

/-- THE TIED CARD OF 'laws.FnPathProof'. -/
def fnPathProofCard : Claim7 := { stood := { row := fnPathProofRow, standIns := [], harness := (true, "a262e780854a34273396b41e0781cf87effc3b2482dfa39fba90b346d790b489"), looks := false }, kinds := [], alts := [], laidByText := true, laidKinds := [.data, .data, .data, .data, .pinned], laidTests := true, laidLooks := .later }
def FnPathProofCardSaid : Prop := Claim7.holds Tryz.pinned (.plain (OpenSpec.ofChange fnPathProofSpec)) fnPathProofCard

/-- THE TIED CARD OF 'laws.FnProofsHold'. -/
def fnProofsHoldCard : Claim7 := { stood := { row := fnProofsHoldRow, standIns := [], harness := (true, "a262e780854a34273396b41e0781cf87effc3b2482dfa39fba90b346d790b489"), looks := false }, kinds := [], alts := [], laidByText := true, laidKinds := [.data, .data, .data, .data, .pinned], laidTests := true, laidLooks := .later }
def FnProofsHoldCardSaid : Prop := Claim7.holds Tryz.pinned (.plain (OpenSpec.ofChange fnProofsHoldSpec)) fnProofsHoldCard

/-- THE TIED CARD OF 'laws.FnProofRight'. -/
def fnProofRightCard : Claim7 := { stood := { row := fnProofRightRow, standIns := [], harness := (true, "a262e780854a34273396b41e0781cf87effc3b2482dfa39fba90b346d790b489"), looks := false }, kinds := [], alts := [], laidByText := true, laidKinds := [.data, .data, .data, .data, .pinned], laidTests := true, laidLooks := .later }
def FnProofRightCardSaid : Prop := Claim7.holds Tryz.pinned (.plain (OpenSpec.ofChange fnProofRightSpec)) fnProofRightCard

/-- THE TIED CARD OF 'laws.FnProofOrAbsence'. -/
def fnProofOrAbsenceCard : Claim7 := { stood := { row := fnProofOrAbsenceRow, standIns := [], harness := (true, "a262e780854a34273396b41e0781cf87effc3b2482dfa39fba90b346d790b489"), looks := false }, kinds := [], alts := [], laidByText := true, laidKinds := [.data, .data, .data, .data, .pinned], laidTests := true, laidLooks := .later }
def FnProofOrAbsenceCardSaid : Prop := Claim7.holds Tryz.pinned (.plain (OpenSpec.ofChange fnProofOrAbsenceSpec)) fnProofOrAbsenceCard

/-- THE TIED CARD OF 'laws.FnProofContent'. -/
def fnProofContentCard : Claim7 := { stood := { row := fnProofContentRow, standIns := [], harness := (true, "a262e780854a34273396b41e0781cf87effc3b2482dfa39fba90b346d790b489"), looks := false }, kinds := [], alts := [], laidByText := true, laidKinds := [.data, .data, .data, .data, .pinned], laidTests := true, laidLooks := .later }
def FnProofContentCardSaid : Prop := Claim7.holds Tryz.pinned (.plain (OpenSpec.ofChange fnProofContentSpec)) fnProofContentCard

/-- THE TIED CARD OF 'laws.FnAbsenceProof'. -/
def fnAbsenceProofCard : Claim7 := { stood := { row := fnAbsenceProofRow, standIns := [], harness := (true, "a262e780854a34273396b41e0781cf87effc3b2482dfa39fba90b346d790b489"), looks := false }, kinds := [], alts := [], laidByText := true, laidKinds := [.data, .data, .data, .data, .pinned], laidTests := true, laidLooks := .later }
def FnAbsenceProofCardSaid : Prop := Claim7.holds Tryz.pinned (.plain (OpenSpec.ofChange fnAbsenceProofSpec)) fnAbsenceProofCard

/-- THE SECOND FORM's CARD OF 'laws.FnDropAt'. -/
def fnDropAtUptoCard : Claim7 := { stood := { row := fnDropAtUptoRow, standIns := [], harness := (true, "a262e780854a34273396b41e0781cf87effc3b2482dfa39fba90b346d790b489"), looks := false }, kinds := [], alts := [], laidByText := true, laidKinds := [.data, .data, .data, .data, .pinned], laidTests := true, laidLooks := .later }
def FnDropAtUptoCardSaid : Prop := Claim7.holds Tryz.pinned (.plain (OpenSpec.upto fnDropAtSpec)) fnDropAtUptoCard

/-- THE SECOND FORM's CARD OF 'laws.FnWriteBack'. -/
def fnWriteBackUptoCard : Claim7 := { stood := { row := fnWriteBackUptoRow, standIns := [], harness := (true, "a262e780854a34273396b41e0781cf87effc3b2482dfa39fba90b346d790b489"), looks := false }, kinds := [], alts := [], laidByText := true, laidKinds := [.data, .data, .data, .data, .pinned], laidTests := true, laidLooks := .later }
def FnWriteBackUptoCardSaid : Prop := Claim7.holds Tryz.pinned (.plain (OpenSpec.upto fnWriteBackSpec)) fnWriteBackUptoCard

/-- THE SECOND FORM's CARD OF 'laws.FnWriteAt'. -/
def fnWriteAtUptoCard : Claim7 := { stood := { row := fnWriteAtUptoRow, standIns := [], harness := (true, "a262e780854a34273396b41e0781cf87effc3b2482dfa39fba90b346d790b489"), looks := false }, kinds := [], alts := [], laidByText := true, laidKinds := [.data, .data, .data, .data, .pinned], laidTests := true, laidLooks := .later }
def FnWriteAtUptoCardSaid : Prop := Claim7.holds Tryz.pinned (.plain (OpenSpec.upto fnWriteAtSpec)) fnWriteAtUptoCard

/-- THE SECOND FORM's CARD OF 'laws.FnAllFiles'. -/
def fnAllFilesUptoCard : Claim7 := { stood := { row := fnAllFilesUptoRow, standIns := [], harness := (true, "a262e780854a34273396b41e0781cf87effc3b2482dfa39fba90b346d790b489"), looks := false }, kinds := [], alts := [], laidByText := true, laidKinds := [.data, .data, .data, .data, .pinned], laidTests := true, laidLooks := .later }
def FnAllFilesUptoCardSaid : Prop := Claim7.holds Tryz.pinned (.plain (OpenSpec.upto fnAllFilesSpec)) fnAllFilesUptoCard

/-- THE SECOND FORM's CARD OF 'laws.FnFilesNamed'. -/
def fnFilesNamedUptoCard : Claim7 := { stood := { row := fnFilesNamedUptoRow, standIns := [], harness := (true, "a262e780854a34273396b41e0781cf87effc3b2482dfa39fba90b346d790b489"), looks := false }, kinds := [], alts := [], laidByText := true, laidKinds := [.data, .data, .data, .data, .pinned], laidTests := true, laidLooks := .later }
def FnFilesNamedUptoCardSaid : Prop := Claim7.holds Tryz.pinned (.plain (OpenSpec.upto fnFilesNamedSpec)) fnFilesNamedUptoCard

/-- THE SECOND FORM's CARD OF 'laws.FnAbsenceRight'. -/
def fnAbsenceRightUptoCard : Claim7 := { stood := { row := fnAbsenceRightUptoRow, standIns := [], harness := (true, "a262e780854a34273396b41e0781cf87effc3b2482dfa39fba90b346d790b489"), looks := false }, kinds := [], alts := [], laidByText := true, laidKinds := [.data, .data, .data, .data, .pinned], laidTests := true, laidLooks := .later }
def FnAbsenceRightUptoCardSaid : Prop := Claim7.holds Tryz.pinned (.plain (OpenSpec.upto fnAbsenceRightSpec)) fnAbsenceRightUptoCard

/-- THE SECOND FORM's CARD OF 'laws.FnPathProof'. -/
def fnPathProofUptoCard : Claim7 := { stood := { row := fnPathProofUptoRow, standIns := [], harness := (true, "a262e780854a34273396b41e0781cf87effc3b2482dfa39fba90b346d790b489"), looks := false }, kinds := [], alts := [], laidByText := true, laidKinds := [.data, .data, .data, .data, .pinned], laidTests := true, laidLooks := .later }
def FnPathProofUptoCardSaid : Prop := Claim7.holds Tryz.pinned (.plain (OpenSpec.upto fnPathProofSpec)) fnPathProofUptoCard

/-- THE SECOND FORM's CARD OF 'laws.FnProofsHold'. -/
def fnProofsHoldUptoCard : Claim7 := { stood := { row := fnProofsHoldUptoRow, standIns := [], harness := (true, "a262e780854a34273396b41e0781cf87effc3b2482dfa39fba90b346d790b489"), looks := false }, kinds := [], alts := [], laidByText := true, laidKinds := [.data, .data, .data, .data, .pinned], laidTests := true, laidLooks := .later }
def FnProofsHoldUptoCardSaid : Prop := Claim7.holds Tryz.pinned (.plain (OpenSpec.upto fnProofsHoldSpec)) fnProofsHoldUptoCard

/-- THE SECOND FORM's CARD OF 'laws.FnProofRight'. -/
def fnProofRightUptoCard : Claim7 := { stood := { row := fnProofRightUptoRow, standIns := [], harness := (true, "a262e780854a34273396b41e0781cf87effc3b2482dfa39fba90b346d790b489"), looks := false }, kinds := [], alts := [], laidByText := true, laidKinds := [.data, .data, .data, .data, .pinned], laidTests := true, laidLooks := .later }
def FnProofRightUptoCardSaid : Prop := Claim7.holds Tryz.pinned (.plain (OpenSpec.upto fnProofRightSpec)) fnProofRightUptoCard

/-- THE SECOND FORM's CARD OF 'laws.FnProofOrAbsence'. -/
def fnProofOrAbsenceUptoCard : Claim7 := { stood := { row := fnProofOrAbsenceUptoRow, standIns := [], harness := (true, "a262e780854a34273396b41e0781cf87effc3b2482dfa39fba90b346d790b489"), looks := false }, kinds := [], alts := [], laidByText := true, laidKinds := [.data, .data, .data, .data, .pinned], laidTests := true, laidLooks := .later }
def FnProofOrAbsenceUptoCardSaid : Prop := Claim7.holds Tryz.pinned (.plain (OpenSpec.upto fnProofOrAbsenceSpec)) fnProofOrAbsenceUptoCard

/-- THE SECOND FORM's CARD OF 'laws.FnProofContent'. -/
def fnProofContentUptoCard : Claim7 := { stood := { row := fnProofContentUptoRow, standIns := [], harness := (true, "a262e780854a34273396b41e0781cf87effc3b2482dfa39fba90b346d790b489"), looks := false }, kinds := [], alts := [], laidByText := true, laidKinds := [.data, .data, .data, .data, .pinned], laidTests := true, laidLooks := .later }
def FnProofContentUptoCardSaid : Prop := Claim7.holds Tryz.pinned (.plain (OpenSpec.upto fnProofContentSpec)) fnProofContentUptoCard

/-- THE SECOND FORM's CARD OF 'laws.FnAbsenceProof'. -/
def fnAbsenceProofUptoCard : Claim7 := { stood := { row := fnAbsenceProofUptoRow, standIns := [], harness := (true, "a262e780854a34273396b41e0781cf87effc3b2482dfa39fba90b346d790b489"), looks := false }, kinds := [], alts := [], laidByText := true, laidKinds := [.data, .data, .data, .data, .pinned], laidTests := true, laidLooks := .later }
def FnAbsenceProofUptoCardSaid : Prop := Claim7.holds Tryz.pinned (.plain (OpenSpec.upto fnAbsenceProofSpec)) fnAbsenceProofUptoCard
end Rows
end Go.Proofs.YtnaahincolooeaaGreatDoor
