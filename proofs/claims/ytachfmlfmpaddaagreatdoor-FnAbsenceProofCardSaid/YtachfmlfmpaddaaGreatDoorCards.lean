/-
  DERIVED. GIVEN WITH THE SEED: THE CARDS: each row of YtachfmlfmpaddaaGreatDoorRows.lean that lists a variable, with what it lists TIED to the program's text (the seventh form; the later family's looks); each row that meets fmt, with fmt's text TOLD by the authors' own Lean function (tested against real Go, not proved from fmt's source: count such statements apart). THE CARD IS WHAT COUNTS. Prove the row's statement (the work); the ties are given (YtachfmlfmpaddaaGreatDoorTie.lean); close each card by the builder's one call (the guide's Derived/Test/ToyasCard.lean, 'card_holds'). Laid BY PROGRAM, IN A SANDBOX (cutbox-door.mjs). By AI agents, Wed Nov 11 2026. No macro, syntax, notation, axiom, sorry.
-/
import Derived.Test.YtachfmlfmpaddaaGreatDoorRows
import GoSem.ClaimSeven
namespace Go.Proofs.YtachfmlfmpaddaaGreatDoor
namespace Rows

/-- THE TIED CARD OF 'laws.FnProofsHold'. -/
def fnProofsHoldCard : Claim7 := { stood := { row := fnProofsHoldRow, standIns := [], harness := (true, "a6b2733fb95d78a369b8b86613a04273243384a6485389e7a73c6ace98bc2a1e"), looks := false }, kinds := [], alts := [], laidByText := true, laidKinds := [.data, .data, .data, .data, .pinned], laidTests := true, laidLooks := .later }
def FnProofsHoldCardSaid : Prop := Claim7.holds Tryz.pinned (.plain (OpenSpec.ofChange fnProofsHoldSpec)) fnProofsHoldCard

/-- THE TIED CARD OF 'laws.FnProofRight'. -/
def fnProofRightCard : Claim7 := { stood := { row := fnProofRightRow, standIns := [], harness := (true, "a6b2733fb95d78a369b8b86613a04273243384a6485389e7a73c6ace98bc2a1e"), looks := false }, kinds := [], alts := [], laidByText := true, laidKinds := [.data, .data, .data, .data, .pinned], laidTests := true, laidLooks := .later }
def FnProofRightCardSaid : Prop := Claim7.holds Tryz.pinned (.plain (OpenSpec.ofChange fnProofRightSpec)) fnProofRightCard

/-- THE TIED CARD OF 'laws.FnAbsenceProof'. -/
def fnAbsenceProofCard : Claim7 := { stood := { row := fnAbsenceProofRow, standIns := [], harness := (true, "a6b2733fb95d78a369b8b86613a04273243384a6485389e7a73c6ace98bc2a1e"), looks := false }, kinds := [], alts := [], laidByText := true, laidKinds := [.data, .data, .data, .data, .pinned], laidTests := true, laidLooks := .later }
def FnAbsenceProofCardSaid : Prop := Claim7.holds Tryz.pinned (.plain (OpenSpec.ofChange fnAbsenceProofSpec)) fnAbsenceProofCard

/-- THE TIED CARD OF 'laws.FnProofContent'. -/
def fnProofContentCard : Claim7 := { stood := { row := fnProofContentRow, standIns := [], harness := (true, "a6b2733fb95d78a369b8b86613a04273243384a6485389e7a73c6ace98bc2a1e"), looks := false }, kinds := [], alts := [], laidByText := true, laidKinds := [.data, .data, .data, .data, .pinned], laidTests := true, laidLooks := .later }
def FnProofContentCardSaid : Prop := Claim7.holds Tryz.pinned (.plain (OpenSpec.ofChange fnProofContentSpec)) fnProofContentCard

/-- THE TIED CARD OF 'laws.FnFilesNamed'. -/
def fnFilesNamedCard : Claim7 := { stood := { row := fnFilesNamedRow, standIns := [], harness := (true, "a6b2733fb95d78a369b8b86613a04273243384a6485389e7a73c6ace98bc2a1e"), looks := false }, kinds := [], alts := [], laidByText := true, laidKinds := [.data, .data, .data, .data, .pinned], laidTests := true, laidLooks := .later }
def FnFilesNamedCardSaid : Prop := Claim7.holds Tryz.pinned (.plain (OpenSpec.ofChange fnFilesNamedSpec)) fnFilesNamedCard

/-- THE TIED CARD OF 'laws.FnProofOrAbsence'. -/
def fnProofOrAbsenceCard : Claim7 := { stood := { row := fnProofOrAbsenceRow, standIns := [], harness := (true, "a6b2733fb95d78a369b8b86613a04273243384a6485389e7a73c6ace98bc2a1e"), looks := false }, kinds := [], alts := [], laidByText := true, laidKinds := [.data, .data, .data, .data, .pinned], laidTests := true, laidLooks := .later }
def FnProofOrAbsenceCardSaid : Prop := Claim7.holds Tryz.pinned (.plain (OpenSpec.ofChange fnProofOrAbsenceSpec)) fnProofOrAbsenceCard

/-- THE TIED CARD OF 'laws.FnWriteBack'. -/
def fnWriteBackCard : Claim7 := { stood := { row := fnWriteBackRow, standIns := [], harness := (true, "a6b2733fb95d78a369b8b86613a04273243384a6485389e7a73c6ace98bc2a1e"), looks := false }, kinds := [], alts := [], laidByText := true, laidKinds := [.data, .data, .data, .data, .pinned], laidTests := true, laidLooks := .later }
def FnWriteBackCardSaid : Prop := Claim7.holds Tryz.pinned (.plain (OpenSpec.ofChange fnWriteBackSpec)) fnWriteBackCard

/-- THE TIED CARD OF 'laws.FnWriteAt'. -/
def fnWriteAtCard : Claim7 := { stood := { row := fnWriteAtRow, standIns := [], harness := (true, "a6b2733fb95d78a369b8b86613a04273243384a6485389e7a73c6ace98bc2a1e"), looks := false }, kinds := [], alts := [], laidByText := true, laidKinds := [.data, .data, .data, .data, .pinned], laidTests := true, laidLooks := .later }
def FnWriteAtCardSaid : Prop := Claim7.holds Tryz.pinned (.plain (OpenSpec.ofChange fnWriteAtSpec)) fnWriteAtCard

/-- THE TIED CARD OF 'laws.FnSyncRoot'. -/
def fnSyncRootCard : Claim7 := { stood := { row := fnSyncRootRow, standIns := [], harness := (true, "a6b2733fb95d78a369b8b86613a04273243384a6485389e7a73c6ace98bc2a1e"), looks := false }, kinds := [], alts := [], laidByText := true, laidKinds := [.data, .data, .data, .data, .pinned], laidTests := true, laidLooks := .later }
def FnSyncRootCardSaid : Prop := Claim7.holds Tryz.pinned (.plain (OpenSpec.ofChange fnSyncRootSpec)) fnSyncRootCard

/-- THE TIED CARD OF 'laws.FnSweepStore'. -/
def fnSweepStoreCard : Claim7 := { stood := { row := fnSweepStoreRow, standIns := [], harness := (true, "a6b2733fb95d78a369b8b86613a04273243384a6485389e7a73c6ace98bc2a1e"), looks := false }, kinds := [], alts := [], laidByText := true, laidKinds := [.data, .data, .data, .data, .pinned], laidTests := true, laidLooks := .later }
def FnSweepStoreCardSaid : Prop := Claim7.holds Tryz.pinned (.plain (OpenSpec.ofChange fnSweepStoreSpec)) fnSweepStoreCard

/-- THE TIED CARD OF 'laws.FnWalkTo'. -/
def fnWalkToCard : Claim7 := { stood := { row := fnWalkToRow, standIns := [], harness := (true, "a6b2733fb95d78a369b8b86613a04273243384a6485389e7a73c6ace98bc2a1e"), looks := false }, kinds := [], alts := [], laidByText := true, laidKinds := [.data, .data, .data, .data, .pinned], laidTests := true, laidLooks := .later }
def FnWalkToCardSaid : Prop := Claim7.holds Tryz.pinned (.plain (OpenSpec.ofChange fnWalkToSpec)) fnWalkToCard

/-- THE TIED CARD OF 'laws.FnReadAt'. -/
def fnReadAtCard : Claim7 := { stood := { row := fnReadAtRow, standIns := [], harness := (true, "a6b2733fb95d78a369b8b86613a04273243384a6485389e7a73c6ace98bc2a1e"), looks := false }, kinds := [], alts := [], laidByText := true, laidKinds := [.data, .data, .data, .data, .pinned], laidTests := true, laidLooks := .later }
def FnReadAtCardSaid : Prop := Claim7.holds Tryz.pinned (.plain (OpenSpec.ofChange fnReadAtSpec)) fnReadAtCard

/-- THE TIED CARD OF 'laws.FnNamesAt'. -/
def fnNamesAtCard : Claim7 := { stood := { row := fnNamesAtRow, standIns := [], harness := (true, "a6b2733fb95d78a369b8b86613a04273243384a6485389e7a73c6ace98bc2a1e"), looks := false }, kinds := [], alts := [], laidByText := true, laidKinds := [.data, .data, .data, .data, .pinned], laidTests := true, laidLooks := .later }
def FnNamesAtCardSaid : Prop := Claim7.holds Tryz.pinned (.plain (OpenSpec.ofChange fnNamesAtSpec)) fnNamesAtCard

/-- THE TIED CARD OF 'laws.FnWriteOrder'. -/
def fnWriteOrderCard : Claim7 := { stood := { row := fnWriteOrderRow, standIns := [], harness := (true, "a6b2733fb95d78a369b8b86613a04273243384a6485389e7a73c6ace98bc2a1e"), looks := false }, kinds := [], alts := [], laidByText := true, laidKinds := [.data, .data, .data, .data, .pinned], laidTests := true, laidLooks := .later }
def FnWriteOrderCardSaid : Prop := Claim7.holds Tryz.pinned (.plain (OpenSpec.ofChange fnWriteOrderSpec)) fnWriteOrderCard

/-- THE SECOND FORM's CARD OF 'laws.FnProofsHold'. -/
def fnProofsHoldUptoCard : Claim7 := { stood := { row := fnProofsHoldUptoRow, standIns := [], harness := (true, "a6b2733fb95d78a369b8b86613a04273243384a6485389e7a73c6ace98bc2a1e"), looks := false }, kinds := [], alts := [], laidByText := true, laidKinds := [.data, .data, .data, .data, .pinned], laidTests := true, laidLooks := .later }
def FnProofsHoldUptoCardSaid : Prop := Claim7.holds Tryz.pinned (.plain (OpenSpec.upto fnProofsHoldSpec)) fnProofsHoldUptoCard

/-- THE SECOND FORM's CARD OF 'laws.FnProofRight'. -/
def fnProofRightUptoCard : Claim7 := { stood := { row := fnProofRightUptoRow, standIns := [], harness := (true, "a6b2733fb95d78a369b8b86613a04273243384a6485389e7a73c6ace98bc2a1e"), looks := false }, kinds := [], alts := [], laidByText := true, laidKinds := [.data, .data, .data, .data, .pinned], laidTests := true, laidLooks := .later }
def FnProofRightUptoCardSaid : Prop := Claim7.holds Tryz.pinned (.plain (OpenSpec.upto fnProofRightSpec)) fnProofRightUptoCard

/-- THE SECOND FORM's CARD OF 'laws.FnAbsenceProof'. -/
def fnAbsenceProofUptoCard : Claim7 := { stood := { row := fnAbsenceProofUptoRow, standIns := [], harness := (true, "a6b2733fb95d78a369b8b86613a04273243384a6485389e7a73c6ace98bc2a1e"), looks := false }, kinds := [], alts := [], laidByText := true, laidKinds := [.data, .data, .data, .data, .pinned], laidTests := true, laidLooks := .later }
def FnAbsenceProofUptoCardSaid : Prop := Claim7.holds Tryz.pinned (.plain (OpenSpec.upto fnAbsenceProofSpec)) fnAbsenceProofUptoCard

/-- THE SECOND FORM's CARD OF 'laws.FnProofContent'. -/
def fnProofContentUptoCard : Claim7 := { stood := { row := fnProofContentUptoRow, standIns := [], harness := (true, "a6b2733fb95d78a369b8b86613a04273243384a6485389e7a73c6ace98bc2a1e"), looks := false }, kinds := [], alts := [], laidByText := true, laidKinds := [.data, .data, .data, .data, .pinned], laidTests := true, laidLooks := .later }
def FnProofContentUptoCardSaid : Prop := Claim7.holds Tryz.pinned (.plain (OpenSpec.upto fnProofContentSpec)) fnProofContentUptoCard

/-- THE SECOND FORM's CARD OF 'laws.FnFilesNamed'. -/
def fnFilesNamedUptoCard : Claim7 := { stood := { row := fnFilesNamedUptoRow, standIns := [], harness := (true, "a6b2733fb95d78a369b8b86613a04273243384a6485389e7a73c6ace98bc2a1e"), looks := false }, kinds := [], alts := [], laidByText := true, laidKinds := [.data, .data, .data, .data, .pinned], laidTests := true, laidLooks := .later }
def FnFilesNamedUptoCardSaid : Prop := Claim7.holds Tryz.pinned (.plain (OpenSpec.upto fnFilesNamedSpec)) fnFilesNamedUptoCard

/-- THE SECOND FORM's CARD OF 'laws.FnProofOrAbsence'. -/
def fnProofOrAbsenceUptoCard : Claim7 := { stood := { row := fnProofOrAbsenceUptoRow, standIns := [], harness := (true, "a6b2733fb95d78a369b8b86613a04273243384a6485389e7a73c6ace98bc2a1e"), looks := false }, kinds := [], alts := [], laidByText := true, laidKinds := [.data, .data, .data, .data, .pinned], laidTests := true, laidLooks := .later }
def FnProofOrAbsenceUptoCardSaid : Prop := Claim7.holds Tryz.pinned (.plain (OpenSpec.upto fnProofOrAbsenceSpec)) fnProofOrAbsenceUptoCard

/-- THE SECOND FORM's CARD OF 'laws.FnWriteBack'. -/
def fnWriteBackUptoCard : Claim7 := { stood := { row := fnWriteBackUptoRow, standIns := [], harness := (true, "a6b2733fb95d78a369b8b86613a04273243384a6485389e7a73c6ace98bc2a1e"), looks := false }, kinds := [], alts := [], laidByText := true, laidKinds := [.data, .data, .data, .data, .pinned], laidTests := true, laidLooks := .later }
def FnWriteBackUptoCardSaid : Prop := Claim7.holds Tryz.pinned (.plain (OpenSpec.upto fnWriteBackSpec)) fnWriteBackUptoCard

/-- THE SECOND FORM's CARD OF 'laws.FnWriteAt'. -/
def fnWriteAtUptoCard : Claim7 := { stood := { row := fnWriteAtUptoRow, standIns := [], harness := (true, "a6b2733fb95d78a369b8b86613a04273243384a6485389e7a73c6ace98bc2a1e"), looks := false }, kinds := [], alts := [], laidByText := true, laidKinds := [.data, .data, .data, .data, .pinned], laidTests := true, laidLooks := .later }
def FnWriteAtUptoCardSaid : Prop := Claim7.holds Tryz.pinned (.plain (OpenSpec.upto fnWriteAtSpec)) fnWriteAtUptoCard

/-- THE SECOND FORM's CARD OF 'laws.FnSyncRoot'. -/
def fnSyncRootUptoCard : Claim7 := { stood := { row := fnSyncRootUptoRow, standIns := [], harness := (true, "a6b2733fb95d78a369b8b86613a04273243384a6485389e7a73c6ace98bc2a1e"), looks := false }, kinds := [], alts := [], laidByText := true, laidKinds := [.data, .data, .data, .data, .pinned], laidTests := true, laidLooks := .later }
def FnSyncRootUptoCardSaid : Prop := Claim7.holds Tryz.pinned (.plain (OpenSpec.upto fnSyncRootSpec)) fnSyncRootUptoCard

/-- THE SECOND FORM's CARD OF 'laws.FnSweepStore'. -/
def fnSweepStoreUptoCard : Claim7 := { stood := { row := fnSweepStoreUptoRow, standIns := [], harness := (true, "a6b2733fb95d78a369b8b86613a04273243384a6485389e7a73c6ace98bc2a1e"), looks := false }, kinds := [], alts := [], laidByText := true, laidKinds := [.data, .data, .data, .data, .pinned], laidTests := true, laidLooks := .later }
def FnSweepStoreUptoCardSaid : Prop := Claim7.holds Tryz.pinned (.plain (OpenSpec.upto fnSweepStoreSpec)) fnSweepStoreUptoCard

/-- THE SECOND FORM's CARD OF 'laws.FnWalkTo'. -/
def fnWalkToUptoCard : Claim7 := { stood := { row := fnWalkToUptoRow, standIns := [], harness := (true, "a6b2733fb95d78a369b8b86613a04273243384a6485389e7a73c6ace98bc2a1e"), looks := false }, kinds := [], alts := [], laidByText := true, laidKinds := [.data, .data, .data, .data, .pinned], laidTests := true, laidLooks := .later }
def FnWalkToUptoCardSaid : Prop := Claim7.holds Tryz.pinned (.plain (OpenSpec.upto fnWalkToSpec)) fnWalkToUptoCard

/-- THE SECOND FORM's CARD OF 'laws.FnReadAt'. -/
def fnReadAtUptoCard : Claim7 := { stood := { row := fnReadAtUptoRow, standIns := [], harness := (true, "a6b2733fb95d78a369b8b86613a04273243384a6485389e7a73c6ace98bc2a1e"), looks := false }, kinds := [], alts := [], laidByText := true, laidKinds := [.data, .data, .data, .data, .pinned], laidTests := true, laidLooks := .later }
def FnReadAtUptoCardSaid : Prop := Claim7.holds Tryz.pinned (.plain (OpenSpec.upto fnReadAtSpec)) fnReadAtUptoCard

/-- THE SECOND FORM's CARD OF 'laws.FnNamesAt'. -/
def fnNamesAtUptoCard : Claim7 := { stood := { row := fnNamesAtUptoRow, standIns := [], harness := (true, "a6b2733fb95d78a369b8b86613a04273243384a6485389e7a73c6ace98bc2a1e"), looks := false }, kinds := [], alts := [], laidByText := true, laidKinds := [.data, .data, .data, .data, .pinned], laidTests := true, laidLooks := .later }
def FnNamesAtUptoCardSaid : Prop := Claim7.holds Tryz.pinned (.plain (OpenSpec.upto fnNamesAtSpec)) fnNamesAtUptoCard

/-- THE SECOND FORM's CARD OF 'laws.FnWriteOrder'. -/
def fnWriteOrderUptoCard : Claim7 := { stood := { row := fnWriteOrderUptoRow, standIns := [], harness := (true, "a6b2733fb95d78a369b8b86613a04273243384a6485389e7a73c6ace98bc2a1e"), looks := false }, kinds := [], alts := [], laidByText := true, laidKinds := [.data, .data, .data, .data, .pinned], laidTests := true, laidLooks := .later }
def FnWriteOrderUptoCardSaid : Prop := Claim7.holds Tryz.pinned (.plain (OpenSpec.upto fnWriteOrderSpec)) fnWriteOrderUptoCard
end Rows
end Go.Proofs.YtachfmlfmpaddaaGreatDoor
