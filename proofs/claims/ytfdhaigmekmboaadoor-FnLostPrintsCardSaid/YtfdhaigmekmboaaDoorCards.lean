/-
  DERIVED. GIVEN WITH THE SEED: THE CARDS: each row of YtfdhaigmekmboaaDoorRows.lean that lists a variable, with what it lists TIED to the program's text (the seventh form; the later family's looks); each row that meets fmt, with fmt's text TOLD by the authors' own Lean function (tested against real Go, not proved from fmt's source: count such statements apart). THE CARD IS WHAT COUNTS. Prove the row's statement (the work); the ties are given (YtfdhaigmekmboaaDoorTie.lean); close each card by the builder's one call (the guide's Derived/Test/ToyasCard.lean, 'card_holds'). Laid BY PROGRAM, IN A SANDBOX (cutbox-door.mjs). By AI agents, Wed Nov 11 2026. No macro, syntax, notation, axiom, sorry.
-/
import Derived.Test.YtfdhaigmekmboaaDoorRows
import GoSem.ClaimSeven
namespace Go.Proofs.YtfdhaigmekmboaaDoor
namespace Rows

/-- THE TIED CARD OF 'laws.FnNameCounts'. -/
def fnNameCountsCard : Claim7 := { stood := { row := fnNameCountsRow, standIns := [], harness := (true, "88845bd7ae60eddef711655f04781e79fb27f2729aa987ab6ff94fee9d2ea812"), looks := false }, kinds := [], alts := [], laidByText := true, laidKinds := [.data, .data, .data], laidTests := true, laidLooks := .later }
def FnNameCountsCardSaid : Prop := Claim7.holds Tryd.pinned (.plain (OpenSpec.ofChange fnNameCountsSpec)) fnNameCountsCard

/-- THE TIED CARD OF 'laws.FnMissingPrints'. -/
def fnMissingPrintsCard : Claim7 := { stood := { row := fnMissingPrintsRow, standIns := [], harness := (true, "88845bd7ae60eddef711655f04781e79fb27f2729aa987ab6ff94fee9d2ea812"), looks := false }, kinds := [], alts := [], laidByText := true, laidKinds := [.data, .data, .data], laidTests := true, laidLooks := .later }
def FnMissingPrintsCardSaid : Prop := Claim7.holds Tryd.pinned (.plain (OpenSpec.ofChange fnMissingPrintsSpec)) fnMissingPrintsCard

/-- THE TIED CARD OF 'laws.FnTopPrints'. -/
def fnTopPrintsCard : Claim7 := { stood := { row := fnTopPrintsRow, standIns := [], harness := (true, "88845bd7ae60eddef711655f04781e79fb27f2729aa987ab6ff94fee9d2ea812"), looks := false }, kinds := [], alts := [], laidByText := true, laidKinds := [.data, .data, .data], laidTests := true, laidLooks := .later }
def FnTopPrintsCardSaid : Prop := Claim7.holds Tryd.pinned (.plain (OpenSpec.ofChange fnTopPrintsSpec)) fnTopPrintsCard

/-- THE TIED CARD OF 'laws.FnLostPrints'. -/
def fnLostPrintsCard : Claim7 := { stood := { row := fnLostPrintsRow, standIns := [], harness := (true, "88845bd7ae60eddef711655f04781e79fb27f2729aa987ab6ff94fee9d2ea812"), looks := false }, kinds := [], alts := [], laidByText := true, laidKinds := [.data, .data, .data], laidTests := true, laidLooks := .later }
def FnLostPrintsCardSaid : Prop := Claim7.holds Tryd.pinned (.plain (OpenSpec.ofChange fnLostPrintsSpec)) fnLostPrintsCard

/-- THE SECOND FORM's CARD OF 'laws.FnNameCounts'. -/
def fnNameCountsUptoCard : Claim7 := { stood := { row := fnNameCountsUptoRow, standIns := [], harness := (true, "88845bd7ae60eddef711655f04781e79fb27f2729aa987ab6ff94fee9d2ea812"), looks := false }, kinds := [], alts := [], laidByText := true, laidKinds := [.data, .data, .data], laidTests := true, laidLooks := .later }
def FnNameCountsUptoCardSaid : Prop := Claim7.holds Tryd.pinned (.plain (OpenSpec.upto fnNameCountsSpec)) fnNameCountsUptoCard

/-- THE SECOND FORM's CARD OF 'laws.FnMissingPrints'. -/
def fnMissingPrintsUptoCard : Claim7 := { stood := { row := fnMissingPrintsUptoRow, standIns := [], harness := (true, "88845bd7ae60eddef711655f04781e79fb27f2729aa987ab6ff94fee9d2ea812"), looks := false }, kinds := [], alts := [], laidByText := true, laidKinds := [.data, .data, .data], laidTests := true, laidLooks := .later }
def FnMissingPrintsUptoCardSaid : Prop := Claim7.holds Tryd.pinned (.plain (OpenSpec.upto fnMissingPrintsSpec)) fnMissingPrintsUptoCard

/-- THE SECOND FORM's CARD OF 'laws.FnTopPrints'. -/
def fnTopPrintsUptoCard : Claim7 := { stood := { row := fnTopPrintsUptoRow, standIns := [], harness := (true, "88845bd7ae60eddef711655f04781e79fb27f2729aa987ab6ff94fee9d2ea812"), looks := false }, kinds := [], alts := [], laidByText := true, laidKinds := [.data, .data, .data], laidTests := true, laidLooks := .later }
def FnTopPrintsUptoCardSaid : Prop := Claim7.holds Tryd.pinned (.plain (OpenSpec.upto fnTopPrintsSpec)) fnTopPrintsUptoCard

/-- THE SECOND FORM's CARD OF 'laws.FnLostPrints'. -/
def fnLostPrintsUptoCard : Claim7 := { stood := { row := fnLostPrintsUptoRow, standIns := [], harness := (true, "88845bd7ae60eddef711655f04781e79fb27f2729aa987ab6ff94fee9d2ea812"), looks := false }, kinds := [], alts := [], laidByText := true, laidKinds := [.data, .data, .data], laidTests := true, laidLooks := .later }
def FnLostPrintsUptoCardSaid : Prop := Claim7.holds Tryd.pinned (.plain (OpenSpec.upto fnLostPrintsSpec)) fnLostPrintsUptoCard
end Rows
end Go.Proofs.YtfdhaigmekmboaaDoor
