/-
  DERIVED. GIVEN WITH THE SEED: THE CARDS: each row of YtkfkcbceoekgjaaDoorRows.lean that lists a variable, with what it lists TIED to the program's text (the seventh form; the later family's looks); each row that meets fmt, with fmt's text TOLD by the authors' own Lean function (tested against real Go, not proved from fmt's source: count such statements apart). THE CARD IS WHAT COUNTS. Prove the row's statement (the work); the ties are given (YtkfkcbceoekgjaaDoorTie.lean); close each card by the builder's one call (the guide's Derived/Test/ToyasCard.lean, 'card_holds'). Laid BY PROGRAM, IN A SANDBOX (cutbox-door.mjs). By AI agents, Wed Nov 11 2026. No macro, syntax, notation, axiom, sorry.
-/
import Derived.Test.YtkfkcbceoekgjaaDoorRows
import GoSem.ClaimSeven
namespace Go.Proofs.YtkfkcbceoekgjaaDoor
namespace Rows

/-- THE TIED CARD OF 'laws.FnExactNameCounts'. -/
def fnExactNameCountsCard : Claim7 := { stood := { row := fnExactNameCountsRow, standIns := [], harness := (true, "9963dd7753da9a53e22f9941fa9c1fb9f11ba2ecef758ddf9287fe2a6cb894e0"), looks := false }, kinds := [], alts := [], laidByText := true, laidKinds := [.data, .data, .data], laidTests := true, laidLooks := .later }
def FnExactNameCountsCardSaid : Prop := Claim7.holds Tryd.pinned (.plain (OpenSpec.ofChange fnExactNameCountsSpec)) fnExactNameCountsCard

/-- THE TIED CARD OF 'laws.FnExactTopPrints'. -/
def fnExactTopPrintsCard : Claim7 := { stood := { row := fnExactTopPrintsRow, standIns := [], harness := (true, "9963dd7753da9a53e22f9941fa9c1fb9f11ba2ecef758ddf9287fe2a6cb894e0"), looks := false }, kinds := [], alts := [], laidByText := true, laidKinds := [.data, .data, .data], laidTests := true, laidLooks := .later }
def FnExactTopPrintsCardSaid : Prop := Claim7.holds Tryd.pinned (.plain (OpenSpec.ofChange fnExactTopPrintsSpec)) fnExactTopPrintsCard

/-- THE TIED CARD OF 'laws.FnExactMissingPrints'. -/
def fnExactMissingPrintsCard : Claim7 := { stood := { row := fnExactMissingPrintsRow, standIns := [], harness := (true, "9963dd7753da9a53e22f9941fa9c1fb9f11ba2ecef758ddf9287fe2a6cb894e0"), looks := false }, kinds := [], alts := [], laidByText := true, laidKinds := [.data, .data, .data], laidTests := true, laidLooks := .later }
def FnExactMissingPrintsCardSaid : Prop := Claim7.holds Tryd.pinned (.plain (OpenSpec.ofChange fnExactMissingPrintsSpec)) fnExactMissingPrintsCard

/-- THE TIED CARD OF 'laws.FnExactSyncRoot'. -/
def fnExactSyncRootCard : Claim7 := { stood := { row := fnExactSyncRootRow, standIns := [], harness := (true, "9963dd7753da9a53e22f9941fa9c1fb9f11ba2ecef758ddf9287fe2a6cb894e0"), looks := false }, kinds := [], alts := [], laidByText := true, laidKinds := [.data, .data, .data], laidTests := true, laidLooks := .later }
def FnExactSyncRootCardSaid : Prop := Claim7.holds Tryd.pinned (.plain (OpenSpec.ofChange fnExactSyncRootSpec)) fnExactSyncRootCard

/-- THE SECOND FORM's CARD OF 'laws.FnExactNameCounts'. -/
def fnExactNameCountsUptoCard : Claim7 := { stood := { row := fnExactNameCountsUptoRow, standIns := [], harness := (true, "9963dd7753da9a53e22f9941fa9c1fb9f11ba2ecef758ddf9287fe2a6cb894e0"), looks := false }, kinds := [], alts := [], laidByText := true, laidKinds := [.data, .data, .data], laidTests := true, laidLooks := .later }
def FnExactNameCountsUptoCardSaid : Prop := Claim7.holds Tryd.pinned (.plain (OpenSpec.upto fnExactNameCountsSpec)) fnExactNameCountsUptoCard

/-- THE SECOND FORM's CARD OF 'laws.FnExactTopPrints'. -/
def fnExactTopPrintsUptoCard : Claim7 := { stood := { row := fnExactTopPrintsUptoRow, standIns := [], harness := (true, "9963dd7753da9a53e22f9941fa9c1fb9f11ba2ecef758ddf9287fe2a6cb894e0"), looks := false }, kinds := [], alts := [], laidByText := true, laidKinds := [.data, .data, .data], laidTests := true, laidLooks := .later }
def FnExactTopPrintsUptoCardSaid : Prop := Claim7.holds Tryd.pinned (.plain (OpenSpec.upto fnExactTopPrintsSpec)) fnExactTopPrintsUptoCard

/-- THE SECOND FORM's CARD OF 'laws.FnExactMissingPrints'. -/
def fnExactMissingPrintsUptoCard : Claim7 := { stood := { row := fnExactMissingPrintsUptoRow, standIns := [], harness := (true, "9963dd7753da9a53e22f9941fa9c1fb9f11ba2ecef758ddf9287fe2a6cb894e0"), looks := false }, kinds := [], alts := [], laidByText := true, laidKinds := [.data, .data, .data], laidTests := true, laidLooks := .later }
def FnExactMissingPrintsUptoCardSaid : Prop := Claim7.holds Tryd.pinned (.plain (OpenSpec.upto fnExactMissingPrintsSpec)) fnExactMissingPrintsUptoCard

/-- THE SECOND FORM's CARD OF 'laws.FnExactSyncRoot'. -/
def fnExactSyncRootUptoCard : Claim7 := { stood := { row := fnExactSyncRootUptoRow, standIns := [], harness := (true, "9963dd7753da9a53e22f9941fa9c1fb9f11ba2ecef758ddf9287fe2a6cb894e0"), looks := false }, kinds := [], alts := [], laidByText := true, laidKinds := [.data, .data, .data], laidTests := true, laidLooks := .later }
def FnExactSyncRootUptoCardSaid : Prop := Claim7.holds Tryd.pinned (.plain (OpenSpec.upto fnExactSyncRootSpec)) fnExactSyncRootUptoCard
end Rows
end Go.Proofs.YtkfkcbceoekgjaaDoor
