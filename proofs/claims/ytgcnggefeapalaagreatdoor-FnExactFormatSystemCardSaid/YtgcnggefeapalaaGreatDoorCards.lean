/-
  DERIVED. GIVEN WITH THE SEED: THE CARDS: each row of YtgcnggefeapalaaGreatDoorRows.lean that lists a variable, with what it lists TIED to the program's text (the seventh form; the later family's looks); each row that meets fmt, with fmt's text TOLD by the authors' own Lean function (tested against real Go, not proved from fmt's source: count such statements apart). THE CARD IS WHAT COUNTS. Prove the row's statement (the work); the ties are given (YtgcnggefeapalaaGreatDoorTie.lean); close each card by the builder's one call (the guide's Derived/Test/ToyasCard.lean, 'card_holds'). Laid BY PROGRAM, IN A SANDBOX (cutbox-door.mjs). By AI agents, Wed Nov 11 2026. No macro, syntax, notation, axiom, sorry.
-/
import Derived.Test.YtgcnggefeapalaaGreatDoorRows
import GoSem.ClaimSeven
namespace Go.Proofs.YtgcnggefeapalaaGreatDoor
namespace Rows

/-- THE TIED CARD OF 'laws.FnExactFormatSystem'. -/
def fnExactFormatSystemCard : Claim7 := { stood := { row := fnExactFormatSystemRow, standIns := [], harness := (true, "269f888b246a9fba16d133c2e53bb52fa485fa8ae4297ef59d3ef99448164c0c"), looks := false }, kinds := [], alts := [], laidByText := true, laidKinds := [.data, .data, .data, .data, .pinned], laidTests := true, laidLooks := .later }
def FnExactFormatSystemCardSaid : Prop := Claim7.holds Tryz.pinned (.plain (OpenSpec.ofChange fnExactFormatSystemSpec)) fnExactFormatSystemCard

/-- THE TIED CARD OF 'laws.FnExactPeakOf'. -/
def fnExactPeakOfCard : Claim7 := { stood := { row := fnExactPeakOfRow, standIns := [], harness := (true, "269f888b246a9fba16d133c2e53bb52fa485fa8ae4297ef59d3ef99448164c0c"), looks := false }, kinds := [], alts := [], laidByText := true, laidKinds := [.data, .data, .data], laidTests := true, laidLooks := .later }
def FnExactPeakOfCardSaid : Prop := Claim7.holds Tryz.pinned (.plain (OpenSpec.ofChange fnExactPeakOfSpec)) fnExactPeakOfCard

/-- THE TIED CARD OF 'laws.FnExactFitsPlan'. -/
def fnExactFitsPlanCard : Claim7 := { stood := { row := fnExactFitsPlanRow, standIns := [], harness := (true, "269f888b246a9fba16d133c2e53bb52fa485fa8ae4297ef59d3ef99448164c0c"), looks := false }, kinds := [], alts := [], laidByText := true, laidKinds := [.data, .data, .data], laidTests := true, laidLooks := .later }
def FnExactFitsPlanCardSaid : Prop := Claim7.holds Tryz.pinned (.plain (OpenSpec.ofChange fnExactFitsPlanSpec)) fnExactFitsPlanCard

/-- THE SECOND FORM's CARD OF 'laws.FnExactFormatSystem'. -/
def fnExactFormatSystemUptoCard : Claim7 := { stood := { row := fnExactFormatSystemUptoRow, standIns := [], harness := (true, "269f888b246a9fba16d133c2e53bb52fa485fa8ae4297ef59d3ef99448164c0c"), looks := false }, kinds := [], alts := [], laidByText := true, laidKinds := [.data, .data, .data, .data, .pinned], laidTests := true, laidLooks := .later }
def FnExactFormatSystemUptoCardSaid : Prop := Claim7.holds Tryz.pinned (.plain (OpenSpec.upto fnExactFormatSystemSpec)) fnExactFormatSystemUptoCard

/-- THE SECOND FORM's CARD OF 'laws.FnExactPeakOf'. -/
def fnExactPeakOfUptoCard : Claim7 := { stood := { row := fnExactPeakOfUptoRow, standIns := [], harness := (true, "269f888b246a9fba16d133c2e53bb52fa485fa8ae4297ef59d3ef99448164c0c"), looks := false }, kinds := [], alts := [], laidByText := true, laidKinds := [.data, .data, .data], laidTests := true, laidLooks := .later }
def FnExactPeakOfUptoCardSaid : Prop := Claim7.holds Tryz.pinned (.plain (OpenSpec.upto fnExactPeakOfSpec)) fnExactPeakOfUptoCard

/-- THE SECOND FORM's CARD OF 'laws.FnExactFitsPlan'. -/
def fnExactFitsPlanUptoCard : Claim7 := { stood := { row := fnExactFitsPlanUptoRow, standIns := [], harness := (true, "269f888b246a9fba16d133c2e53bb52fa485fa8ae4297ef59d3ef99448164c0c"), looks := false }, kinds := [], alts := [], laidByText := true, laidKinds := [.data, .data, .data], laidTests := true, laidLooks := .later }
def FnExactFitsPlanUptoCardSaid : Prop := Claim7.holds Tryz.pinned (.plain (OpenSpec.upto fnExactFitsPlanSpec)) fnExactFitsPlanUptoCard
end Rows
end Go.Proofs.YtgcnggefeapalaaGreatDoor
