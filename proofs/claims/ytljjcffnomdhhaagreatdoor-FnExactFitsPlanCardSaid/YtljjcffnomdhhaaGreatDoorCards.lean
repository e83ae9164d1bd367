/-
  DERIVED. GIVEN WITH THE SEED: THE CARDS: each row of YtljjcffnomdhhaaGreatDoorRows.lean that lists a variable, with what it lists TIED to the program's text (the seventh form; the later family's looks); each row that meets fmt, with fmt's text TOLD by the authors' own Lean function (tested against real Go, not proved from fmt's source: count such statements apart). THE CARD IS WHAT COUNTS. Prove the row's statement (the work); the ties are given (YtljjcffnomdhhaaGreatDoorTie.lean); close each card by the builder's one call (the guide's Derived/Test/ToyasCard.lean, 'card_holds'). Laid BY PROGRAM, IN A SANDBOX (cutbox-door.mjs). By AI agents, Wed Nov 11 2026. No macro, syntax, notation, axiom, sorry.
-/
import Derived.Test.YtljjcffnomdhhaaGreatDoorRows
import GoSem.ClaimSeven
namespace Go.Proofs.YtljjcffnomdhhaaGreatDoor
namespace Rows

/-- THE TIED CARD OF 'laws.FnExactPeakOf'. -/
def fnExactPeakOfCard : Claim7 := { stood := { row := fnExactPeakOfRow, standIns := [], harness := (true, "dd2a74bce990caef9edc67e1a36da6da68e99ede555de088f4600a36f86ad189"), looks := false }, kinds := [], alts := [], laidByText := true, laidKinds := [.data, .data, .data], laidTests := true, laidLooks := .later }
def FnExactPeakOfCardSaid : Prop := Claim7.holds Tryz.pinned (.plain (OpenSpec.ofChange fnExactPeakOfSpec)) fnExactPeakOfCard

/-- THE TIED CARD OF 'laws.FnExactFitsPlan'. -/
def fnExactFitsPlanCard : Claim7 := { stood := { row := fnExactFitsPlanRow, standIns := [], harness := (true, "dd2a74bce990caef9edc67e1a36da6da68e99ede555de088f4600a36f86ad189"), looks := false }, kinds := [], alts := [], laidByText := true, laidKinds := [.data, .data, .data], laidTests := true, laidLooks := .later }
def FnExactFitsPlanCardSaid : Prop := Claim7.holds Tryz.pinned (.plain (OpenSpec.ofChange fnExactFitsPlanSpec)) fnExactFitsPlanCard

/-- THE TIED CARD OF 'laws.FnExactFormatSystem'. -/
def fnExactFormatSystemCard : Claim7 := { stood := { row := fnExactFormatSystemRow, standIns := [], harness := (true, "dd2a74bce990caef9edc67e1a36da6da68e99ede555de088f4600a36f86ad189"), looks := false }, kinds := [], alts := [], laidByText := true, laidKinds := [.data, .data, .data, .data, .pinned], laidTests := true, laidLooks := .later }
def FnExactFormatSystemCardSaid : Prop := Claim7.holds Tryz.pinned (.plain (OpenSpec.ofChange fnExactFormatSystemSpec)) fnExactFormatSystemCard

/-- THE SECOND FORM's CARD OF 'laws.FnExactPeakOf'. -/
def fnExactPeakOfUptoCard : Claim7 := { stood := { row := fnExactPeakOfUptoRow, standIns := [], harness := (true, "dd2a74bce990caef9edc67e1a36da6da68e99ede555de088f4600a36f86ad189"), looks := false }, kinds := [], alts := [], laidByText := true, laidKinds := [.data, .data, .data], laidTests := true, laidLooks := .later }
def FnExactPeakOfUptoCardSaid : Prop := Claim7.holds Tryz.pinned (.plain (OpenSpec.upto fnExactPeakOfSpec)) fnExactPeakOfUptoCard

/-- THE SECOND FORM's CARD OF 'laws.FnExactFitsPlan'. -/
def fnExactFitsPlanUptoCard : Claim7 := { stood := { row := fnExactFitsPlanUptoRow, standIns := [], harness := (true, "dd2a74bce990caef9edc67e1a36da6da68e99ede555de088f4600a36f86ad189"), looks := false }, kinds := [], alts := [], laidByText := true, laidKinds := [.data, .data, .data], laidTests := true, laidLooks := .later }
def FnExactFitsPlanUptoCardSaid : Prop := Claim7.holds Tryz.pinned (.plain (OpenSpec.upto fnExactFitsPlanSpec)) fnExactFitsPlanUptoCard

/-- THE SECOND FORM's CARD OF 'laws.FnExactFormatSystem'. -/
def fnExactFormatSystemUptoCard : Claim7 := { stood := { row := fnExactFormatSystemUptoRow, standIns := [], harness := (true, "dd2a74bce990caef9edc67e1a36da6da68e99ede555de088f4600a36f86ad189"), looks := false }, kinds := [], alts := [], laidByText := true, laidKinds := [.data, .data, .data, .data, .pinned], laidTests := true, laidLooks := .later }
def FnExactFormatSystemUptoCardSaid : Prop := Claim7.holds Tryz.pinned (.plain (OpenSpec.upto fnExactFormatSystemSpec)) fnExactFormatSystemUptoCard
end Rows
end Go.Proofs.YtljjcffnomdhhaaGreatDoor
