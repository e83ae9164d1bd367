/-
  DERIVED. GIVEN WITH THE SEED: THE CARDS: each row of YtfmcncflooechaaDoorRows.lean that lists a variable, with what it lists TIED to the program's text (the seventh form; the later family's looks); each row that meets fmt, with fmt's text TOLD by the authors' own Lean function (tested against real Go, not proved from fmt's source: count such statements apart). THE CARD IS WHAT COUNTS. Prove the row's statement (the work); the ties are given (YtfmcncflooechaaDoorTie.lean); close each card by the builder's one call (the guide's Derived/Test/ToyasCard.lean, 'card_holds'). Laid BY PROGRAM, IN A SANDBOX (cutbox-door.mjs). By AI agents, Wed Nov 11 2026. No macro, syntax, notation, axiom, sorry.
-/
import Derived.Test.YtfmcncflooechaaDoorRows
import GoSem.ClaimSeven
namespace Go.Proofs.YtfmcncflooechaaDoor
namespace Rows

/-- THE TIED CARD OF 'laws.FnExactFormatChanges'. -/
def fnExactFormatChangesCard : Claim7 := { stood := { row := fnExactFormatChangesRow, standIns := [], harness := (true, "79edd969373978329fd3597d7d170a3ac1a12f61b708a8d5b84b9094c1105128"), looks := false }, kinds := [], alts := [], laidByText := true, laidKinds := [.data, .data, .data], laidTests := true, laidLooks := .later }
def FnExactFormatChangesCardSaid : Prop := Claim7.holds Tryd.pinned (.plain (OpenSpec.ofChange fnExactFormatChangesSpec)) fnExactFormatChangesCard

/-- THE TIED CARD OF 'laws.FnExactParseChanges'. -/
def fnExactParseChangesCard : Claim7 := { stood := { row := fnExactParseChangesRow, standIns := [], harness := (true, "79edd969373978329fd3597d7d170a3ac1a12f61b708a8d5b84b9094c1105128"), looks := false }, kinds := [], alts := [], laidByText := true, laidKinds := [.data, .pinned], laidTests := true, laidLooks := .later }
def FnExactParseChangesCardSaid : Prop := Claim7.holds Tryd.pinned (.plain (OpenSpec.ofChange fnExactParseChangesSpec)) fnExactParseChangesCard

/-- THE SECOND FORM's CARD OF 'laws.FnExactFormatChanges'. -/
def fnExactFormatChangesUptoCard : Claim7 := { stood := { row := fnExactFormatChangesUptoRow, standIns := [], harness := (true, "79edd969373978329fd3597d7d170a3ac1a12f61b708a8d5b84b9094c1105128"), looks := false }, kinds := [], alts := [], laidByText := true, laidKinds := [.data, .data, .data], laidTests := true, laidLooks := .later }
def FnExactFormatChangesUptoCardSaid : Prop := Claim7.holds Tryd.pinned (.plain (OpenSpec.upto fnExactFormatChangesSpec)) fnExactFormatChangesUptoCard

/-- THE SECOND FORM's CARD OF 'laws.FnExactParseChanges'. -/
def fnExactParseChangesUptoCard : Claim7 := { stood := { row := fnExactParseChangesUptoRow, standIns := [], harness := (true, "79edd969373978329fd3597d7d170a3ac1a12f61b708a8d5b84b9094c1105128"), looks := false }, kinds := [], alts := [], laidByText := true, laidKinds := [.data, .pinned], laidTests := true, laidLooks := .later }
def FnExactParseChangesUptoCardSaid : Prop := Claim7.holds Tryd.pinned (.plain (OpenSpec.upto fnExactParseChangesSpec)) fnExactParseChangesUptoCard
end Rows
end Go.Proofs.YtfmcncflooechaaDoor
