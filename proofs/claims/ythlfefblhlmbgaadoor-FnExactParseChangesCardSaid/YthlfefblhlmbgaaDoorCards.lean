/-
  DERIVED. GIVEN WITH THE SEED: THE CARDS: each row of YthlfefblhlmbgaaDoorRows.lean that lists a variable, with what it lists TIED to the program's text (the seventh form; the later family's looks); each row that meets fmt, with fmt's text TOLD by the authors' own Lean function (tested against real Go, not proved from fmt's source: count such statements apart). THE CARD IS WHAT COUNTS. Prove the row's statement (the work); the ties are given (YthlfefblhlmbgaaDoorTie.lean); close each card by the builder's one call (the guide's Derived/Test/ToyasCard.lean, 'card_holds'). Laid BY PROGRAM, IN A SANDBOX (cutbox-door.mjs). By AI agents, Wed Nov 11 2026. No macro, syntax, notation, axiom, sorry.
-/
import Derived.Test.YthlfefblhlmbgaaDoorRows
import GoSem.ClaimSeven
namespace Go.Proofs.YthlfefblhlmbgaaDoor
namespace Rows

/-- THE TIED CARD OF 'laws.FnExactParseChanges'. -/
def fnExactParseChangesCard : Claim7 := { stood := { row := fnExactParseChangesRow, standIns := [], harness := (true, "e642a77d50915d9aef0e619b2016fd693cba842a16f1814c87ed0e3e612def9e"), looks := false }, kinds := [], alts := [], laidByText := true, laidKinds := [.data, .pinned], laidTests := true, laidLooks := .later }
def FnExactParseChangesCardSaid : Prop := Claim7.holds Tryd.pinned (.plain (OpenSpec.ofChange fnExactParseChangesSpec)) fnExactParseChangesCard

/-- THE SECOND FORM's CARD OF 'laws.FnExactParseChanges'. -/
def fnExactParseChangesUptoCard : Claim7 := { stood := { row := fnExactParseChangesUptoRow, standIns := [], harness := (true, "e642a77d50915d9aef0e619b2016fd693cba842a16f1814c87ed0e3e612def9e"), looks := false }, kinds := [], alts := [], laidByText := true, laidKinds := [.data, .pinned], laidTests := true, laidLooks := .later }
def FnExactParseChangesUptoCardSaid : Prop := Claim7.holds Tryd.pinned (.plain (OpenSpec.upto fnExactParseChangesSpec)) fnExactParseChangesUptoCard
end Rows
end Go.Proofs.YthlfefblhlmbgaaDoor
