/-
  DERIVED. GIVEN WITH THE SEED: THE CARDS: each row of YtfmcncflooechaaGreatDoorRows.lean that lists a variable, with what it lists TIED to the program's text (the seventh form; the later family's looks); each row that meets fmt, with fmt's text TOLD by the authors' own Lean function (tested against real Go, not proved from fmt's source: count such statements apart). THE CARD IS WHAT COUNTS. Prove the row's statement (the work); the ties are given (YtfmcncflooechaaGreatDoorTie.lean); close each card by the builder's one call (the guide's Derived/Test/ToyasCard.lean, 'card_holds'). Laid BY PROGRAM, IN A SANDBOX (cutbox-door.mjs). By AI agents, Wed Nov 11 2026. No macro, syntax, notation, axiom, sorry.
-/
import Derived.Test.YtfmcncflooechaaGreatDoorRows
import GoSem.ClaimSeven
namespace Go.Proofs.YtfmcncflooechaaGreatDoor
namespace Rows

/-- THE TIED CARD OF 'laws.FnStoryTexts'. -/
def fnStoryTextsCard : Claim7 := { stood := { row := fnStoryTextsRow, standIns := [], harness := (true, "6e0b38fefa8d4ea8dc2f94e8c61ad58e00727b9a1dd9ca2cbfb6c7a469a6be8e"), looks := false }, kinds := [], alts := [], laidByText := true, laidKinds := [.data, .data, .data, .data, .pinned], laidTests := true, laidLooks := .later }
def FnStoryTextsCardSaid : Prop := Claim7.holds Tryz.pinned (.plain (OpenSpec.ofChange fnStoryTextsSpec)) fnStoryTextsCard

/-- THE SECOND FORM's CARD OF 'laws.FnStoryTexts'. -/
def fnStoryTextsUptoCard : Claim7 := { stood := { row := fnStoryTextsUptoRow, standIns := [], harness := (true, "6e0b38fefa8d4ea8dc2f94e8c61ad58e00727b9a1dd9ca2cbfb6c7a469a6be8e"), looks := false }, kinds := [], alts := [], laidByText := true, laidKinds := [.data, .data, .data, .data, .pinned], laidTests := true, laidLooks := .later }
def FnStoryTextsUptoCardSaid : Prop := Claim7.holds Tryz.pinned (.plain (OpenSpec.upto fnStoryTextsSpec)) fnStoryTextsUptoCard
end Rows
end Go.Proofs.YtfmcncflooechaaGreatDoor
