/-
  DERIVED. GIVEN WITH THE SEED: THE CARDS: each row of YtidlnilcdmhkiaaGreatDoorRows.lean that lists a variable, with what it lists TIED to the program's text (the seventh form; the later family's looks); each row that meets fmt, with fmt's text TOLD by the authors' own Lean function (tested against real Go, not proved from fmt's source: count such statements apart). THE CARD IS WHAT COUNTS. Prove the row's statement (the work); the ties are given (YtidlnilcdmhkiaaGreatDoorTie.lean); close each card by the builder's one call (the guide's Derived/Test/ToyasCard.lean, 'card_holds'). Laid BY PROGRAM, IN A SANDBOX (cutbox-door.mjs). By AI agents, Wed Nov 11 2026. No macro, syntax, notation, axiom, sorry.
-/
import Derived.Test.YtidlnilcdmhkiaaGreatDoorRows
import GoSem.ClaimSeven
namespace Go.Proofs.YtidlnilcdmhkiaaGreatDoor
namespace Rows

/-- THE TIED CARD OF 'laws.FnExactGainOf'. -/
def fnExactGainOfCard : Claim7 := { stood := { row := fnExactGainOfRow, standIns := [], harness := (true, "afb311ebad83361a66d3bb365df765390d9958b4c6620e2857669359976a91dd"), looks := false }, kinds := [], alts := [], laidByText := true, laidKinds := [.data, .data, .data, .data, .pinned], laidTests := true, laidLooks := .later }
def FnExactGainOfCardSaid : Prop := Claim7.holds Tryz.pinned (.plain (OpenSpec.ofChange fnExactGainOfSpec)) fnExactGainOfCard

/-- THE TIED CARD OF 'laws.FnExactGenChanges'. -/
def fnExactGenChangesCard : Claim7 := { stood := { row := fnExactGenChangesRow, standIns := [], harness := (true, "afb311ebad83361a66d3bb365df765390d9958b4c6620e2857669359976a91dd"), looks := false }, kinds := [], alts := [], laidByText := true, laidKinds := [.data, .data, .data, .data, .pinned], laidTests := true, laidLooks := .later }
def FnExactGenChangesCardSaid : Prop := Claim7.holds Tryz.pinned (.plain (OpenSpec.ofChange fnExactGenChangesSpec)) fnExactGenChangesCard

/-- THE SECOND FORM's CARD OF 'laws.FnExactGainOf'. -/
def fnExactGainOfUptoCard : Claim7 := { stood := { row := fnExactGainOfUptoRow, standIns := [], harness := (true, "afb311ebad83361a66d3bb365df765390d9958b4c6620e2857669359976a91dd"), looks := false }, kinds := [], alts := [], laidByText := true, laidKinds := [.data, .data, .data, .data, .pinned], laidTests := true, laidLooks := .later }
def FnExactGainOfUptoCardSaid : Prop := Claim7.holds Tryz.pinned (.plain (OpenSpec.upto fnExactGainOfSpec)) fnExactGainOfUptoCard

/-- THE SECOND FORM's CARD OF 'laws.FnExactGenChanges'. -/
def fnExactGenChangesUptoCard : Claim7 := { stood := { row := fnExactGenChangesUptoRow, standIns := [], harness := (true, "afb311ebad83361a66d3bb365df765390d9958b4c6620e2857669359976a91dd"), looks := false }, kinds := [], alts := [], laidByText := true, laidKinds := [.data, .data, .data, .data, .pinned], laidTests := true, laidLooks := .later }
def FnExactGenChangesUptoCardSaid : Prop := Claim7.holds Tryz.pinned (.plain (OpenSpec.upto fnExactGenChangesSpec)) fnExactGenChangesUptoCard
end Rows
end Go.Proofs.YtidlnilcdmhkiaaGreatDoor
