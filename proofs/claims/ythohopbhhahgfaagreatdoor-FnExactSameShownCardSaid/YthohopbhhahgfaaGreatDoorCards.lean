/-
  DERIVED. GIVEN WITH THE SEED: THE CARDS: each row of YthohopbhhahgfaaGreatDoorRows.lean that lists a variable, with what it lists TIED to the program's text (the seventh form; the later family's looks); each row that meets fmt, with fmt's text TOLD by the authors' own Lean function (tested against real Go, not proved from fmt's source: count such statements apart). THE CARD IS WHAT COUNTS. Prove the row's statement (the work); the ties are given (YthohopbhhahgfaaGreatDoorTie.lean); close each card by the builder's one call (the guide's Derived/Test/ToyasCard.lean, 'card_holds'). Laid BY PROGRAM, IN A SANDBOX (cutbox-door.mjs). By AI agents, Wed Nov 11 2026. No macro, syntax, notation, axiom, sorry.
-/
import Derived.Test.YthohopbhhahgfaaGreatDoorRows
import GoSem.ClaimSeven
namespace Go.Proofs.YthohopbhhahgfaaGreatDoor
namespace Rows

/-- THE TIED CARD OF 'laws.FnExactDropsFor'. -/
def fnExactDropsForCard : Claim7 := { stood := { row := fnExactDropsForRow, standIns := [], harness := (true, "8b680808d90aba05fe99509f3cec0f74a09e36578938b0f01fc68fb93be35dde"), looks := false }, kinds := [], alts := [], laidByText := true, laidKinds := [.data, .data, .data, .data, .pinned], laidTests := true, laidLooks := .later }
def FnExactDropsForCardSaid : Prop := Claim7.holds Tryz.pinned (.plain (OpenSpec.ofChange fnExactDropsForSpec)) fnExactDropsForCard

/-- THE TIED CARD OF 'laws.FnExactRoomFor'. -/
def fnExactRoomForCard : Claim7 := { stood := { row := fnExactRoomForRow, standIns := [], harness := (true, "8b680808d90aba05fe99509f3cec0f74a09e36578938b0f01fc68fb93be35dde"), looks := false }, kinds := [], alts := [], laidByText := true, laidKinds := [.data, .data, .data, .data, .pinned], laidTests := true, laidLooks := .later }
def FnExactRoomForCardSaid : Prop := Claim7.holds Tryz.pinned (.plain (OpenSpec.ofChange fnExactRoomForSpec)) fnExactRoomForCard

/-- THE TIED CARD OF 'laws.FnExactNextStep'. -/
def fnExactNextStepCard : Claim7 := { stood := { row := fnExactNextStepRow, standIns := [], harness := (true, "8b680808d90aba05fe99509f3cec0f74a09e36578938b0f01fc68fb93be35dde"), looks := false }, kinds := [], alts := [], laidByText := true, laidKinds := [.data, .data, .data, .data, .pinned], laidTests := true, laidLooks := .later }
def FnExactNextStepCardSaid : Prop := Claim7.holds Tryz.pinned (.plain (OpenSpec.ofChange fnExactNextStepSpec)) fnExactNextStepCard

/-- THE TIED CARD OF 'laws.FnExactSameShown'. -/
def fnExactSameShownCard : Claim7 := { stood := { row := fnExactSameShownRow, standIns := [], harness := (true, "8b680808d90aba05fe99509f3cec0f74a09e36578938b0f01fc68fb93be35dde"), looks := false }, kinds := [], alts := [], laidByText := true, laidKinds := [.data, .data, .data, .data, .pinned], laidTests := true, laidLooks := .later }
def FnExactSameShownCardSaid : Prop := Claim7.holds Tryz.pinned (.plain (OpenSpec.ofChange fnExactSameShownSpec)) fnExactSameShownCard

/-- THE SECOND FORM's CARD OF 'laws.FnExactDropsFor'. -/
def fnExactDropsForUptoCard : Claim7 := { stood := { row := fnExactDropsForUptoRow, standIns := [], harness := (true, "8b680808d90aba05fe99509f3cec0f74a09e36578938b0f01fc68fb93be35dde"), looks := false }, kinds := [], alts := [], laidByText := true, laidKinds := [.data, .data, .data, .data, .pinned], laidTests := true, laidLooks := .later }
def FnExactDropsForUptoCardSaid : Prop := Claim7.holds Tryz.pinned (.plain (OpenSpec.upto fnExactDropsForSpec)) fnExactDropsForUptoCard

/-- THE SECOND FORM's CARD OF 'laws.FnExactRoomFor'. -/
def fnExactRoomForUptoCard : Claim7 := { stood := { row := fnExactRoomForUptoRow, standIns := [], harness := (true, "8b680808d90aba05fe99509f3cec0f74a09e36578938b0f01fc68fb93be35dde"), looks := false }, kinds := [], alts := [], laidByText := true, laidKinds := [.data, .data, .data, .data, .pinned], laidTests := true, laidLooks := .later }
def FnExactRoomForUptoCardSaid : Prop := Claim7.holds Tryz.pinned (.plain (OpenSpec.upto fnExactRoomForSpec)) fnExactRoomForUptoCard

/-- THE SECOND FORM's CARD OF 'laws.FnExactNextStep'. -/
def fnExactNextStepUptoCard : Claim7 := { stood := { row := fnExactNextStepUptoRow, standIns := [], harness := (true, "8b680808d90aba05fe99509f3cec0f74a09e36578938b0f01fc68fb93be35dde"), looks := false }, kinds := [], alts := [], laidByText := true, laidKinds := [.data, .data, .data, .data, .pinned], laidTests := true, laidLooks := .later }
def FnExactNextStepUptoCardSaid : Prop := Claim7.holds Tryz.pinned (.plain (OpenSpec.upto fnExactNextStepSpec)) fnExactNextStepUptoCard

/-- THE SECOND FORM's CARD OF 'laws.FnExactSameShown'. -/
def fnExactSameShownUptoCard : Claim7 := { stood := { row := fnExactSameShownUptoRow, standIns := [], harness := (true, "8b680808d90aba05fe99509f3cec0f74a09e36578938b0f01fc68fb93be35dde"), looks := false }, kinds := [], alts := [], laidByText := true, laidKinds := [.data, .data, .data, .data, .pinned], laidTests := true, laidLooks := .later }
def FnExactSameShownUptoCardSaid : Prop := Claim7.holds Tryz.pinned (.plain (OpenSpec.upto fnExactSameShownSpec)) fnExactSameShownUptoCard
end Rows
end Go.Proofs.YthohopbhhahgfaaGreatDoor
