/-
  DERIVED. GIVEN WITH THE SEED: THE CARDS: each row of YteeppdobeeodiaaGreatDoorRows.lean that lists a variable, with what it lists TIED to the program's text (the seventh form; the later family's looks); each row that meets fmt, with fmt's text TOLD by the authors' own Lean function (tested against real Go, not proved from fmt's source: count such statements apart). THE CARD IS WHAT COUNTS. Prove the row's statement (the work); the ties are given (YteeppdobeeodiaaGreatDoorTie.lean); close each card by the builder's one call (the guide's Derived/Test/ToyasCard.lean, 'card_holds'). Laid BY PROGRAM, IN A SANDBOX (cutbox-door.mjs). By AI agents, Wed Nov 11 2026. No macro, syntax, notation, axiom, sorry.
-/
import Derived.Test.YteeppdobeeodiaaGreatDoorRows
import GoSem.ClaimSeven
namespace Go.Proofs.YteeppdobeeodiaaGreatDoor
namespace Rows

/-- THE TIED CARD OF 'laws.FnJoined'. -/
def fnJoinedCard : Claim7 := { stood := { row := fnJoinedRow, standIns := [], harness := (true, "4b7d75237c995d300b03da1bfe1ffb954dbca4bdcfcff79bfc25b9515330602d"), looks := true }, kinds := [], alts := [], laidByText := true, laidKinds := [.data, .data, .data, .sentinel, .sentinel], laidTests := true, laidLooks := .later }
def FnJoinedCardSaid : Prop := Claim7.holds Tryz.pinned (.plain (OpenSpec.ofChange fnJoinedSpec)) fnJoinedCard

/-- THE TIED CARD OF 'laws.FnPatched'. -/
def fnPatchedCard : Claim7 := { stood := { row := fnPatchedRow, standIns := [], harness := (true, "4b7d75237c995d300b03da1bfe1ffb954dbca4bdcfcff79bfc25b9515330602d"), looks := true }, kinds := [], alts := [], laidByText := true, laidKinds := [.data, .data, .data, .sentinel, .sentinel], laidTests := true, laidLooks := .later }
def FnPatchedCardSaid : Prop := Claim7.holds Tryz.pinned (.plain (OpenSpec.ofChange fnPatchedSpec)) fnPatchedCard

/-- THE SECOND FORM's CARD OF 'laws.FnJoined'. -/
def fnJoinedUptoCard : Claim7 := { stood := { row := fnJoinedUptoRow, standIns := [], harness := (true, "4b7d75237c995d300b03da1bfe1ffb954dbca4bdcfcff79bfc25b9515330602d"), looks := true }, kinds := [], alts := [], laidByText := true, laidKinds := [.data, .data, .data, .sentinel, .sentinel], laidTests := true, laidLooks := .later }
def FnJoinedUptoCardSaid : Prop := Claim7.holds Tryz.pinned (.plain (OpenSpec.upto fnJoinedSpec)) fnJoinedUptoCard

/-- THE SECOND FORM's CARD OF 'laws.FnPatched'. -/
def fnPatchedUptoCard : Claim7 := { stood := { row := fnPatchedUptoRow, standIns := [], harness := (true, "4b7d75237c995d300b03da1bfe1ffb954dbca4bdcfcff79bfc25b9515330602d"), looks := true }, kinds := [], alts := [], laidByText := true, laidKinds := [.data, .data, .data, .sentinel, .sentinel], laidTests := true, laidLooks := .later }
def FnPatchedUptoCardSaid : Prop := Claim7.holds Tryz.pinned (.plain (OpenSpec.upto fnPatchedSpec)) fnPatchedUptoCard
end Rows
end Go.Proofs.YteeppdobeeodiaaGreatDoor
