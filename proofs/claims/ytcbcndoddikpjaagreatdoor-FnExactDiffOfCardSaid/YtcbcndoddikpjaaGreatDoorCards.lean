/-
  DERIVED. GIVEN WITH THE SEED: THE CARDS: each row of YtcbcndoddikpjaaGreatDoorRows.lean that lists a variable, with what it lists TIED to the program's text (the seventh form; the later family's looks); each row that meets fmt, with fmt's text TOLD by the authors' own Lean function (tested against real Go, not proved from fmt's source: count such statements apart). THE CARD IS WHAT COUNTS. Prove the row's statement (the work); the ties are given (YtcbcndoddikpjaaGreatDoorTie.lean); close each card by the builder's one call (the guide's Derived/Test/ToyasCard.lean, 'card_holds'). Laid BY PROGRAM, IN A SANDBOX (cutbox-door.mjs). By AI agents, Wed Nov 11 2026. No macro, syntax, notation, axiom, sorry.
-/
import Derived.Test.YtcbcndoddikpjaaGreatDoorRows
import GoSem.ClaimSeven
namespace Go.Proofs.YtcbcndoddikpjaaGreatDoor
namespace Rows

/-- THE TIED CARD OF 'laws.FnExactJoinPatches'. -/
def fnExactJoinPatchesCard : Claim7 := { stood := { row := fnExactJoinPatchesRow, standIns := [], harness := (true, "71165febb890a1bf55118912367a7cf5b5803774d470c0886949bf9b963e948d"), looks := true }, kinds := [], alts := [], laidByText := true, laidKinds := [.data, .data, .data, .sentinel, .sentinel], laidTests := true, laidLooks := .later }
def FnExactJoinPatchesCardSaid : Prop := Claim7.holds Tryz.pinned (.plain (OpenSpec.ofChange fnExactJoinPatchesSpec)) fnExactJoinPatchesCard

/-- THE TIED CARD OF 'laws.FnExactApplyPatch'. -/
def fnExactApplyPatchCard : Claim7 := { stood := { row := fnExactApplyPatchRow, standIns := [], harness := (true, "71165febb890a1bf55118912367a7cf5b5803774d470c0886949bf9b963e948d"), looks := true }, kinds := [], alts := [], laidByText := true, laidKinds := [.data, .data, .data, .sentinel, .sentinel], laidTests := true, laidLooks := .later }
def FnExactApplyPatchCardSaid : Prop := Claim7.holds Tryz.pinned (.plain (OpenSpec.ofChange fnExactApplyPatchSpec)) fnExactApplyPatchCard

/-- THE TIED CARD OF 'laws.FnExactDiffOf'. -/
def fnExactDiffOfCard : Claim7 := { stood := { row := fnExactDiffOfRow, standIns := [], harness := (true, "71165febb890a1bf55118912367a7cf5b5803774d470c0886949bf9b963e948d"), looks := true }, kinds := [], alts := [], laidByText := true, laidKinds := [.data, .data, .data, .sentinel, .sentinel], laidTests := true, laidLooks := .later }
def FnExactDiffOfCardSaid : Prop := Claim7.holds Tryz.pinned (.plain (OpenSpec.ofChange fnExactDiffOfSpec)) fnExactDiffOfCard

/-- THE SECOND FORM's CARD OF 'laws.FnExactJoinPatches'. -/
def fnExactJoinPatchesUptoCard : Claim7 := { stood := { row := fnExactJoinPatchesUptoRow, standIns := [], harness := (true, "71165febb890a1bf55118912367a7cf5b5803774d470c0886949bf9b963e948d"), looks := true }, kinds := [], alts := [], laidByText := true, laidKinds := [.data, .data, .data, .sentinel, .sentinel], laidTests := true, laidLooks := .later }
def FnExactJoinPatchesUptoCardSaid : Prop := Claim7.holds Tryz.pinned (.plain (OpenSpec.upto fnExactJoinPatchesSpec)) fnExactJoinPatchesUptoCard

/-- THE SECOND FORM's CARD OF 'laws.FnExactApplyPatch'. -/
def fnExactApplyPatchUptoCard : Claim7 := { stood := { row := fnExactApplyPatchUptoRow, standIns := [], harness := (true, "71165febb890a1bf55118912367a7cf5b5803774d470c0886949bf9b963e948d"), looks := true }, kinds := [], alts := [], laidByText := true, laidKinds := [.data, .data, .data, .sentinel, .sentinel], laidTests := true, laidLooks := .later }
def FnExactApplyPatchUptoCardSaid : Prop := Claim7.holds Tryz.pinned (.plain (OpenSpec.upto fnExactApplyPatchSpec)) fnExactApplyPatchUptoCard

/-- THE SECOND FORM's CARD OF 'laws.FnExactDiffOf'. -/
def fnExactDiffOfUptoCard : Claim7 := { stood := { row := fnExactDiffOfUptoRow, standIns := [], harness := (true, "71165febb890a1bf55118912367a7cf5b5803774d470c0886949bf9b963e948d"), looks := true }, kinds := [], alts := [], laidByText := true, laidKinds := [.data, .data, .data, .sentinel, .sentinel], laidTests := true, laidLooks := .later }
def FnExactDiffOfUptoCardSaid : Prop := Claim7.holds Tryz.pinned (.plain (OpenSpec.upto fnExactDiffOfSpec)) fnExactDiffOfUptoCard
end Rows
end Go.Proofs.YtcbcndoddikpjaaGreatDoor
