/-
  DERIVED. GIVEN WITH THE SEED: THE CARDS: each row of YtekamdcojabgeaaGreatDoorRows.lean that lists a variable, with what it lists TIED to the program's text (the seventh form; the later family's looks); each row that meets fmt, with fmt's text TOLD by the authors' own Lean function (tested against real Go, not proved from fmt's source: count such statements apart). THE CARD IS WHAT COUNTS. Prove the row's statement (the work); the ties are given (YtekamdcojabgeaaGreatDoorTie.lean); close each card by the builder's one call (the guide's Derived/Test/ToyasCard.lean, 'card_holds'). Laid BY PROGRAM, IN A SANDBOX (cutbox-door.mjs). By AI agents, Wed Nov 11 2026. No macro, syntax, notation, axiom, sorry.
-/
import Derived.Test.YtekamdcojabgeaaGreatDoorRows
import GoSem.ClaimSeven
namespace Go.Proofs.YtekamdcojabgeaaGreatDoor
namespace Rows

/-- THE TIED CARD OF 'laws.FnExactGoodOp'. -/
def fnExactGoodOpCard : Claim7 := { stood := { row := fnExactGoodOpRow, standIns := [], harness := (true, "3ca345da244d780abfcff55706a1d78e259b532ab0064823ae18f5db95c9e793"), looks := true }, kinds := [], alts := [], laidByText := true, laidKinds := [.data, .data, .data], laidTests := true, laidLooks := .later }
def FnExactGoodOpCardSaid : Prop := Claim7.holds Tryz.pinned (.plain (OpenSpec.ofChange fnExactGoodOpSpec)) fnExactGoodOpCard

/-- THE TIED CARD OF 'laws.FnExactOpText'. -/
def fnExactOpTextCard : Claim7 := { stood := { row := fnExactOpTextRow, standIns := [], harness := (true, "3ca345da244d780abfcff55706a1d78e259b532ab0064823ae18f5db95c9e793"), looks := true }, kinds := [], alts := [], laidByText := true, laidKinds := [.data, .data, .data], laidTests := true, laidLooks := .later }
def FnExactOpTextCardSaid : Prop := Claim7.holds Tryz.pinned (.plain (OpenSpec.ofChange fnExactOpTextSpec)) fnExactOpTextCard

/-- THE TIED CARD OF 'laws.FnExactGoodBase'. -/
def fnExactGoodBaseCard : Claim7 := { stood := { row := fnExactGoodBaseRow, standIns := [], harness := (true, "3ca345da244d780abfcff55706a1d78e259b532ab0064823ae18f5db95c9e793"), looks := true }, kinds := [], alts := [], laidByText := true, laidKinds := [.data, .data, .data], laidTests := true, laidLooks := .later }
def FnExactGoodBaseCardSaid : Prop := Claim7.holds Tryz.pinned (.plain (OpenSpec.ofChange fnExactGoodBaseSpec)) fnExactGoodBaseCard

/-- THE TIED CARD OF 'laws.FnExactDocIn'. -/
def fnExactDocInCard : Claim7 := { stood := { row := fnExactDocInRow, standIns := [], harness := (true, "3ca345da244d780abfcff55706a1d78e259b532ab0064823ae18f5db95c9e793"), looks := true }, kinds := [], alts := [], laidByText := true, laidKinds := [.data, .data, .data], laidTests := true, laidLooks := .later }
def FnExactDocInCardSaid : Prop := Claim7.holds Tryz.pinned (.plain (OpenSpec.ofChange fnExactDocInSpec)) fnExactDocInCard

/-- THE TIED CARD OF 'laws.FnExactFoldOps'. -/
def fnExactFoldOpsCard : Claim7 := { stood := { row := fnExactFoldOpsRow, standIns := [], harness := (true, "3ca345da244d780abfcff55706a1d78e259b532ab0064823ae18f5db95c9e793"), looks := true }, kinds := [], alts := [], laidByText := true, laidKinds := [.data, .data, .data], laidTests := true, laidLooks := .later }
def FnExactFoldOpsCardSaid : Prop := Claim7.holds Tryz.pinned (.plain (OpenSpec.ofChange fnExactFoldOpsSpec)) fnExactFoldOpsCard

/-- THE TIED CARD OF 'laws.FnExactJoinPatches'. -/
def fnExactJoinPatchesCard : Claim7 := { stood := { row := fnExactJoinPatchesRow, standIns := [], harness := (true, "3ca345da244d780abfcff55706a1d78e259b532ab0064823ae18f5db95c9e793"), looks := true }, kinds := [], alts := [], laidByText := true, laidKinds := [.data, .data, .data, .sentinel, .sentinel], laidTests := true, laidLooks := .later }
def FnExactJoinPatchesCardSaid : Prop := Claim7.holds Tryz.pinned (.plain (OpenSpec.ofChange fnExactJoinPatchesSpec)) fnExactJoinPatchesCard

/-- THE SECOND FORM's CARD OF 'laws.FnExactGoodOp'. -/
def fnExactGoodOpUptoCard : Claim7 := { stood := { row := fnExactGoodOpUptoRow, standIns := [], harness := (true, "3ca345da244d780abfcff55706a1d78e259b532ab0064823ae18f5db95c9e793"), looks := true }, kinds := [], alts := [], laidByText := true, laidKinds := [.data, .data, .data], laidTests := true, laidLooks := .later }
def FnExactGoodOpUptoCardSaid : Prop := Claim7.holds Tryz.pinned (.plain (OpenSpec.upto fnExactGoodOpSpec)) fnExactGoodOpUptoCard

/-- THE SECOND FORM's CARD OF 'laws.FnExactOpText'. -/
def fnExactOpTextUptoCard : Claim7 := { stood := { row := fnExactOpTextUptoRow, standIns := [], harness := (true, "3ca345da244d780abfcff55706a1d78e259b532ab0064823ae18f5db95c9e793"), looks := true }, kinds := [], alts := [], laidByText := true, laidKinds := [.data, .data, .data], laidTests := true, laidLooks := .later }
def FnExactOpTextUptoCardSaid : Prop := Claim7.holds Tryz.pinned (.plain (OpenSpec.upto fnExactOpTextSpec)) fnExactOpTextUptoCard

/-- THE SECOND FORM's CARD OF 'laws.FnExactGoodBase'. -/
def fnExactGoodBaseUptoCard : Claim7 := { stood := { row := fnExactGoodBaseUptoRow, standIns := [], harness := (true, "3ca345da244d780abfcff55706a1d78e259b532ab0064823ae18f5db95c9e793"), looks := true }, kinds := [], alts := [], laidByText := true, laidKinds := [.data, .data, .data], laidTests := true, laidLooks := .later }
def FnExactGoodBaseUptoCardSaid : Prop := Claim7.holds Tryz.pinned (.plain (OpenSpec.upto fnExactGoodBaseSpec)) fnExactGoodBaseUptoCard

/-- THE SECOND FORM's CARD OF 'laws.FnExactDocIn'. -/
def fnExactDocInUptoCard : Claim7 := { stood := { row := fnExactDocInUptoRow, standIns := [], harness := (true, "3ca345da244d780abfcff55706a1d78e259b532ab0064823ae18f5db95c9e793"), looks := true }, kinds := [], alts := [], laidByText := true, laidKinds := [.data, .data, .data], laidTests := true, laidLooks := .later }
def FnExactDocInUptoCardSaid : Prop := Claim7.holds Tryz.pinned (.plain (OpenSpec.upto fnExactDocInSpec)) fnExactDocInUptoCard

/-- THE SECOND FORM's CARD OF 'laws.FnExactFoldOps'. -/
def fnExactFoldOpsUptoCard : Claim7 := { stood := { row := fnExactFoldOpsUptoRow, standIns := [], harness := (true, "3ca345da244d780abfcff55706a1d78e259b532ab0064823ae18f5db95c9e793"), looks := true }, kinds := [], alts := [], laidByText := true, laidKinds := [.data, .data, .data], laidTests := true, laidLooks := .later }
def FnExactFoldOpsUptoCardSaid : Prop := Claim7.holds Tryz.pinned (.plain (OpenSpec.upto fnExactFoldOpsSpec)) fnExactFoldOpsUptoCard

/-- THE SECOND FORM's CARD OF 'laws.FnExactJoinPatches'. -/
def fnExactJoinPatchesUptoCard : Claim7 := { stood := { row := fnExactJoinPatchesUptoRow, standIns := [], harness := (true, "3ca345da244d780abfcff55706a1d78e259b532ab0064823ae18f5db95c9e793"), looks := true }, kinds := [], alts := [], laidByText := true, laidKinds := [.data, .data, .data, .sentinel, .sentinel], laidTests := true, laidLooks := .later }
def FnExactJoinPatchesUptoCardSaid : Prop := Claim7.holds Tryz.pinned (.plain (OpenSpec.upto fnExactJoinPatchesSpec)) fnExactJoinPatchesUptoCard
end Rows
end Go.Proofs.YtekamdcojabgeaaGreatDoor
