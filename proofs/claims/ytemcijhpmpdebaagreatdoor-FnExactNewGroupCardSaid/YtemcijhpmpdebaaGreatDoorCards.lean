/-
  DERIVED. GIVEN WITH THE SEED: THE CARDS: each row of YtemcijhpmpdebaaGreatDoorRows.lean that lists a variable, with what it lists TIED to the program's text (the seventh form; the later family's looks); each row that meets fmt, with fmt's text TOLD by the authors' own Lean function (tested against real Go, not proved from fmt's source: count such statements apart). THE CARD IS WHAT COUNTS. Prove the row's statement (the work); the ties are given (YtemcijhpmpdebaaGreatDoorTie.lean); close each card by the builder's one call (the guide's Derived/Test/ToyasCard.lean, 'card_holds'). Laid BY PROGRAM, IN A SANDBOX (cutbox-door.mjs). By AI agents, Wed Nov 11 2026. No macro, syntax, notation, axiom, sorry.
-/
import Derived.Test.YtemcijhpmpdebaaGreatDoorRows
import GoSem.ClaimSeven
namespace Go.Proofs.YtemcijhpmpdebaaGreatDoor
namespace Rows

/-- THE TIED CARD OF 'laws.FnExactFoldOps'. -/
def fnExactFoldOpsCard : Claim7 := { stood := { row := fnExactFoldOpsRow, standIns := [], harness := (true, "c6a9830ffea180a34a5bf2021a2af703a2deb8f20962c31da3ff43043859f955"), looks := true }, kinds := [], alts := [], laidByText := true, laidKinds := [.data, .data, .data], laidTests := true, laidLooks := .later }
def FnExactFoldOpsCardSaid : Prop := Claim7.holds Tryz.pinned (.plain (OpenSpec.ofChange fnExactFoldOpsSpec)) fnExactFoldOpsCard

/-- THE TIED CARD OF 'laws.FnExactNewGroup'. -/
def fnExactNewGroupCard : Claim7 := { stood := { row := fnExactNewGroupRow, standIns := [], harness := (true, "c6a9830ffea180a34a5bf2021a2af703a2deb8f20962c31da3ff43043859f955"), looks := true }, kinds := [], alts := [], laidByText := true, laidKinds := [.data, .data, .data], laidTests := true, laidLooks := .later }
def FnExactNewGroupCardSaid : Prop := Claim7.holds Tryz.pinned (.plain (OpenSpec.ofChange fnExactNewGroupSpec)) fnExactNewGroupCard

/-- THE SECOND FORM's CARD OF 'laws.FnExactFoldOps'. -/
def fnExactFoldOpsUptoCard : Claim7 := { stood := { row := fnExactFoldOpsUptoRow, standIns := [], harness := (true, "c6a9830ffea180a34a5bf2021a2af703a2deb8f20962c31da3ff43043859f955"), looks := true }, kinds := [], alts := [], laidByText := true, laidKinds := [.data, .data, .data], laidTests := true, laidLooks := .later }
def FnExactFoldOpsUptoCardSaid : Prop := Claim7.holds Tryz.pinned (.plain (OpenSpec.upto fnExactFoldOpsSpec)) fnExactFoldOpsUptoCard

/-- THE SECOND FORM's CARD OF 'laws.FnExactNewGroup'. -/
def fnExactNewGroupUptoCard : Claim7 := { stood := { row := fnExactNewGroupUptoRow, standIns := [], harness := (true, "c6a9830ffea180a34a5bf2021a2af703a2deb8f20962c31da3ff43043859f955"), looks := true }, kinds := [], alts := [], laidByText := true, laidKinds := [.data, .data, .data], laidTests := true, laidLooks := .later }
def FnExactNewGroupUptoCardSaid : Prop := Claim7.holds Tryz.pinned (.plain (OpenSpec.upto fnExactNewGroupSpec)) fnExactNewGroupUptoCard
end Rows
end Go.Proofs.YtemcijhpmpdebaaGreatDoor
