/-
  DERIVED. GIVEN WITH THE SEED: THE CARDS: each row of YtohedpgoioemnaaGreatDoorRows.lean that lists a variable, with what it lists TIED to the program's text (the seventh form; the later family's looks); each row that meets fmt, with fmt's text TOLD by the authors' own Lean function (tested against real Go, not proved from fmt's source: count such statements apart). THE CARD IS WHAT COUNTS. Prove the row's statement (the work); the ties are given (YtohedpgoioemnaaGreatDoorTie.lean); close each card by the builder's one call (the guide's Derived/Test/ToyasCard.lean, 'card_holds'). Laid BY PROGRAM, IN A SANDBOX (cutbox-door.mjs). By AI agents, Wed Nov 11 2026. No macro, syntax, notation, axiom, sorry.
-/
import Derived.Test.YtohedpgoioemnaaGreatDoorRows
import GoSem.ClaimSeven
namespace Go.Proofs.YtohedpgoioemnaaGreatDoor
namespace Rows

/-- THE TIED CARD OF 'compositorlaw23.OutputMaps'. -/
def outputMapsCard : Claim7 := { stood := { row := outputMapsRow, standIns := [], harness := (true, "102cd6908036503040aa3864aa7863083c682603dcbb5a0447fdff33e04e9418"), looks := false }, kinds := [], alts := [], laidByText := true, laidKinds := [.data], laidTests := true, laidLooks := .later }
def OutputMapsCardSaid : Prop := Claim7.holds Tryz.pinned (.plain (OpenSpec.ofChange outputMapsSpec)) outputMapsCard

/-- THE SECOND FORM's CARD OF 'compositorlaw23.OutputMaps'. -/
def outputMapsUptoCard : Claim7 := { stood := { row := outputMapsUptoRow, standIns := [], harness := (true, "102cd6908036503040aa3864aa7863083c682603dcbb5a0447fdff33e04e9418"), looks := false }, kinds := [], alts := [], laidByText := true, laidKinds := [.data], laidTests := true, laidLooks := .later }
def OutputMapsUptoCardSaid : Prop := Claim7.holds Tryz.pinned (.plain (OpenSpec.upto outputMapsSpec)) outputMapsUptoCard
end Rows
end Go.Proofs.YtohedpgoioemnaaGreatDoor
