/-
  DERIVED. GIVEN WITH THE SEED: THE CARDS: each row of YtohedpgoioemnaaDoorRows.lean that lists a variable, with what it lists TIED to the program's text (the seventh form; the later family's looks); each row that meets fmt, with fmt's text TOLD by the authors' own Lean function (tested against real Go, not proved from fmt's source: count such statements apart). THE CARD IS WHAT COUNTS. Prove the row's statement (the work); the ties are given (YtohedpgoioemnaaDoorTie.lean); close each card by the builder's one call (the guide's Derived/Test/ToyasCard.lean, 'card_holds'). Laid BY PROGRAM, IN A SANDBOX (cutbox-door.mjs). By AI agents, Wed Nov 11 2026. No macro, syntax, notation, axiom, sorry.
-/
import Derived.Test.YtohedpgoioemnaaDoorRows
import GoSem.ClaimSeven
namespace Go.Proofs.YtohedpgoioemnaaDoor
namespace Rows

/-- THE TIED CARD OF 'compositorlaw23.OutputCovers'. -/
def outputCoversCard : Claim7 := { stood := { row := outputCoversRow, standIns := [], harness := (true, "35c0d040fadd3807329064b54b7640d3be7988c4dc566dfd5c6becc5d64b3e12"), looks := false }, kinds := [], alts := [], laidByText := true, laidKinds := [.data], laidTests := true, laidLooks := .later }
def OutputCoversCardSaid : Prop := Claim7.holds Tryd.pinned (.plain (OpenSpec.ofChange outputCoversSpec)) outputCoversCard

/-- THE TIED CARD OF 'compositorlaw23.OutputMapping'. -/
def outputMappingCard : Claim7 := { stood := { row := outputMappingRow, standIns := [], harness := (true, "35c0d040fadd3807329064b54b7640d3be7988c4dc566dfd5c6becc5d64b3e12"), looks := false }, kinds := [], alts := [], laidByText := true, laidKinds := [.data], laidTests := true, laidLooks := .later }
def OutputMappingCardSaid : Prop := Claim7.holds Tryd.pinned (.plain (OpenSpec.ofChange outputMappingSpec)) outputMappingCard

/-- THE SECOND FORM's CARD OF 'compositorlaw23.OutputCovers'. -/
def outputCoversUptoCard : Claim7 := { stood := { row := outputCoversUptoRow, standIns := [], harness := (true, "35c0d040fadd3807329064b54b7640d3be7988c4dc566dfd5c6becc5d64b3e12"), looks := false }, kinds := [], alts := [], laidByText := true, laidKinds := [.data], laidTests := true, laidLooks := .later }
def OutputCoversUptoCardSaid : Prop := Claim7.holds Tryd.pinned (.plain (OpenSpec.upto outputCoversSpec)) outputCoversUptoCard

/-- THE SECOND FORM's CARD OF 'compositorlaw23.OutputMapping'. -/
def outputMappingUptoCard : Claim7 := { stood := { row := outputMappingUptoRow, standIns := [], harness := (true, "35c0d040fadd3807329064b54b7640d3be7988c4dc566dfd5c6becc5d64b3e12"), looks := false }, kinds := [], alts := [], laidByText := true, laidKinds := [.data], laidTests := true, laidLooks := .later }
def OutputMappingUptoCardSaid : Prop := Claim7.holds Tryd.pinned (.plain (OpenSpec.upto outputMappingSpec)) outputMappingUptoCard
end Rows
end Go.Proofs.YtohedpgoioemnaaDoor
