/-
  No cell of these rows narrows 'for every input' (looked for: loops, veiled, ifaces, maps, wideKeys, modest, calm, conditions, laid).
  DERIVED. THE GIVEN ROWS OF THIS SEAT. 2 by the template 'for every input the law returns true; each argument reads behind the call as it read before'; 0 by the template 'total and deterministic' (their statements: YtohedpgoioemnaaTotals.lean).
  GIVEN WITH THE SEED: the statements are not yours to turn. If you find one false, say at which input.
  Laid BY PROGRAM, IN A SANDBOX (cutbox-rows.mjs): the forced cells as the released guide's own fill.sh prints them over the translation 269b624e8ccae27b… (all of the seat's roots in one cut). By AI agents, Wed Nov 11 2026. No macro, syntax, notation, axiom, sorry.
-/
import Derived.Test.YtohedpgoioemnaaChecked
import GoSem.Claim
import GoSem.ClaimJoined
import GoSem.ClaimMapViews
import Derived.JoinedTies
import Derived.KernelRfl
namespace Go.Proofs.Ytohedpgoioemnaa
/- THE CELL 'sum', in the pinned program and in every row, IS THE sha256 OF THE DUMP (.gsa) THAT YtohedpgoioemnaaProg.lean LOADS. Nothing in Lean hashes anything: it is a label: what it is worth is what the hold of that sum in a sandbox is worth. -/
noncomputable def Try.pinned : Pinned := { name := "ytohedpgoioemnaa", sum := "269b624e8ccae27b5e4dae0256bd70082b8a4cbb207bc339ffc97567ec6bf4ea", checked := Try.checked }
namespace Rows
def none {H : Type} : Left H := { results := [], args := [] }

/-- 'compositorlaw23.OutputBasics': WHATEVER THE INPUT: true; the input reads as it did. -/
def outputBasicsSpec : ChangeSpec := { name := "outputBasics", fn := fun _ => fun
  | [d1, d2] => { results := [.lit (.bool true)], args := [d1, d2] }
  | _ => none }
def outputBasicsRow : OpenClaim := { program := "ytohedpgoioemnaa", sum := "269b624e8ccae27b5e4dae0256bd70082b8a4cbb207bc339ffc97567ec6bf4ea", func := "compositor/compositorlaw23.OutputBasics", spec := "outputBasics", unfollowed := true, recurses := true, apart := false }
def OutputBasicsSaid : Prop := outputBasicsRow.holds Try.pinned (OpenSpec.ofChange outputBasicsSpec)

/-- ITS FALSE NEIGHBOUR: 'it returns false'. Refute it at one input. -/
def outputBasicsWrong : ChangeSpec := { name := "outputBasics", fn := fun _ => fun
  | [d1, d2] => { results := [.lit (.bool false)], args := [d1, d2] }
  | _ => none }
def OutputBasicsWrongFalsely : Prop := outputBasicsRow.holds Try.pinned (OpenSpec.ofChange outputBasicsWrong)

/-- 'compositorlaw23.OutputChecks': WHATEVER THE INPUT: true; the input reads as it did. -/
def outputChecksSpec : ChangeSpec := { name := "outputChecks", fn := fun _ => fun
  | [d1, d2] => { results := [.lit (.bool true)], args := [d1, d2] }
  | _ => none }
def outputChecksRow : OpenClaim := { program := "ytohedpgoioemnaa", sum := "269b624e8ccae27b5e4dae0256bd70082b8a4cbb207bc339ffc97567ec6bf4ea", func := "compositor/compositorlaw23.OutputChecks", spec := "outputChecks", unfollowed := true, recurses := true, apart := false }
def OutputChecksSaid : Prop := outputChecksRow.holds Try.pinned (OpenSpec.ofChange outputChecksSpec)

/-- ITS FALSE NEIGHBOUR: 'it returns false'. Refute it at one input. -/
def outputChecksWrong : ChangeSpec := { name := "outputChecks", fn := fun _ => fun
  | [d1, d2] => { results := [.lit (.bool false)], args := [d1, d2] }
  | _ => none }
def OutputChecksWrongFalsely : Prop := outputChecksRow.holds Try.pinned (OpenSpec.ofChange outputChecksWrong)

/- THE SECOND FORM. 'bulk': how many values and letters a reading holds, each counted each time it is reached (what is shared counts as often as it is met; a slice's spare places count too). A statement '..UptoSaid' is the law's where the arguments, and the package variables that the reading takes, are together of bulk at most 1048576: NARROWER than '..Said'. Prove '..Said' where nothing that the law and all that it calls make is longer than what came in: it says more and counts as full. Else prove '..UptoSaid'. A law counts once. -/
mutual
def uptoBulk {H : Type} : DataW H → Nat
  | .lit (.string bytes) => bytes.length + 1
  | .lit _ => 1
  | .nil => 1
  | .ptr d => uptoBulk d + 1
  | .slice elems spare => uptoBulkAll elems + uptoBulkAll spare + 1
  | .agg parts => uptoBulkAll parts + 1
  | .iface _ d => uptoBulk d + 1
  | .map entries => uptoBulkEntries entries + 1
  | .held _ => 1
def uptoBulkAll {H : Type} : List (DataW H) → Nat
  | [] => 0
  | d :: r => uptoBulk d + uptoBulkAll r
def uptoBulkEntries {H : Type} : List (Lit × DataW H) → Nat
  | [] => 0
  | x :: r => uptoBulkEntry x + uptoBulkEntries r
def uptoBulkEntry {H : Type} : Lit × DataW H → Nat
  | (.string bytes, d) => bytes.length + uptoBulk d + 1
  | (_, d) => uptoBulk d + 1
 end
def uptoSmall : (H : Type) → List (DataW H) → Bool := fun _ ds => decide (uptoBulkAll ds ≤ 1048576)
def OpenSpec.upto (s : _root_.Go.ChangeSpec) : _root_.Go.OpenSpec := { _root_.Go.OpenSpec.ofChange s with cond := some uptoSmall }

/-- 'compositorlaw23.OutputBasics', WHERE WHAT IT READS IS OF BULK AT MOST 1048576: true; the input reads as it did. -/
def outputBasicsUptoRow : OpenClaim := { program := "ytohedpgoioemnaa", sum := "269b624e8ccae27b5e4dae0256bd70082b8a4cbb207bc339ffc97567ec6bf4ea", func := "compositor/compositorlaw23.OutputBasics", spec := "outputBasics", unfollowed := true, recurses := true, apart := false, narrowed := true }
def OutputBasicsUptoSaid : Prop := outputBasicsUptoRow.holds Try.pinned (OpenSpec.upto outputBasicsSpec)

/-- 'compositorlaw23.OutputChecks', WHERE WHAT IT READS IS OF BULK AT MOST 1048576: true; the input reads as it did. -/
def outputChecksUptoRow : OpenClaim := { program := "ytohedpgoioemnaa", sum := "269b624e8ccae27b5e4dae0256bd70082b8a4cbb207bc339ffc97567ec6bf4ea", func := "compositor/compositorlaw23.OutputChecks", spec := "outputChecks", unfollowed := true, recurses := true, apart := false, narrowed := true }
def OutputChecksUptoSaid : Prop := outputChecksUptoRow.holds Try.pinned (OpenSpec.upto outputChecksSpec)

end Rows
end Go.Proofs.Ytohedpgoioemnaa
