/-
  No cell of these rows narrows 'for every input' (looked for: loops, veiled, ifaces, maps, wideKeys, modest, calm, conditions, laid).
  DERIVED. THE GIVEN ROWS OF THIS SEAT. 3 by the template 'for every input the law returns true; each argument reads behind the call as it read before'; 0 by the template 'total and deterministic' (their statements: YtmpncpamndhmcaaTotals.lean).
  GIVEN WITH THE SEED: the statements are not yours to turn. If you find one false, say at which input.
  Laid BY PROGRAM, IN A SANDBOX (cutbox-rows.mjs): the forced cells as the released guide's own fill.sh prints them over the translation 7520bd4f6b1ae8b8… (all of the seat's roots in one cut). By AI agents, Wed Nov 11 2026. No macro, syntax, notation, axiom, sorry.
-/
import Derived.Test.YtmpncpamndhmcaaChecked
import GoSem.Claim
import GoSem.ClaimJoined
import GoSem.ClaimMapViews
import Derived.JoinedTies
import Derived.KernelRfl
namespace Go.Proofs.Ytmpncpamndhmcaa
/- THE CELL 'sum', in the pinned program and in every row, IS THE sha256 OF THE DUMP (.gsa) THAT YtmpncpamndhmcaaProg.lean LOADS. Nothing in Lean hashes anything: it is a label: what it is worth is what the hold of that sum in a sandbox is worth. -/
noncomputable def Try.pinned : Pinned := { name := "ytmpncpamndhmcaa", sum := "7520bd4f6b1ae8b857916859b8c5475e106df21077518ee995fcc10ccd134e7e", checked := Try.checked }
namespace Rows
def none {H : Type} : Left H := { results := [], args := [] }

/-- 'compositorlaw34.PointerFrames': WHATEVER THE INPUT: true; the input reads as it did. -/
def pointerFramesSpec : ChangeSpec := { name := "pointerFrames", fn := fun _ => fun
  | [d] => { results := [.lit (.bool true)], args := [d] }
  | _ => none }
def pointerFramesRow : OpenClaim := { program := "ytmpncpamndhmcaa", sum := "7520bd4f6b1ae8b857916859b8c5475e106df21077518ee995fcc10ccd134e7e", func := "compositor/compositorlaw34.PointerFrames", spec := "pointerFrames", unfollowed := true, recurses := true, apart := false }
def PointerFramesSaid : Prop := pointerFramesRow.holds Try.pinned (OpenSpec.ofChange pointerFramesSpec)

/-- ITS FALSE NEIGHBOUR: 'it returns false'. Refute it at one input. -/
def pointerFramesWrong : ChangeSpec := { name := "pointerFrames", fn := fun _ => fun
  | [d] => { results := [.lit (.bool false)], args := [d] }
  | _ => none }
def PointerFramesWrongFalsely : Prop := pointerFramesRow.holds Try.pinned (OpenSpec.ofChange pointerFramesWrong)

/-- 'compositorlaw34.PointerAlternates': WHATEVER THE INPUT: true; the input reads as it did. -/
def pointerAlternatesSpec : ChangeSpec := { name := "pointerAlternates", fn := fun _ => fun
  | [d] => { results := [.lit (.bool true)], args := [d] }
  | _ => none }
def pointerAlternatesRow : OpenClaim := { program := "ytmpncpamndhmcaa", sum := "7520bd4f6b1ae8b857916859b8c5475e106df21077518ee995fcc10ccd134e7e", func := "compositor/compositorlaw34.PointerAlternates", spec := "pointerAlternates", unfollowed := true, recurses := true, apart := false }
def PointerAlternatesSaid : Prop := pointerAlternatesRow.holds Try.pinned (OpenSpec.ofChange pointerAlternatesSpec)

/-- ITS FALSE NEIGHBOUR: 'it returns false'. Refute it at one input. -/
def pointerAlternatesWrong : ChangeSpec := { name := "pointerAlternates", fn := fun _ => fun
  | [d] => { results := [.lit (.bool false)], args := [d] }
  | _ => none }
def PointerAlternatesWrongFalsely : Prop := pointerAlternatesRow.holds Try.pinned (OpenSpec.ofChange pointerAlternatesWrong)

/-- 'compositorlaw34.PointerNil': WHATEVER THE INPUT: true; the input reads as it did. -/
def pointerNilSpec : ChangeSpec := { name := "pointerNil", fn := fun _ => fun
  | [d1, d2] => { results := [.lit (.bool true)], args := [d1, d2] }
  | _ => none }
def pointerNilRow : OpenClaim := { program := "ytmpncpamndhmcaa", sum := "7520bd4f6b1ae8b857916859b8c5475e106df21077518ee995fcc10ccd134e7e", func := "compositor/compositorlaw34.PointerNil", spec := "pointerNil", unfollowed := true, recurses := true, apart := false }
def PointerNilSaid : Prop := pointerNilRow.holds Try.pinned (OpenSpec.ofChange pointerNilSpec)

/-- ITS FALSE NEIGHBOUR: 'it returns false'. Refute it at one input. -/
def pointerNilWrong : ChangeSpec := { name := "pointerNil", fn := fun _ => fun
  | [d1, d2] => { results := [.lit (.bool false)], args := [d1, d2] }
  | _ => none }
def PointerNilWrongFalsely : Prop := pointerNilRow.holds Try.pinned (OpenSpec.ofChange pointerNilWrong)

/- THE SECOND FORM. 'bulk': how many values and letters a reading holds, each counted each time it is reached (what is shared counts as often as it is met; a slice's spare places count too). A statement '..UptoSaid' is the law's where the arguments, and the package variables that the reading takes, are together of bulk at most 1048576: NARROWER than '..Said'. Prove '..Said' where nothing that the law and all that it calls make is longer than what came in: it says more and counts as full. Else prove '..UptoSaid'. A law counts once. -/
mutual
def uptoBulk {H : Type} : DataW H → Nat
  | .lit (.string bytes) => bytes.length + 1
  | .lit _ => 1
  | .nil => 1
  | .ptr d => uptoBulk d + 1
  | .slice elems spare => uptoBulkAll elems + uptoBulkAll spare + 1
  | .agg parts => uptoBulkAll parts + 1
  | .iface _ d => uptoBulk d + 1
  | .map entries => uptoBulkEntries entries + 1
  | .held _ => 1
def uptoBulkAll {H : Type} : List (DataW H) → Nat
  | [] => 0
  | d :: r => uptoBulk d + uptoBulkAll r
def uptoBulkEntries {H : Type} : List (Lit × DataW H) → Nat
  | [] => 0
  | x :: r => uptoBulkEntry x + uptoBulkEntries r
def uptoBulkEntry {H : Type} : Lit × DataW H → Nat
  | (.string bytes, d) => bytes.length + uptoBulk d + 1
  | (_, d) => uptoBulk d + 1
 end
def uptoSmall : (H : Type) → List (DataW H) → Bool := fun _ ds => decide (uptoBulkAll ds ≤ 1048576)
def OpenSpec.upto (s : _root_.Go.ChangeSpec) : _root_.Go.OpenSpec := { _root_.Go.OpenSpec.ofChange s with cond := some uptoSmall }

/-- 'compositorlaw34.PointerFrames', WHERE WHAT IT READS IS OF BULK AT MOST 1048576: true; the input reads as it did. -/
def pointerFramesUptoRow : OpenClaim := { program := "ytmpncpamndhmcaa", sum := "7520bd4f6b1ae8b857916859b8c5475e106df21077518ee995fcc10ccd134e7e", func := "compositor/compositorlaw34.PointerFrames", spec := "pointerFrames", unfollowed := true, recurses := true, apart := false, narrowed := true }
def PointerFramesUptoSaid : Prop := pointerFramesUptoRow.holds Try.pinned (OpenSpec.upto pointerFramesSpec)

/-- 'compositorlaw34.PointerAlternates', WHERE WHAT IT READS IS OF BULK AT MOST 1048576: true; the input reads as it did. -/
def pointerAlternatesUptoRow : OpenClaim := { program := "ytmpncpamndhmcaa", sum := "7520bd4f6b1ae8b857916859b8c5475e106df21077518ee995fcc10ccd134e7e", func := "compositor/compositorlaw34.PointerAlternates", spec := "pointerAlternates", unfollowed := true, recurses := true, apart := false, narrowed := true }
def PointerAlternatesUptoSaid : Prop := pointerAlternatesUptoRow.holds Try.pinned (OpenSpec.upto pointerAlternatesSpec)

/-- 'compositorlaw34.PointerNil', WHERE WHAT IT READS IS OF BULK AT MOST 1048576: true; the input reads as it did. -/
def pointerNilUptoRow : OpenClaim := { program := "ytmpncpamndhmcaa", sum := "7520bd4f6b1ae8b857916859b8c5475e106df21077518ee995fcc10ccd134e7e", func := "compositor/compositorlaw34.PointerNil", spec := "pointerNil", unfollowed := true, recurses := true, apart := false, narrowed := true }
def PointerNilUptoSaid : Prop := pointerNilUptoRow.holds Try.pinned (OpenSpec.upto pointerNilSpec)

end Rows
end Go.Proofs.Ytmpncpamndhmcaa
