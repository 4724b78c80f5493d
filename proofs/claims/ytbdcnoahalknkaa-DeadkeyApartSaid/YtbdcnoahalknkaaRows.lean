/-
  No cell of these rows narrows 'for every input' (looked for: loops, veiled, ifaces, maps, wideKeys, modest, calm, conditions, laid).
  DERIVED. THE GIVEN ROWS OF THIS SEAT. 7 by the template 'for every input the law returns true; each argument reads behind the call as it read before'; 0 by the template 'total and deterministic' (their statements: YtbdcnoahalknkaaTotals.lean).
  GIVEN WITH THE SEED: the statements are not yours to turn. If you find one false, say at which input.
  Laid BY PROGRAM, IN A SANDBOX (cutbox-rows.mjs): the forced cells as the released guide's own fill.sh prints them over the translation 5dc68b21a270af94… (all of the seat's roots in one cut). By AI agents, Wed Nov 11 2026. No macro, syntax, notation, axiom, sorry.
-/
import Derived.Test.YtbdcnoahalknkaaChecked
import GoSem.Claim
import GoSem.ClaimJoined
import GoSem.ClaimMapViews
import Derived.JoinedTies
import Derived.KernelRfl
namespace Go.Proofs.Ytbdcnoahalknkaa
/- THE CELL 'sum', in the pinned program and in every row, IS THE sha256 OF THE DUMP (.gsa) THAT YtbdcnoahalknkaaProg.lean LOADS. Nothing in Lean hashes anything: it is a label: what it is worth is what the hold of that sum in a sandbox is worth. -/
noncomputable def Try.pinned : Pinned := { name := "ytbdcnoahalknkaa", sum := "5dc68b21a270af9441b9f5dc88a73ac7f75267d382a8e4a29675f012b5d5646b", checked := Try.checked }
namespace Rows
def none {H : Type} : Left H := { results := [], args := [] }

/-- 'compositorlaw36.DeadkeyNew': WHATEVER THE INPUT: true; the input reads as it did. -/
def deadkeyNewSpec : ChangeSpec := { name := "deadkeyNew", fn := fun _ => fun
  | [d] => { results := [.lit (.bool true)], args := [d] }
  | _ => none }
def deadkeyNewRow : OpenClaim := { program := "ytbdcnoahalknkaa", sum := "5dc68b21a270af9441b9f5dc88a73ac7f75267d382a8e4a29675f012b5d5646b", func := "compositor/compositorlaw36.DeadkeyNew", spec := "deadkeyNew", recurses := true, apart := false }
def DeadkeyNewSaid : Prop := deadkeyNewRow.holds Try.pinned (OpenSpec.ofChange deadkeyNewSpec)

/-- ITS FALSE NEIGHBOUR: 'it returns false'. Refute it at one input. -/
def deadkeyNewWrong : ChangeSpec := { name := "deadkeyNew", fn := fun _ => fun
  | [d] => { results := [.lit (.bool false)], args := [d] }
  | _ => none }
def DeadkeyNewWrongFalsely : Prop := deadkeyNewRow.holds Try.pinned (OpenSpec.ofChange deadkeyNewWrong)

/-- 'compositorlaw36.DeadkeyFeed': WHATEVER THE INPUT: true; the input reads as it did. -/
def deadkeyFeedSpec : ChangeSpec := { name := "deadkeyFeed", fn := fun _ => fun
  | [d1, d2, d3] => { results := [.lit (.bool true)], args := [d1, d2, d3] }
  | _ => none }
def deadkeyFeedRow : OpenClaim := { program := "ytbdcnoahalknkaa", sum := "5dc68b21a270af9441b9f5dc88a73ac7f75267d382a8e4a29675f012b5d5646b", func := "compositor/compositorlaw36.DeadkeyFeed", spec := "deadkeyFeed", recurses := true, apart := false }
def DeadkeyFeedSaid : Prop := deadkeyFeedRow.holds Try.pinned (OpenSpec.ofChange deadkeyFeedSpec)

/-- ITS FALSE NEIGHBOUR: 'it returns false'. Refute it at one input. -/
def deadkeyFeedWrong : ChangeSpec := { name := "deadkeyFeed", fn := fun _ => fun
  | [d1, d2, d3] => { results := [.lit (.bool false)], args := [d1, d2, d3] }
  | _ => none }
def DeadkeyFeedWrongFalsely : Prop := deadkeyFeedRow.holds Try.pinned (OpenSpec.ofChange deadkeyFeedWrong)

/-- 'compositorlaw36.DeadkeyPlays': WHATEVER THE INPUT: true; the input reads as it did. -/
def deadkeyPlaysSpec : ChangeSpec := { name := "deadkeyPlays", fn := fun _ => fun
  | [d1, d2] => { results := [.lit (.bool true)], args := [d1, d2] }
  | _ => none }
def deadkeyPlaysRow : OpenClaim := { program := "ytbdcnoahalknkaa", sum := "5dc68b21a270af9441b9f5dc88a73ac7f75267d382a8e4a29675f012b5d5646b", func := "compositor/compositorlaw36.DeadkeyPlays", spec := "deadkeyPlays", recurses := true, apart := false }
def DeadkeyPlaysSaid : Prop := deadkeyPlaysRow.holds Try.pinned (OpenSpec.ofChange deadkeyPlaysSpec)

/-- ITS FALSE NEIGHBOUR: 'it returns false'. Refute it at one input. -/
def deadkeyPlaysWrong : ChangeSpec := { name := "deadkeyPlays", fn := fun _ => fun
  | [d1, d2] => { results := [.lit (.bool false)], args := [d1, d2] }
  | _ => none }
def DeadkeyPlaysWrongFalsely : Prop := deadkeyPlaysRow.holds Try.pinned (OpenSpec.ofChange deadkeyPlaysWrong)

/-- 'compositorlaw36.DeadkeyLongestMatch': WHATEVER THE INPUT: true; the input reads as it did. -/
def deadkeyLongestMatchSpec : ChangeSpec := { name := "deadkeyLongestMatch", fn := fun _ => fun
  | [d1, d2] => { results := [.lit (.bool true)], args := [d1, d2] }
  | _ => none }
def deadkeyLongestMatchRow : OpenClaim := { program := "ytbdcnoahalknkaa", sum := "5dc68b21a270af9441b9f5dc88a73ac7f75267d382a8e4a29675f012b5d5646b", func := "compositor/compositorlaw36.DeadkeyLongestMatch", spec := "deadkeyLongestMatch", recurses := true, apart := false }
def DeadkeyLongestMatchSaid : Prop := deadkeyLongestMatchRow.holds Try.pinned (OpenSpec.ofChange deadkeyLongestMatchSpec)

/-- ITS FALSE NEIGHBOUR: 'it returns false'. Refute it at one input. -/
def deadkeyLongestMatchWrong : ChangeSpec := { name := "deadkeyLongestMatch", fn := fun _ => fun
  | [d1, d2] => { results := [.lit (.bool false)], args := [d1, d2] }
  | _ => none }
def DeadkeyLongestMatchWrongFalsely : Prop := deadkeyLongestMatchRow.holds Try.pinned (OpenSpec.ofChange deadkeyLongestMatchWrong)

/-- 'compositorlaw36.DeadkeyPending': WHATEVER THE INPUT: true; the input reads as it did. -/
def deadkeyPendingSpec : ChangeSpec := { name := "deadkeyPending", fn := fun _ => fun
  | [d1, d2, d3] => { results := [.lit (.bool true)], args := [d1, d2, d3] }
  | _ => none }
def deadkeyPendingRow : OpenClaim := { program := "ytbdcnoahalknkaa", sum := "5dc68b21a270af9441b9f5dc88a73ac7f75267d382a8e4a29675f012b5d5646b", func := "compositor/compositorlaw36.DeadkeyPending", spec := "deadkeyPending", recurses := true, apart := false }
def DeadkeyPendingSaid : Prop := deadkeyPendingRow.holds Try.pinned (OpenSpec.ofChange deadkeyPendingSpec)

/-- ITS FALSE NEIGHBOUR: 'it returns false'. Refute it at one input. -/
def deadkeyPendingWrong : ChangeSpec := { name := "deadkeyPending", fn := fun _ => fun
  | [d1, d2, d3] => { results := [.lit (.bool false)], args := [d1, d2, d3] }
  | _ => none }
def DeadkeyPendingWrongFalsely : Prop := deadkeyPendingRow.holds Try.pinned (OpenSpec.ofChange deadkeyPendingWrong)

/-- 'compositorlaw36.DeadkeyRest': WHATEVER THE INPUT: true; the input reads as it did. -/
def deadkeyRestSpec : ChangeSpec := { name := "deadkeyRest", fn := fun _ => fun
  | [d1, d2, d3] => { results := [.lit (.bool true)], args := [d1, d2, d3] }
  | _ => none }
def deadkeyRestRow : OpenClaim := { program := "ytbdcnoahalknkaa", sum := "5dc68b21a270af9441b9f5dc88a73ac7f75267d382a8e4a29675f012b5d5646b", func := "compositor/compositorlaw36.DeadkeyRest", spec := "deadkeyRest", recurses := true, apart := false }
def DeadkeyRestSaid : Prop := deadkeyRestRow.holds Try.pinned (OpenSpec.ofChange deadkeyRestSpec)

/-- ITS FALSE NEIGHBOUR: 'it returns false'. Refute it at one input. -/
def deadkeyRestWrong : ChangeSpec := { name := "deadkeyRest", fn := fun _ => fun
  | [d1, d2, d3] => { results := [.lit (.bool false)], args := [d1, d2, d3] }
  | _ => none }
def DeadkeyRestWrongFalsely : Prop := deadkeyRestRow.holds Try.pinned (OpenSpec.ofChange deadkeyRestWrong)

/-- 'compositorlaw36.DeadkeyApart': WHATEVER THE INPUT: true; the input reads as it did. -/
def deadkeyApartSpec : ChangeSpec := { name := "deadkeyApart", fn := fun _ => fun
  | [d1, d2, d3] => { results := [.lit (.bool true)], args := [d1, d2, d3] }
  | _ => none }
def deadkeyApartRow : OpenClaim := { program := "ytbdcnoahalknkaa", sum := "5dc68b21a270af9441b9f5dc88a73ac7f75267d382a8e4a29675f012b5d5646b", func := "compositor/compositorlaw36.DeadkeyApart", spec := "deadkeyApart", recurses := true, apart := false }
def DeadkeyApartSaid : Prop := deadkeyApartRow.holds Try.pinned (OpenSpec.ofChange deadkeyApartSpec)

/-- ITS FALSE NEIGHBOUR: 'it returns false'. Refute it at one input. -/
def deadkeyApartWrong : ChangeSpec := { name := "deadkeyApart", fn := fun _ => fun
  | [d1, d2, d3] => { results := [.lit (.bool false)], args := [d1, d2, d3] }
  | _ => none }
def DeadkeyApartWrongFalsely : Prop := deadkeyApartRow.holds Try.pinned (OpenSpec.ofChange deadkeyApartWrong)

/- THE SECOND FORM. 'bulk': how many values and letters a reading holds, each counted each time it is reached (what is shared counts as often as it is met; a slice's spare places count too). A statement '..UptoSaid' is the law's where the arguments, and the package variables that the reading takes, are together of bulk at most 1048576: NARROWER than '..Said'. Prove '..Said' where nothing that the law and all that it calls make is longer than what came in: it says more and counts as full. Else prove '..UptoSaid'. A law counts once. -/
mutual
def uptoBulk {H : Type} : DataW H → Nat
  | .lit (.string bytes) => bytes.length + 1
  | .lit _ => 1
  | .nil => 1
  | .ptr d => uptoBulk d + 1
  | .slice elems spare => uptoBulkAll elems + uptoBulkAll spare + 1
  | .agg parts => uptoBulkAll parts + 1
  | .iface _ d => uptoBulk d + 1
  | .map entries => uptoBulkEntries entries + 1
  | .held _ => 1
def uptoBulkAll {H : Type} : List (DataW H) → Nat
  | [] => 0
  | d :: r => uptoBulk d + uptoBulkAll r
def uptoBulkEntries {H : Type} : List (Lit × DataW H) → Nat
  | [] => 0
  | x :: r => uptoBulkEntry x + uptoBulkEntries r
def uptoBulkEntry {H : Type} : Lit × DataW H → Nat
  | (.string bytes, d) => bytes.length + uptoBulk d + 1
  | (_, d) => uptoBulk d + 1
 end
def uptoSmall : (H : Type) → List (DataW H) → Bool := fun _ ds => decide (uptoBulkAll ds ≤ 1048576)
def OpenSpec.upto (s : _root_.Go.ChangeSpec) : _root_.Go.OpenSpec := { _root_.Go.OpenSpec.ofChange s with cond := some uptoSmall }

/-- 'compositorlaw36.DeadkeyNew', WHERE WHAT IT READS IS OF BULK AT MOST 1048576: true; the input reads as it did. -/
def deadkeyNewUptoRow : OpenClaim := { program := "ytbdcnoahalknkaa", sum := "5dc68b21a270af9441b9f5dc88a73ac7f75267d382a8e4a29675f012b5d5646b", func := "compositor/compositorlaw36.DeadkeyNew", spec := "deadkeyNew", recurses := true, apart := false, narrowed := true }
def DeadkeyNewUptoSaid : Prop := deadkeyNewUptoRow.holds Try.pinned (OpenSpec.upto deadkeyNewSpec)

/-- 'compositorlaw36.DeadkeyFeed', WHERE WHAT IT READS IS OF BULK AT MOST 1048576: true; the input reads as it did. -/
def deadkeyFeedUptoRow : OpenClaim := { program := "ytbdcnoahalknkaa", sum := "5dc68b21a270af9441b9f5dc88a73ac7f75267d382a8e4a29675f012b5d5646b", func := "compositor/compositorlaw36.DeadkeyFeed", spec := "deadkeyFeed", recurses := true, apart := false, narrowed := true }
def DeadkeyFeedUptoSaid : Prop := deadkeyFeedUptoRow.holds Try.pinned (OpenSpec.upto deadkeyFeedSpec)

/-- 'compositorlaw36.DeadkeyPlays', WHERE WHAT IT READS IS OF BULK AT MOST 1048576: true; the input reads as it did. -/
def deadkeyPlaysUptoRow : OpenClaim := { program := "ytbdcnoahalknkaa", sum := "5dc68b21a270af9441b9f5dc88a73ac7f75267d382a8e4a29675f012b5d5646b", func := "compositor/compositorlaw36.DeadkeyPlays", spec := "deadkeyPlays", recurses := true, apart := false, narrowed := true }
def DeadkeyPlaysUptoSaid : Prop := deadkeyPlaysUptoRow.holds Try.pinned (OpenSpec.upto deadkeyPlaysSpec)

/-- 'compositorlaw36.DeadkeyLongestMatch', WHERE WHAT IT READS IS OF BULK AT MOST 1048576: true; the input reads as it did. -/
def deadkeyLongestMatchUptoRow : OpenClaim := { program := "ytbdcnoahalknkaa", sum := "5dc68b21a270af9441b9f5dc88a73ac7f75267d382a8e4a29675f012b5d5646b", func := "compositor/compositorlaw36.DeadkeyLongestMatch", spec := "deadkeyLongestMatch", recurses := true, apart := false, narrowed := true }
def DeadkeyLongestMatchUptoSaid : Prop := deadkeyLongestMatchUptoRow.holds Try.pinned (OpenSpec.upto deadkeyLongestMatchSpec)

/-- 'compositorlaw36.DeadkeyPending', WHERE WHAT IT READS IS OF BULK AT MOST 1048576: true; the input reads as it did. -/
def deadkeyPendingUptoRow : OpenClaim := { program := "ytbdcnoahalknkaa", sum := "5dc68b21a270af9441b9f5dc88a73ac7f75267d382a8e4a29675f012b5d5646b", func := "compositor/compositorlaw36.DeadkeyPending", spec := "deadkeyPending", recurses := true, apart := false, narrowed := true }
def DeadkeyPendingUptoSaid : Prop := deadkeyPendingUptoRow.holds Try.pinned (OpenSpec.upto deadkeyPendingSpec)

/-- 'compositorlaw36.DeadkeyRest', WHERE WHAT IT READS IS OF BULK AT MOST 1048576: true; the input reads as it did. -/
def deadkeyRestUptoRow : OpenClaim := { program := "ytbdcnoahalknkaa", sum := "5dc68b21a270af9441b9f5dc88a73ac7f75267d382a8e4a29675f012b5d5646b", func := "compositor/compositorlaw36.DeadkeyRest", spec := "deadkeyRest", recurses := true, apart := false, narrowed := true }
def DeadkeyRestUptoSaid : Prop := deadkeyRestUptoRow.holds Try.pinned (OpenSpec.upto deadkeyRestSpec)

/-- 'compositorlaw36.DeadkeyApart', WHERE WHAT IT READS IS OF BULK AT MOST 1048576: true; the input reads as it did. -/
def deadkeyApartUptoRow : OpenClaim := { program := "ytbdcnoahalknkaa", sum := "5dc68b21a270af9441b9f5dc88a73ac7f75267d382a8e4a29675f012b5d5646b", func := "compositor/compositorlaw36.DeadkeyApart", spec := "deadkeyApart", recurses := true, apart := false, narrowed := true }
def DeadkeyApartUptoSaid : Prop := deadkeyApartUptoRow.holds Try.pinned (OpenSpec.upto deadkeyApartSpec)

end Rows
end Go.Proofs.Ytbdcnoahalknkaa
