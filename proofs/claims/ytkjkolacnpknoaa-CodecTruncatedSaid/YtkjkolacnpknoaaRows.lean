/-
  No cell of these rows narrows 'for every input' (looked for: loops, veiled, ifaces, maps, wideKeys, modest, calm, conditions, laid).
  DERIVED. THE GIVEN ROWS OF THIS SEAT. 5 by the template 'for every input the law returns true; each argument reads behind the call as it read before'; 0 by the template 'total and deterministic' (their statements: YtkjkolacnpknoaaTotals.lean).
  GIVEN WITH THE SEED: the statements are not yours to turn. If you find one false, say at which input.
  Laid BY PROGRAM, IN A SANDBOX (cutbox-rows.mjs): the forced cells as the released guide's own fill.sh prints them over the translation 4a931d7b669aa3b0… (all of the seat's roots in one cut). By AI agents, Wed Nov 11 2026. No macro, syntax, notation, axiom, sorry.
-/
import Derived.Test.YtkjkolacnpknoaaChecked
import GoSem.Claim
import GoSem.ClaimJoined
import GoSem.ClaimMapViews
import Derived.JoinedTies
import Derived.KernelRfl
namespace Go.Proofs.Ytkjkolacnpknoaa
/- THE CELL 'sum', in the pinned program and in every row, IS THE sha256 OF THE DUMP (.gsa) THAT YtkjkolacnpknoaaProg.lean LOADS. Nothing in Lean hashes anything: it is a label: what it is worth is what the hold of that sum in a sandbox is worth. -/
noncomputable def Try.pinned : Pinned := { name := "ytkjkolacnpknoaa", sum := "4a931d7b669aa3b0229def7695315a98119d3268e0c96e1635b7f0f2e5b4c0ae", checked := Try.checked }
namespace Rows
def none {H : Type} : Left H := { results := [], args := [] }

/-- 'compositorlaw44.CodecRuns': WHATEVER THE INPUT: true; the input reads as it did. -/
def codecRunsSpec : ChangeSpec := { name := "codecRuns", fn := fun _ => fun
  | [d1, d2, d3] => { results := [.lit (.bool true)], args := [d1, d2, d3] }
  | _ => none }
def codecRunsRow : OpenClaim := { program := "ytkjkolacnpknoaa", sum := "4a931d7b669aa3b0229def7695315a98119d3268e0c96e1635b7f0f2e5b4c0ae", func := "compositor/compositorlaw44.CodecRuns", spec := "codecRuns", unfollowed := true, recurses := true, apart := false }
def CodecRunsSaid : Prop := codecRunsRow.holds Try.pinned (OpenSpec.ofChange codecRunsSpec)

/-- ITS FALSE NEIGHBOUR: 'it returns false'. Refute it at one input. -/
def codecRunsWrong : ChangeSpec := { name := "codecRuns", fn := fun _ => fun
  | [d1, d2, d3] => { results := [.lit (.bool false)], args := [d1, d2, d3] }
  | _ => none }
def CodecRunsWrongFalsely : Prop := codecRunsRow.holds Try.pinned (OpenSpec.ofChange codecRunsWrong)

/-- 'compositorlaw44.CodecRunsRoundTrip': WHATEVER THE INPUT: true; the input reads as it did. -/
def codecRunsRoundTripSpec : ChangeSpec := { name := "codecRunsRoundTrip", fn := fun _ => fun
  | [d1, d2] => { results := [.lit (.bool true)], args := [d1, d2] }
  | _ => none }
def codecRunsRoundTripRow : OpenClaim := { program := "ytkjkolacnpknoaa", sum := "4a931d7b669aa3b0229def7695315a98119d3268e0c96e1635b7f0f2e5b4c0ae", func := "compositor/compositorlaw44.CodecRunsRoundTrip", spec := "codecRunsRoundTrip", unfollowed := true, recurses := true, apart := false }
def CodecRunsRoundTripSaid : Prop := codecRunsRoundTripRow.holds Try.pinned (OpenSpec.ofChange codecRunsRoundTripSpec)

/-- ITS FALSE NEIGHBOUR: 'it returns false'. Refute it at one input. -/
def codecRunsRoundTripWrong : ChangeSpec := { name := "codecRunsRoundTrip", fn := fun _ => fun
  | [d1, d2] => { results := [.lit (.bool false)], args := [d1, d2] }
  | _ => none }
def CodecRunsRoundTripWrongFalsely : Prop := codecRunsRoundTripRow.holds Try.pinned (OpenSpec.ofChange codecRunsRoundTripWrong)

/-- 'compositorlaw44.CodecCanonical': WHATEVER THE INPUT: true; the input reads as it did. -/
def codecCanonicalSpec : ChangeSpec := { name := "codecCanonical", fn := fun _ => fun
  | [d1, d2] => { results := [.lit (.bool true)], args := [d1, d2] }
  | _ => none }
def codecCanonicalRow : OpenClaim := { program := "ytkjkolacnpknoaa", sum := "4a931d7b669aa3b0229def7695315a98119d3268e0c96e1635b7f0f2e5b4c0ae", func := "compositor/compositorlaw44.CodecCanonical", spec := "codecCanonical", unfollowed := true, recurses := true, apart := false }
def CodecCanonicalSaid : Prop := codecCanonicalRow.holds Try.pinned (OpenSpec.ofChange codecCanonicalSpec)

/-- ITS FALSE NEIGHBOUR: 'it returns false'. Refute it at one input. -/
def codecCanonicalWrong : ChangeSpec := { name := "codecCanonical", fn := fun _ => fun
  | [d1, d2] => { results := [.lit (.bool false)], args := [d1, d2] }
  | _ => none }
def CodecCanonicalWrongFalsely : Prop := codecCanonicalRow.holds Try.pinned (OpenSpec.ofChange codecCanonicalWrong)

/-- 'compositorlaw44.CodecTruncated': WHATEVER THE INPUT: true; the input reads as it did. -/
def codecTruncatedSpec : ChangeSpec := { name := "codecTruncated", fn := fun _ => fun
  | [d1, d2, d3] => { results := [.lit (.bool true)], args := [d1, d2, d3] }
  | _ => none }
def codecTruncatedRow : OpenClaim := { program := "ytkjkolacnpknoaa", sum := "4a931d7b669aa3b0229def7695315a98119d3268e0c96e1635b7f0f2e5b4c0ae", func := "compositor/compositorlaw44.CodecTruncated", spec := "codecTruncated", unfollowed := true, recurses := true, apart := false }
def CodecTruncatedSaid : Prop := codecTruncatedRow.holds Try.pinned (OpenSpec.ofChange codecTruncatedSpec)

/-- ITS FALSE NEIGHBOUR: 'it returns false'. Refute it at one input. -/
def codecTruncatedWrong : ChangeSpec := { name := "codecTruncated", fn := fun _ => fun
  | [d1, d2, d3] => { results := [.lit (.bool false)], args := [d1, d2, d3] }
  | _ => none }
def CodecTruncatedWrongFalsely : Prop := codecTruncatedRow.holds Try.pinned (OpenSpec.ofChange codecTruncatedWrong)

/-- 'compositorlaw44.CodecRoundTrip': WHATEVER THE INPUT: true; the input reads as it did. -/
def codecRoundTripSpec : ChangeSpec := { name := "codecRoundTrip", fn := fun _ => fun
  | [d1, d2] => { results := [.lit (.bool true)], args := [d1, d2] }
  | _ => none }
def codecRoundTripRow : OpenClaim := { program := "ytkjkolacnpknoaa", sum := "4a931d7b669aa3b0229def7695315a98119d3268e0c96e1635b7f0f2e5b4c0ae", func := "compositor/compositorlaw44.CodecRoundTrip", spec := "codecRoundTrip", unfollowed := true, recurses := true, apart := false }
def CodecRoundTripSaid : Prop := codecRoundTripRow.holds Try.pinned (OpenSpec.ofChange codecRoundTripSpec)

/-- ITS FALSE NEIGHBOUR: 'it returns false'. Refute it at one input. -/
def codecRoundTripWrong : ChangeSpec := { name := "codecRoundTrip", fn := fun _ => fun
  | [d1, d2] => { results := [.lit (.bool false)], args := [d1, d2] }
  | _ => none }
def CodecRoundTripWrongFalsely : Prop := codecRoundTripRow.holds Try.pinned (OpenSpec.ofChange codecRoundTripWrong)

/- THE SECOND FORM. 'bulk': how many values and letters a reading holds, each counted each time it is reached (what is shared counts as often as it is met; a slice's spare places count too). A statement '..UptoSaid' is the law's where the arguments, and the package variables that the reading takes, are together of bulk at most 1048576: NARROWER than '..Said'. Prove '..Said' where nothing that the law and all that it calls make is longer than what came in: it says more and counts as full. Else prove '..UptoSaid'. A law counts once. -/
mutual
def uptoBulk {H : Type} : DataW H → Nat
  | .lit (.string bytes) => bytes.length + 1
  | .lit _ => 1
  | .nil => 1
  | .ptr d => uptoBulk d + 1
  | .slice elems spare => uptoBulkAll elems + uptoBulkAll spare + 1
  | .agg parts => uptoBulkAll parts + 1
  | .iface _ d => uptoBulk d + 1
  | .map entries => uptoBulkEntries entries + 1
  | .held _ => 1
def uptoBulkAll {H : Type} : List (DataW H) → Nat
  | [] => 0
  | d :: r => uptoBulk d + uptoBulkAll r
def uptoBulkEntries {H : Type} : List (Lit × DataW H) → Nat
  | [] => 0
  | x :: r => uptoBulkEntry x + uptoBulkEntries r
def uptoBulkEntry {H : Type} : Lit × DataW H → Nat
  | (.string bytes, d) => bytes.length + uptoBulk d + 1
  | (_, d) => uptoBulk d + 1
 end
def uptoSmall : (H : Type) → List (DataW H) → Bool := fun _ ds => decide (uptoBulkAll ds ≤ 1048576)
def OpenSpec.upto (s : _root_.Go.ChangeSpec) : _root_.Go.OpenSpec := { _root_.Go.OpenSpec.ofChange s with cond := some uptoSmall }

/-- 'compositorlaw44.CodecRuns', WHERE WHAT IT READS IS OF BULK AT MOST 1048576: true; the input reads as it did. -/
def codecRunsUptoRow : OpenClaim := { program := "ytkjkolacnpknoaa", sum := "4a931d7b669aa3b0229def7695315a98119d3268e0c96e1635b7f0f2e5b4c0ae", func := "compositor/compositorlaw44.CodecRuns", spec := "codecRuns", unfollowed := true, recurses := true, apart := false, narrowed := true }
def CodecRunsUptoSaid : Prop := codecRunsUptoRow.holds Try.pinned (OpenSpec.upto codecRunsSpec)

/-- 'compositorlaw44.CodecRunsRoundTrip', WHERE WHAT IT READS IS OF BULK AT MOST 1048576: true; the input reads as it did. -/
def codecRunsRoundTripUptoRow : OpenClaim := { program := "ytkjkolacnpknoaa", sum := "4a931d7b669aa3b0229def7695315a98119d3268e0c96e1635b7f0f2e5b4c0ae", func := "compositor/compositorlaw44.CodecRunsRoundTrip", spec := "codecRunsRoundTrip", unfollowed := true, recurses := true, apart := false, narrowed := true }
def CodecRunsRoundTripUptoSaid : Prop := codecRunsRoundTripUptoRow.holds Try.pinned (OpenSpec.upto codecRunsRoundTripSpec)

/-- 'compositorlaw44.CodecCanonical', WHERE WHAT IT READS IS OF BULK AT MOST 1048576: true; the input reads as it did. -/
def codecCanonicalUptoRow : OpenClaim := { program := "ytkjkolacnpknoaa", sum := "4a931d7b669aa3b0229def7695315a98119d3268e0c96e1635b7f0f2e5b4c0ae", func := "compositor/compositorlaw44.CodecCanonical", spec := "codecCanonical", unfollowed := true, recurses := true, apart := false, narrowed := true }
def CodecCanonicalUptoSaid : Prop := codecCanonicalUptoRow.holds Try.pinned (OpenSpec.upto codecCanonicalSpec)

/-- 'compositorlaw44.CodecTruncated', WHERE WHAT IT READS IS OF BULK AT MOST 1048576: true; the input reads as it did. -/
def codecTruncatedUptoRow : OpenClaim := { program := "ytkjkolacnpknoaa", sum := "4a931d7b669aa3b0229def7695315a98119d3268e0c96e1635b7f0f2e5b4c0ae", func := "compositor/compositorlaw44.CodecTruncated", spec := "codecTruncated", unfollowed := true, recurses := true, apart := false, narrowed := true }
def CodecTruncatedUptoSaid : Prop := codecTruncatedUptoRow.holds Try.pinned (OpenSpec.upto codecTruncatedSpec)

/-- 'compositorlaw44.CodecRoundTrip', WHERE WHAT IT READS IS OF BULK AT MOST 1048576: true; the input reads as it did. -/
def codecRoundTripUptoRow : OpenClaim := { program := "ytkjkolacnpknoaa", sum := "4a931d7b669aa3b0229def7695315a98119d3268e0c96e1635b7f0f2e5b4c0ae", func := "compositor/compositorlaw44.CodecRoundTrip", spec := "codecRoundTrip", unfollowed := true, recurses := true, apart := false, narrowed := true }
def CodecRoundTripUptoSaid : Prop := codecRoundTripUptoRow.holds Try.pinned (OpenSpec.upto codecRoundTripSpec)

end Rows
end Go.Proofs.Ytkjkolacnpknoaa
