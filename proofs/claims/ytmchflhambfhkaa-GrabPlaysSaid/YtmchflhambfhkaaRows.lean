/-
  No cell of these rows narrows 'for every input' (looked for: loops, veiled, ifaces, maps, wideKeys, modest, calm, conditions, laid).
  DERIVED. THE GIVEN ROWS OF THIS SEAT. 7 by the template 'for every input the law returns true; each argument reads behind the call as it read before'; 0 by the template 'total and deterministic' (their statements: YtmchflhambfhkaaTotals.lean).
  GIVEN WITH THE SEED: the statements are not yours to turn. If you find one false, say at which input.
  Laid BY PROGRAM, IN A SANDBOX (cutbox-rows.mjs): the forced cells as the released guide's own fill.sh prints them over the translation e8983cf47976c1f2… (all of the seat's roots in one cut). By AI agents, Wed Nov 11 2026. No macro, syntax, notation, axiom, sorry.
-/
import Derived.Test.YtmchflhambfhkaaChecked
import GoSem.Claim
import GoSem.ClaimJoined
import GoSem.ClaimMapViews
import Derived.JoinedTies
import Derived.KernelRfl
namespace Go.Proofs.Ytmchflhambfhkaa
/- THE CELL 'sum', in the pinned program and in every row, IS THE sha256 OF THE DUMP (.gsa) THAT YtmchflhambfhkaaProg.lean LOADS. Nothing in Lean hashes anything: it is a label: what it is worth is what the hold of that sum in a sandbox is worth. -/
noncomputable def Try.pinned : Pinned := { name := "ytmchflhambfhkaa", sum := "e8983cf47976c1f2df6afd887e2ee5540e1c68f3c3846164ea27c2901b2aee2e", checked := Try.checked }
namespace Rows
def none {H : Type} : Left H := { results := [], args := [] }

/-- 'compositorlaw33.GrabPlays': WHATEVER THE INPUT: true; the input reads as it did. -/
def grabPlaysSpec : ChangeSpec := { name := "grabPlays", fn := fun _ => fun
  | [d1, d2] => { results := [.lit (.bool true)], args := [d1, d2] }
  | _ => none }
def grabPlaysRow : OpenClaim := { program := "ytmchflhambfhkaa", sum := "e8983cf47976c1f2df6afd887e2ee5540e1c68f3c3846164ea27c2901b2aee2e", func := "compositor/compositorlaw33.GrabPlays", spec := "grabPlays", apart := false }
def GrabPlaysSaid : Prop := grabPlaysRow.holds Try.pinned (OpenSpec.ofChange grabPlaysSpec)

/-- ITS FALSE NEIGHBOUR: 'it returns false'. Refute it at one input. -/
def grabPlaysWrong : ChangeSpec := { name := "grabPlays", fn := fun _ => fun
  | [d1, d2] => { results := [.lit (.bool false)], args := [d1, d2] }
  | _ => none }
def GrabPlaysWrongFalsely : Prop := grabPlaysRow.holds Try.pinned (OpenSpec.ofChange grabPlaysWrong)

/-- 'compositorlaw33.GrabDelivery': WHATEVER THE INPUT: true; the input reads as it did. -/
def grabDeliverySpec : ChangeSpec := { name := "grabDelivery", fn := fun _ => fun
  | [d1, d2] => { results := [.lit (.bool true)], args := [d1, d2] }
  | _ => none }
def grabDeliveryRow : OpenClaim := { program := "ytmchflhambfhkaa", sum := "e8983cf47976c1f2df6afd887e2ee5540e1c68f3c3846164ea27c2901b2aee2e", func := "compositor/compositorlaw33.GrabDelivery", spec := "grabDelivery", apart := false }
def GrabDeliverySaid : Prop := grabDeliveryRow.holds Try.pinned (OpenSpec.ofChange grabDeliverySpec)

/-- ITS FALSE NEIGHBOUR: 'it returns false'. Refute it at one input. -/
def grabDeliveryWrong : ChangeSpec := { name := "grabDelivery", fn := fun _ => fun
  | [d1, d2] => { results := [.lit (.bool false)], args := [d1, d2] }
  | _ => none }
def GrabDeliveryWrongFalsely : Prop := grabDeliveryRow.holds Try.pinned (OpenSpec.ofChange grabDeliveryWrong)

/-- 'compositorlaw33.GrabChain': WHATEVER THE INPUT: true; the input reads as it did. -/
def grabChainSpec : ChangeSpec := { name := "grabChain", fn := fun _ => fun
  | [d1, d2, d3] => { results := [.lit (.bool true)], args := [d1, d2, d3] }
  | _ => none }
def grabChainRow : OpenClaim := { program := "ytmchflhambfhkaa", sum := "e8983cf47976c1f2df6afd887e2ee5540e1c68f3c3846164ea27c2901b2aee2e", func := "compositor/compositorlaw33.GrabChain", spec := "grabChain", apart := false }
def GrabChainSaid : Prop := grabChainRow.holds Try.pinned (OpenSpec.ofChange grabChainSpec)

/-- ITS FALSE NEIGHBOUR: 'it returns false'. Refute it at one input. -/
def grabChainWrong : ChangeSpec := { name := "grabChain", fn := fun _ => fun
  | [d1, d2, d3] => { results := [.lit (.bool false)], args := [d1, d2, d3] }
  | _ => none }
def GrabChainWrongFalsely : Prop := grabChainRow.holds Try.pinned (OpenSpec.ofChange grabChainWrong)

/-- 'compositorlaw33.GrabOutside': WHATEVER THE INPUT: true; the input reads as it did. -/
def grabOutsideSpec : ChangeSpec := { name := "grabOutside", fn := fun _ => fun
  | [d1, d2, d3] => { results := [.lit (.bool true)], args := [d1, d2, d3] }
  | _ => none }
def grabOutsideRow : OpenClaim := { program := "ytmchflhambfhkaa", sum := "e8983cf47976c1f2df6afd887e2ee5540e1c68f3c3846164ea27c2901b2aee2e", func := "compositor/compositorlaw33.GrabOutside", spec := "grabOutside", apart := false }
def GrabOutsideSaid : Prop := grabOutsideRow.holds Try.pinned (OpenSpec.ofChange grabOutsideSpec)

/-- ITS FALSE NEIGHBOUR: 'it returns false'. Refute it at one input. -/
def grabOutsideWrong : ChangeSpec := { name := "grabOutside", fn := fun _ => fun
  | [d1, d2, d3] => { results := [.lit (.bool false)], args := [d1, d2, d3] }
  | _ => none }
def GrabOutsideWrongFalsely : Prop := grabOutsideRow.holds Try.pinned (OpenSpec.ofChange grabOutsideWrong)

/-- 'compositorlaw33.GrabRefused': WHATEVER THE INPUT: true; the input reads as it did. -/
def grabRefusedSpec : ChangeSpec := { name := "grabRefused", fn := fun _ => fun
  | [d1, d2] => { results := [.lit (.bool true)], args := [d1, d2] }
  | _ => none }
def grabRefusedRow : OpenClaim := { program := "ytmchflhambfhkaa", sum := "e8983cf47976c1f2df6afd887e2ee5540e1c68f3c3846164ea27c2901b2aee2e", func := "compositor/compositorlaw33.GrabRefused", spec := "grabRefused", apart := false }
def GrabRefusedSaid : Prop := grabRefusedRow.holds Try.pinned (OpenSpec.ofChange grabRefusedSpec)

/-- ITS FALSE NEIGHBOUR: 'it returns false'. Refute it at one input. -/
def grabRefusedWrong : ChangeSpec := { name := "grabRefused", fn := fun _ => fun
  | [d1, d2] => { results := [.lit (.bool false)], args := [d1, d2] }
  | _ => none }
def GrabRefusedWrongFalsely : Prop := grabRefusedRow.holds Try.pinned (OpenSpec.ofChange grabRefusedWrong)

/-- 'compositorlaw33.GrabSingle': WHATEVER THE INPUT: true; the input reads as it did. -/
def grabSingleSpec : ChangeSpec := { name := "grabSingle", fn := fun _ => fun
  | [d1, d2, d3] => { results := [.lit (.bool true)], args := [d1, d2, d3] }
  | _ => none }
def grabSingleRow : OpenClaim := { program := "ytmchflhambfhkaa", sum := "e8983cf47976c1f2df6afd887e2ee5540e1c68f3c3846164ea27c2901b2aee2e", func := "compositor/compositorlaw33.GrabSingle", spec := "grabSingle", apart := false }
def GrabSingleSaid : Prop := grabSingleRow.holds Try.pinned (OpenSpec.ofChange grabSingleSpec)

/-- ITS FALSE NEIGHBOUR: 'it returns false'. Refute it at one input. -/
def grabSingleWrong : ChangeSpec := { name := "grabSingle", fn := fun _ => fun
  | [d1, d2, d3] => { results := [.lit (.bool false)], args := [d1, d2, d3] }
  | _ => none }
def GrabSingleWrongFalsely : Prop := grabSingleRow.holds Try.pinned (OpenSpec.ofChange grabSingleWrong)

/-- 'compositorlaw33.GrabNil': WHATEVER THE INPUT: true; the input reads as it did. -/
def grabNilSpec : ChangeSpec := { name := "grabNil", fn := fun _ => fun
  | [d] => { results := [.lit (.bool true)], args := [d] }
  | _ => none }
def grabNilRow : OpenClaim := { program := "ytmchflhambfhkaa", sum := "e8983cf47976c1f2df6afd887e2ee5540e1c68f3c3846164ea27c2901b2aee2e", func := "compositor/compositorlaw33.GrabNil", spec := "grabNil", apart := false }
def GrabNilSaid : Prop := grabNilRow.holds Try.pinned (OpenSpec.ofChange grabNilSpec)

/-- ITS FALSE NEIGHBOUR: 'it returns false'. Refute it at one input. -/
def grabNilWrong : ChangeSpec := { name := "grabNil", fn := fun _ => fun
  | [d] => { results := [.lit (.bool false)], args := [d] }
  | _ => none }
def GrabNilWrongFalsely : Prop := grabNilRow.holds Try.pinned (OpenSpec.ofChange grabNilWrong)

/- THE SECOND FORM. 'bulk': how many values and letters a reading holds, each counted each time it is reached (what is shared counts as often as it is met; a slice's spare places count too). A statement '..UptoSaid' is the law's where the arguments, and the package variables that the reading takes, are together of bulk at most 1048576: NARROWER than '..Said'. Prove '..Said' where nothing that the law and all that it calls make is longer than what came in: it says more and counts as full. Else prove '..UptoSaid'. A law counts once. -/
mutual
def uptoBulk {H : Type} : DataW H → Nat
  | .lit (.string bytes) => bytes.length + 1
  | .lit _ => 1
  | .nil => 1
  | .ptr d => uptoBulk d + 1
  | .slice elems spare => uptoBulkAll elems + uptoBulkAll spare + 1
  | .agg parts => uptoBulkAll parts + 1
  | .iface _ d => uptoBulk d + 1
  | .map entries => uptoBulkEntries entries + 1
  | .held _ => 1
def uptoBulkAll {H : Type} : List (DataW H) → Nat
  | [] => 0
  | d :: r => uptoBulk d + uptoBulkAll r
def uptoBulkEntries {H : Type} : List (Lit × DataW H) → Nat
  | [] => 0
  | x :: r => uptoBulkEntry x + uptoBulkEntries r
def uptoBulkEntry {H : Type} : Lit × DataW H → Nat
  | (.string bytes, d) => bytes.length + uptoBulk d + 1
  | (_, d) => uptoBulk d + 1
 end
def uptoSmall : (H : Type) → List (DataW H) → Bool := fun _ ds => decide (uptoBulkAll ds ≤ 1048576)
def OpenSpec.upto (s : _root_.Go.ChangeSpec) : _root_.Go.OpenSpec := { _root_.Go.OpenSpec.ofChange s with cond := some uptoSmall }

/-- 'compositorlaw33.GrabPlays', WHERE WHAT IT READS IS OF BULK AT MOST 1048576: true; the input reads as it did. -/
def grabPlaysUptoRow : OpenClaim := { program := "ytmchflhambfhkaa", sum := "e8983cf47976c1f2df6afd887e2ee5540e1c68f3c3846164ea27c2901b2aee2e", func := "compositor/compositorlaw33.GrabPlays", spec := "grabPlays", apart := false, narrowed := true }
def GrabPlaysUptoSaid : Prop := grabPlaysUptoRow.holds Try.pinned (OpenSpec.upto grabPlaysSpec)

/-- 'compositorlaw33.GrabDelivery', WHERE WHAT IT READS IS OF BULK AT MOST 1048576: true; the input reads as it did. -/
def grabDeliveryUptoRow : OpenClaim := { program := "ytmchflhambfhkaa", sum := "e8983cf47976c1f2df6afd887e2ee5540e1c68f3c3846164ea27c2901b2aee2e", func := "compositor/compositorlaw33.GrabDelivery", spec := "grabDelivery", apart := false, narrowed := true }
def GrabDeliveryUptoSaid : Prop := grabDeliveryUptoRow.holds Try.pinned (OpenSpec.upto grabDeliverySpec)

/-- 'compositorlaw33.GrabChain', WHERE WHAT IT READS IS OF BULK AT MOST 1048576: true; the input reads as it did. -/
def grabChainUptoRow : OpenClaim := { program := "ytmchflhambfhkaa", sum := "e8983cf47976c1f2df6afd887e2ee5540e1c68f3c3846164ea27c2901b2aee2e", func := "compositor/compositorlaw33.GrabChain", spec := "grabChain", apart := false, narrowed := true }
def GrabChainUptoSaid : Prop := grabChainUptoRow.holds Try.pinned (OpenSpec.upto grabChainSpec)

/-- 'compositorlaw33.GrabOutside', WHERE WHAT IT READS IS OF BULK AT MOST 1048576: true; the input reads as it did. -/
def grabOutsideUptoRow : OpenClaim := { program := "ytmchflhambfhkaa", sum := "e8983cf47976c1f2df6afd887e2ee5540e1c68f3c3846164ea27c2901b2aee2e", func := "compositor/compositorlaw33.GrabOutside", spec := "grabOutside", apart := false, narrowed := true }
def GrabOutsideUptoSaid : Prop := grabOutsideUptoRow.holds Try.pinned (OpenSpec.upto grabOutsideSpec)

/-- 'compositorlaw33.GrabRefused', WHERE WHAT IT READS IS OF BULK AT MOST 1048576: true; the input reads as it did. -/
def grabRefusedUptoRow : OpenClaim := { program := "ytmchflhambfhkaa", sum := "e8983cf47976c1f2df6afd887e2ee5540e1c68f3c3846164ea27c2901b2aee2e", func := "compositor/compositorlaw33.GrabRefused", spec := "grabRefused", apart := false, narrowed := true }
def GrabRefusedUptoSaid : Prop := grabRefusedUptoRow.holds Try.pinned (OpenSpec.upto grabRefusedSpec)

/-- 'compositorlaw33.GrabSingle', WHERE WHAT IT READS IS OF BULK AT MOST 1048576: true; the input reads as it did. -/
def grabSingleUptoRow : OpenClaim := { program := "ytmchflhambfhkaa", sum := "e8983cf47976c1f2df6afd887e2ee5540e1c68f3c3846164ea27c2901b2aee2e", func := "compositor/compositorlaw33.GrabSingle", spec := "grabSingle", apart := false, narrowed := true }
def GrabSingleUptoSaid : Prop := grabSingleUptoRow.holds Try.pinned (OpenSpec.upto grabSingleSpec)

/-- 'compositorlaw33.GrabNil', WHERE WHAT IT READS IS OF BULK AT MOST 1048576: true; the input reads as it did. -/
def grabNilUptoRow : OpenClaim := { program := "ytmchflhambfhkaa", sum := "e8983cf47976c1f2df6afd887e2ee5540e1c68f3c3846164ea27c2901b2aee2e", func := "compositor/compositorlaw33.GrabNil", spec := "grabNil", apart := false, narrowed := true }
def GrabNilUptoSaid : Prop := grabNilUptoRow.holds Try.pinned (OpenSpec.upto grabNilSpec)

end Rows
end Go.Proofs.Ytmchflhambfhkaa
