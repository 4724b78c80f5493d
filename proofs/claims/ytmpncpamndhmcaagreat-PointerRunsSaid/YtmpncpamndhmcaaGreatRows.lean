/-
  No cell of these rows narrows 'for every input' (looked for: loops, veiled, ifaces, maps, wideKeys, modest, calm, conditions, laid).
  DERIVED. THE GIVEN ROWS OF THIS SEAT. 4 by the template 'for every input the law returns true; each argument reads behind the call as it read before'; 0 by the template 'total and deterministic' (their statements: YtmpncpamndhmcaaGreatTotals.lean).
  GIVEN WITH THE SEED: the statements are not yours to turn. If you find one false, say at which input.
  Laid BY PROGRAM, IN A SANDBOX (cutbox-rows.mjs): the forced cells as the released guide's own fill.sh prints them over the translation a3fece350651353d… (all of the seat's roots in one cut). By AI agents, Wed Nov 11 2026. No macro, syntax, notation, axiom, sorry.
-/
import Derived.Test.YtmpncpamndhmcaaGreatChecked
import GoSem.Claim
import GoSem.ClaimJoined
import GoSem.ClaimMapViews
import Derived.JoinedTies
import Derived.KernelRfl
namespace Go.Proofs.YtmpncpamndhmcaaGreat
/- THE CELL 'sum', in the pinned program and in every row, IS THE sha256 OF THE DUMP (.gsa) THAT YtmpncpamndhmcaaGreatProg.lean LOADS. Nothing in Lean hashes anything: it is a label: what it is worth is what the hold of that sum in a sandbox is worth. -/
noncomputable def Tryz.pinned : Pinned := { name := "ytmpncpamndhmcaagreat", sum := "a3fece350651353d0b860be22350c7d9ec5eb1937625ea798e2f7319349c5b48", checked := Tryz.checked }
namespace Rows
def none {H : Type} : Left H := { results := [], args := [] }

/-- 'compositorlaw34.PointerUniqueTarget': WHATEVER THE INPUT: true; the input reads as it did. -/
def pointerUniqueTargetSpec : ChangeSpec := { name := "pointerUniqueTarget", fn := fun _ => fun
  | [d] => { results := [.lit (.bool true)], args := [d] }
  | _ => none }
def pointerUniqueTargetRow : OpenClaim := { program := "ytmpncpamndhmcaagreat", sum := "a3fece350651353d0b860be22350c7d9ec5eb1937625ea798e2f7319349c5b48", func := "compositor/compositorlaw34.PointerUniqueTarget", spec := "pointerUniqueTarget", unfollowed := true, recurses := true, apart := false }
def PointerUniqueTargetSaid : Prop := pointerUniqueTargetRow.holds Tryz.pinned (OpenSpec.ofChange pointerUniqueTargetSpec)

/-- ITS FALSE NEIGHBOUR: 'it returns false'. Refute it at one input. -/
def pointerUniqueTargetWrong : ChangeSpec := { name := "pointerUniqueTarget", fn := fun _ => fun
  | [d] => { results := [.lit (.bool false)], args := [d] }
  | _ => none }
def PointerUniqueTargetWrongFalsely : Prop := pointerUniqueTargetRow.holds Tryz.pinned (OpenSpec.ofChange pointerUniqueTargetWrong)

/-- 'compositorlaw34.PointerImplicit': WHATEVER THE INPUT: true; the input reads as it did. -/
def pointerImplicitSpec : ChangeSpec := { name := "pointerImplicit", fn := fun _ => fun
  | [d] => { results := [.lit (.bool true)], args := [d] }
  | _ => none }
def pointerImplicitRow : OpenClaim := { program := "ytmpncpamndhmcaagreat", sum := "a3fece350651353d0b860be22350c7d9ec5eb1937625ea798e2f7319349c5b48", func := "compositor/compositorlaw34.PointerImplicit", spec := "pointerImplicit", unfollowed := true, recurses := true, apart := false }
def PointerImplicitSaid : Prop := pointerImplicitRow.holds Tryz.pinned (OpenSpec.ofChange pointerImplicitSpec)

/-- ITS FALSE NEIGHBOUR: 'it returns false'. Refute it at one input. -/
def pointerImplicitWrong : ChangeSpec := { name := "pointerImplicit", fn := fun _ => fun
  | [d] => { results := [.lit (.bool false)], args := [d] }
  | _ => none }
def PointerImplicitWrongFalsely : Prop := pointerImplicitRow.holds Tryz.pinned (OpenSpec.ofChange pointerImplicitWrong)

/-- 'compositorlaw34.PointerButtons': WHATEVER THE INPUT: true; the input reads as it did. -/
def pointerButtonsSpec : ChangeSpec := { name := "pointerButtons", fn := fun _ => fun
  | [d] => { results := [.lit (.bool true)], args := [d] }
  | _ => none }
def pointerButtonsRow : OpenClaim := { program := "ytmpncpamndhmcaagreat", sum := "a3fece350651353d0b860be22350c7d9ec5eb1937625ea798e2f7319349c5b48", func := "compositor/compositorlaw34.PointerButtons", spec := "pointerButtons", unfollowed := true, recurses := true, apart := false }
def PointerButtonsSaid : Prop := pointerButtonsRow.holds Tryz.pinned (OpenSpec.ofChange pointerButtonsSpec)

/-- ITS FALSE NEIGHBOUR: 'it returns false'. Refute it at one input. -/
def pointerButtonsWrong : ChangeSpec := { name := "pointerButtons", fn := fun _ => fun
  | [d] => { results := [.lit (.bool false)], args := [d] }
  | _ => none }
def PointerButtonsWrongFalsely : Prop := pointerButtonsRow.holds Tryz.pinned (OpenSpec.ofChange pointerButtonsWrong)

/-- 'compositorlaw34.PointerRuns': WHATEVER THE INPUT: true; the input reads as it did. -/
def pointerRunsSpec : ChangeSpec := { name := "pointerRuns", fn := fun _ => fun
  | [d] => { results := [.lit (.bool true)], args := [d] }
  | _ => none }
def pointerRunsRow : OpenClaim := { program := "ytmpncpamndhmcaagreat", sum := "a3fece350651353d0b860be22350c7d9ec5eb1937625ea798e2f7319349c5b48", func := "compositor/compositorlaw34.PointerRuns", spec := "pointerRuns", unfollowed := true, recurses := true, apart := false }
def PointerRunsSaid : Prop := pointerRunsRow.holds Tryz.pinned (OpenSpec.ofChange pointerRunsSpec)

/-- ITS FALSE NEIGHBOUR: 'it returns false'. Refute it at one input. -/
def pointerRunsWrong : ChangeSpec := { name := "pointerRuns", fn := fun _ => fun
  | [d] => { results := [.lit (.bool false)], args := [d] }
  | _ => none }
def PointerRunsWrongFalsely : Prop := pointerRunsRow.holds Tryz.pinned (OpenSpec.ofChange pointerRunsWrong)

/- THE SECOND FORM. 'bulk': how many values and letters a reading holds, each counted each time it is reached (what is shared counts as often as it is met; a slice's spare places count too). A statement '..UptoSaid' is the law's where the arguments, and the package variables that the reading takes, are together of bulk at most 1048576: NARROWER than '..Said'. Prove '..Said' where nothing that the law and all that it calls make is longer than what came in: it says more and counts as full. Else prove '..UptoSaid'. A law counts once. -/
mutual
def uptoBulk {H : Type} : DataW H → Nat
  | .lit (.string bytes) => bytes.length + 1
  | .lit _ => 1
  | .nil => 1
  | .ptr d => uptoBulk d + 1
  | .slice elems spare => uptoBulkAll elems + uptoBulkAll spare + 1
  | .agg parts => uptoBulkAll parts + 1
  | .iface _ d => uptoBulk d + 1
  | .map entries => uptoBulkEntries entries + 1
  | .held _ => 1
def uptoBulkAll {H : Type} : List (DataW H) → Nat
  | [] => 0
  | d :: r => uptoBulk d + uptoBulkAll r
def uptoBulkEntries {H : Type} : List (Lit × DataW H) → Nat
  | [] => 0
  | x :: r => uptoBulkEntry x + uptoBulkEntries r
def uptoBulkEntry {H : Type} : Lit × DataW H → Nat
  | (.string bytes, d) => bytes.length + uptoBulk d + 1
  | (_, d) => uptoBulk d + 1
 end
def uptoSmall : (H : Type) → List (DataW H) → Bool := fun _ ds => decide (uptoBulkAll ds ≤ 1048576)
def OpenSpec.upto (s : _root_.Go.ChangeSpec) : _root_.Go.OpenSpec := { _root_.Go.OpenSpec.ofChange s with cond := some uptoSmall }

/-- 'compositorlaw34.PointerUniqueTarget', WHERE WHAT IT READS IS OF BULK AT MOST 1048576: true; the input reads as it did. -/
def pointerUniqueTargetUptoRow : OpenClaim := { program := "ytmpncpamndhmcaagreat", sum := "a3fece350651353d0b860be22350c7d9ec5eb1937625ea798e2f7319349c5b48", func := "compositor/compositorlaw34.PointerUniqueTarget", spec := "pointerUniqueTarget", unfollowed := true, recurses := true, apart := false, narrowed := true }
def PointerUniqueTargetUptoSaid : Prop := pointerUniqueTargetUptoRow.holds Tryz.pinned (OpenSpec.upto pointerUniqueTargetSpec)

/-- 'compositorlaw34.PointerImplicit', WHERE WHAT IT READS IS OF BULK AT MOST 1048576: true; the input reads as it did. -/
def pointerImplicitUptoRow : OpenClaim := { program := "ytmpncpamndhmcaagreat", sum := "a3fece350651353d0b860be22350c7d9ec5eb1937625ea798e2f7319349c5b48", func := "compositor/compositorlaw34.PointerImplicit", spec := "pointerImplicit", unfollowed := true, recurses := true, apart := false, narrowed := true }
def PointerImplicitUptoSaid : Prop := pointerImplicitUptoRow.holds Tryz.pinned (OpenSpec.upto pointerImplicitSpec)

/-- 'compositorlaw34.PointerButtons', WHERE WHAT IT READS IS OF BULK AT MOST 1048576: true; the input reads as it did. -/
def pointerButtonsUptoRow : OpenClaim := { program := "ytmpncpamndhmcaagreat", sum := "a3fece350651353d0b860be22350c7d9ec5eb1937625ea798e2f7319349c5b48", func := "compositor/compositorlaw34.PointerButtons", spec := "pointerButtons", unfollowed := true, recurses := true, apart := false, narrowed := true }
def PointerButtonsUptoSaid : Prop := pointerButtonsUptoRow.holds Tryz.pinned (OpenSpec.upto pointerButtonsSpec)

/-- 'compositorlaw34.PointerRuns', WHERE WHAT IT READS IS OF BULK AT MOST 1048576: true; the input reads as it did. -/
def pointerRunsUptoRow : OpenClaim := { program := "ytmpncpamndhmcaagreat", sum := "a3fece350651353d0b860be22350c7d9ec5eb1937625ea798e2f7319349c5b48", func := "compositor/compositorlaw34.PointerRuns", spec := "pointerRuns", unfollowed := true, recurses := true, apart := false, narrowed := true }
def PointerRunsUptoSaid : Prop := pointerRunsUptoRow.holds Tryz.pinned (OpenSpec.upto pointerRunsSpec)

end Rows
end Go.Proofs.YtmpncpamndhmcaaGreat
