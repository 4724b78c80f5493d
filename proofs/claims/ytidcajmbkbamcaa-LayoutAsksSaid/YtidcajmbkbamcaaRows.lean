/-
  No cell of these rows narrows 'for every input' (looked for: loops, veiled, ifaces, maps, wideKeys, modest, calm, conditions, laid).
  DERIVED. THE GIVEN ROWS OF THIS SEAT. 6 by the template 'for every input the law returns true; each argument reads behind the call as it read before'; 0 by the template 'total and deterministic' (their statements: YtidcajmbkbamcaaTotals.lean).
  GIVEN WITH THE SEED: the statements are not yours to turn. If you find one false, say at which input.
  Laid BY PROGRAM, IN A SANDBOX (cutbox-rows.mjs): the forced cells as the released guide's own fill.sh prints them over the translation e567ca415aae865b… (all of the seat's roots in one cut). By AI agents, Wed Nov 11 2026. No macro, syntax, notation, axiom, sorry.
-/
import Derived.Test.YtidcajmbkbamcaaChecked
import GoSem.Claim
import GoSem.ClaimJoined
import GoSem.ClaimMapViews
import Derived.JoinedTies
import Derived.KernelRfl
namespace Go.Proofs.Ytidcajmbkbamcaa
/- THE CELL 'sum', in the pinned program and in every row, IS THE sha256 OF THE DUMP (.gsa) THAT YtidcajmbkbamcaaProg.lean LOADS. Nothing in Lean hashes anything: it is a label: what it is worth is what the hold of that sum in a sandbox is worth. -/
noncomputable def Try.pinned : Pinned := { name := "ytidcajmbkbamcaa", sum := "e567ca415aae865b296c81aea2328abddef66d7450a3ee6f5743e68d4295e38d", checked := Try.checked }
namespace Rows
def none {H : Type} : Left H := { results := [], args := [] }

/-- 'compositorlaw24.LayoutChanges': WHATEVER THE INPUT: true; the input reads as it did. -/
def layoutChangesSpec : ChangeSpec := { name := "layoutChanges", fn := fun _ => fun
  | [d1, d2] => { results := [.lit (.bool true)], args := [d1, d2] }
  | _ => none }
def layoutChangesRow : OpenClaim := { program := "ytidcajmbkbamcaa", sum := "e567ca415aae865b296c81aea2328abddef66d7450a3ee6f5743e68d4295e38d", func := "compositor/compositorlaw24.LayoutChanges", spec := "layoutChanges", unfollowed := true, recurses := true, apart := false }
def LayoutChangesSaid : Prop := layoutChangesRow.holds Try.pinned (OpenSpec.ofChange layoutChangesSpec)

/-- ITS FALSE NEIGHBOUR: 'it returns false'. Refute it at one input. -/
def layoutChangesWrong : ChangeSpec := { name := "layoutChanges", fn := fun _ => fun
  | [d1, d2] => { results := [.lit (.bool false)], args := [d1, d2] }
  | _ => none }
def LayoutChangesWrongFalsely : Prop := layoutChangesRow.holds Try.pinned (OpenSpec.ofChange layoutChangesWrong)

/-- 'compositorlaw24.LayoutClamp': WHATEVER THE INPUT: true; the input reads as it did. -/
def layoutClampSpec : ChangeSpec := { name := "layoutClamp", fn := fun _ => fun
  | [d1, d2] => { results := [.lit (.bool true)], args := [d1, d2] }
  | _ => none }
def layoutClampRow : OpenClaim := { program := "ytidcajmbkbamcaa", sum := "e567ca415aae865b296c81aea2328abddef66d7450a3ee6f5743e68d4295e38d", func := "compositor/compositorlaw24.LayoutClamp", spec := "layoutClamp", unfollowed := true, recurses := true, apart := false }
def LayoutClampSaid : Prop := layoutClampRow.holds Try.pinned (OpenSpec.ofChange layoutClampSpec)

/-- ITS FALSE NEIGHBOUR: 'it returns false'. Refute it at one input. -/
def layoutClampWrong : ChangeSpec := { name := "layoutClamp", fn := fun _ => fun
  | [d1, d2] => { results := [.lit (.bool false)], args := [d1, d2] }
  | _ => none }
def LayoutClampWrongFalsely : Prop := layoutClampRow.holds Try.pinned (OpenSpec.ofChange layoutClampWrong)

/-- 'compositorlaw24.LayoutNearest': WHATEVER THE INPUT: true; the input reads as it did. -/
def layoutNearestSpec : ChangeSpec := { name := "layoutNearest", fn := fun _ => fun
  | [d1, d2, d3] => { results := [.lit (.bool true)], args := [d1, d2, d3] }
  | _ => none }
def layoutNearestRow : OpenClaim := { program := "ytidcajmbkbamcaa", sum := "e567ca415aae865b296c81aea2328abddef66d7450a3ee6f5743e68d4295e38d", func := "compositor/compositorlaw24.LayoutNearest", spec := "layoutNearest", unfollowed := true, recurses := true, apart := false }
def LayoutNearestSaid : Prop := layoutNearestRow.holds Try.pinned (OpenSpec.ofChange layoutNearestSpec)

/-- ITS FALSE NEIGHBOUR: 'it returns false'. Refute it at one input. -/
def layoutNearestWrong : ChangeSpec := { name := "layoutNearest", fn := fun _ => fun
  | [d1, d2, d3] => { results := [.lit (.bool false)], args := [d1, d2, d3] }
  | _ => none }
def LayoutNearestWrongFalsely : Prop := layoutNearestRow.holds Try.pinned (OpenSpec.ofChange layoutNearestWrong)

/-- 'compositorlaw24.LayoutRefused': WHATEVER THE INPUT: true; the input reads as it did. -/
def layoutRefusedSpec : ChangeSpec := { name := "layoutRefused", fn := fun _ => fun
  | [d1, d2] => { results := [.lit (.bool true)], args := [d1, d2] }
  | _ => none }
def layoutRefusedRow : OpenClaim := { program := "ytidcajmbkbamcaa", sum := "e567ca415aae865b296c81aea2328abddef66d7450a3ee6f5743e68d4295e38d", func := "compositor/compositorlaw24.LayoutRefused", spec := "layoutRefused", unfollowed := true, recurses := true, apart := false }
def LayoutRefusedSaid : Prop := layoutRefusedRow.holds Try.pinned (OpenSpec.ofChange layoutRefusedSpec)

/-- ITS FALSE NEIGHBOUR: 'it returns false'. Refute it at one input. -/
def layoutRefusedWrong : ChangeSpec := { name := "layoutRefused", fn := fun _ => fun
  | [d1, d2] => { results := [.lit (.bool false)], args := [d1, d2] }
  | _ => none }
def LayoutRefusedWrongFalsely : Prop := layoutRefusedRow.holds Try.pinned (OpenSpec.ofChange layoutRefusedWrong)

/-- 'compositorlaw24.LayoutAsks': WHATEVER THE INPUT: true; the input reads as it did. -/
def layoutAsksSpec : ChangeSpec := { name := "layoutAsks", fn := fun _ => fun
  | [d1, d2, d3] => { results := [.lit (.bool true)], args := [d1, d2, d3] }
  | _ => none }
def layoutAsksRow : OpenClaim := { program := "ytidcajmbkbamcaa", sum := "e567ca415aae865b296c81aea2328abddef66d7450a3ee6f5743e68d4295e38d", func := "compositor/compositorlaw24.LayoutAsks", spec := "layoutAsks", unfollowed := true, recurses := true, apart := false }
def LayoutAsksSaid : Prop := layoutAsksRow.holds Try.pinned (OpenSpec.ofChange layoutAsksSpec)

/-- ITS FALSE NEIGHBOUR: 'it returns false'. Refute it at one input. -/
def layoutAsksWrong : ChangeSpec := { name := "layoutAsks", fn := fun _ => fun
  | [d1, d2, d3] => { results := [.lit (.bool false)], args := [d1, d2, d3] }
  | _ => none }
def LayoutAsksWrongFalsely : Prop := layoutAsksRow.holds Try.pinned (OpenSpec.ofChange layoutAsksWrong)

/-- 'compositorlaw24.LayoutUnplug': WHATEVER THE INPUT: true; the input reads as it did. -/
def layoutUnplugSpec : ChangeSpec := { name := "layoutUnplug", fn := fun _ => fun
  | [d1, d2] => { results := [.lit (.bool true)], args := [d1, d2] }
  | _ => none }
def layoutUnplugRow : OpenClaim := { program := "ytidcajmbkbamcaa", sum := "e567ca415aae865b296c81aea2328abddef66d7450a3ee6f5743e68d4295e38d", func := "compositor/compositorlaw24.LayoutUnplug", spec := "layoutUnplug", unfollowed := true, recurses := true, apart := false }
def LayoutUnplugSaid : Prop := layoutUnplugRow.holds Try.pinned (OpenSpec.ofChange layoutUnplugSpec)

/-- ITS FALSE NEIGHBOUR: 'it returns false'. Refute it at one input. -/
def layoutUnplugWrong : ChangeSpec := { name := "layoutUnplug", fn := fun _ => fun
  | [d1, d2] => { results := [.lit (.bool false)], args := [d1, d2] }
  | _ => none }
def LayoutUnplugWrongFalsely : Prop := layoutUnplugRow.holds Try.pinned (OpenSpec.ofChange layoutUnplugWrong)

/- THE SECOND FORM. 'bulk': how many values and letters a reading holds, each counted each time it is reached (what is shared counts as often as it is met; a slice's spare places count too). A statement '..UptoSaid' is the law's where the arguments, and the package variables that the reading takes, are together of bulk at most 1048576: NARROWER than '..Said'. Prove '..Said' where nothing that the law and all that it calls make is longer than what came in: it says more and counts as full. Else prove '..UptoSaid'. A law counts once. -/
mutual
def uptoBulk {H : Type} : DataW H → Nat
  | .lit (.string bytes) => bytes.length + 1
  | .lit _ => 1
  | .nil => 1
  | .ptr d => uptoBulk d + 1
  | .slice elems spare => uptoBulkAll elems + uptoBulkAll spare + 1
  | .agg parts => uptoBulkAll parts + 1
  | .iface _ d => uptoBulk d + 1
  | .map entries => uptoBulkEntries entries + 1
  | .held _ => 1
def uptoBulkAll {H : Type} : List (DataW H) → Nat
  | [] => 0
  | d :: r => uptoBulk d + uptoBulkAll r
def uptoBulkEntries {H : Type} : List (Lit × DataW H) → Nat
  | [] => 0
  | x :: r => uptoBulkEntry x + uptoBulkEntries r
def uptoBulkEntry {H : Type} : Lit × DataW H → Nat
  | (.string bytes, d) => bytes.length + uptoBulk d + 1
  | (_, d) => uptoBulk d + 1
 end
def uptoSmall : (H : Type) → List (DataW H) → Bool := fun _ ds => decide (uptoBulkAll ds ≤ 1048576)
def OpenSpec.upto (s : _root_.Go.ChangeSpec) : _root_.Go.OpenSpec := { _root_.Go.OpenSpec.ofChange s with cond := some uptoSmall }

/-- 'compositorlaw24.LayoutChanges', WHERE WHAT IT READS IS OF BULK AT MOST 1048576: true; the input reads as it did. -/
def layoutChangesUptoRow : OpenClaim := { program := "ytidcajmbkbamcaa", sum := "e567ca415aae865b296c81aea2328abddef66d7450a3ee6f5743e68d4295e38d", func := "compositor/compositorlaw24.LayoutChanges", spec := "layoutChanges", unfollowed := true, recurses := true, apart := false, narrowed := true }
def LayoutChangesUptoSaid : Prop := layoutChangesUptoRow.holds Try.pinned (OpenSpec.upto layoutChangesSpec)

/-- 'compositorlaw24.LayoutClamp', WHERE WHAT IT READS IS OF BULK AT MOST 1048576: true; the input reads as it did. -/
def layoutClampUptoRow : OpenClaim := { program := "ytidcajmbkbamcaa", sum := "e567ca415aae865b296c81aea2328abddef66d7450a3ee6f5743e68d4295e38d", func := "compositor/compositorlaw24.LayoutClamp", spec := "layoutClamp", unfollowed := true, recurses := true, apart := false, narrowed := true }
def LayoutClampUptoSaid : Prop := layoutClampUptoRow.holds Try.pinned (OpenSpec.upto layoutClampSpec)

/-- 'compositorlaw24.LayoutNearest', WHERE WHAT IT READS IS OF BULK AT MOST 1048576: true; the input reads as it did. -/
def layoutNearestUptoRow : OpenClaim := { program := "ytidcajmbkbamcaa", sum := "e567ca415aae865b296c81aea2328abddef66d7450a3ee6f5743e68d4295e38d", func := "compositor/compositorlaw24.LayoutNearest", spec := "layoutNearest", unfollowed := true, recurses := true, apart := false, narrowed := true }
def LayoutNearestUptoSaid : Prop := layoutNearestUptoRow.holds Try.pinned (OpenSpec.upto layoutNearestSpec)

/-- 'compositorlaw24.LayoutRefused', WHERE WHAT IT READS IS OF BULK AT MOST 1048576: true; the input reads as it did. -/
def layoutRefusedUptoRow : OpenClaim := { program := "ytidcajmbkbamcaa", sum := "e567ca415aae865b296c81aea2328abddef66d7450a3ee6f5743e68d4295e38d", func := "compositor/compositorlaw24.LayoutRefused", spec := "layoutRefused", unfollowed := true, recurses := true, apart := false, narrowed := true }
def LayoutRefusedUptoSaid : Prop := layoutRefusedUptoRow.holds Try.pinned (OpenSpec.upto layoutRefusedSpec)

/-- 'compositorlaw24.LayoutAsks', WHERE WHAT IT READS IS OF BULK AT MOST 1048576: true; the input reads as it did. -/
def layoutAsksUptoRow : OpenClaim := { program := "ytidcajmbkbamcaa", sum := "e567ca415aae865b296c81aea2328abddef66d7450a3ee6f5743e68d4295e38d", func := "compositor/compositorlaw24.LayoutAsks", spec := "layoutAsks", unfollowed := true, recurses := true, apart := false, narrowed := true }
def LayoutAsksUptoSaid : Prop := layoutAsksUptoRow.holds Try.pinned (OpenSpec.upto layoutAsksSpec)

/-- 'compositorlaw24.LayoutUnplug', WHERE WHAT IT READS IS OF BULK AT MOST 1048576: true; the input reads as it did. -/
def layoutUnplugUptoRow : OpenClaim := { program := "ytidcajmbkbamcaa", sum := "e567ca415aae865b296c81aea2328abddef66d7450a3ee6f5743e68d4295e38d", func := "compositor/compositorlaw24.LayoutUnplug", spec := "layoutUnplug", unfollowed := true, recurses := true, apart := false, narrowed := true }
def LayoutUnplugUptoSaid : Prop := layoutUnplugUptoRow.holds Try.pinned (OpenSpec.upto layoutUnplugSpec)

end Rows
end Go.Proofs.Ytidcajmbkbamcaa
