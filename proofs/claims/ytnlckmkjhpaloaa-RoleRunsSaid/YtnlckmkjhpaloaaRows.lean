/-
  No cell of these rows narrows 'for every input' (looked for: loops, veiled, ifaces, maps, wideKeys, modest, calm, conditions, laid).
  DERIVED. THE GIVEN ROWS OF THIS SEAT. 6 by the template 'for every input the law returns true; each argument reads behind the call as it read before'; 0 by the template 'total and deterministic' (their statements: YtnlckmkjhpaloaaTotals.lean).
  GIVEN WITH THE SEED: the statements are not yours to turn. If you find one false, say at which input.
  Laid BY PROGRAM, IN A SANDBOX (cutbox-rows.mjs): the forced cells as the released guide's own fill.sh prints them over the translation 5327ca744d423e52… (all of the seat's roots in one cut). By AI agents, Wed Nov 11 2026. No macro, syntax, notation, axiom, sorry.
-/
import Derived.Test.YtnlckmkjhpaloaaChecked
import GoSem.Claim
import GoSem.ClaimJoined
import GoSem.ClaimMapViews
import Derived.JoinedTies
import Derived.KernelRfl
namespace Go.Proofs.Ytnlckmkjhpaloaa
/- THE CELL 'sum', in the pinned program and in every row, IS THE sha256 OF THE DUMP (.gsa) THAT YtnlckmkjhpaloaaProg.lean LOADS. Nothing in Lean hashes anything: it is a label: what it is worth is what the hold of that sum in a sandbox is worth. -/
noncomputable def Try.pinned : Pinned := { name := "ytnlckmkjhpaloaa", sum := "5327ca744d423e52a2ccbf22f1fde1d2b6ad8ea0a0e55b88d0490239415f5a59", checked := Try.checked }
namespace Rows
def none {H : Type} : Left H := { results := [], args := [] }

/-- 'compositorlaw19.RoleRuns': WHATEVER THE INPUT: true; the input reads as it did. -/
def roleRunsSpec : ChangeSpec := { name := "roleRuns", fn := fun _ => fun
  | [d] => { results := [.lit (.bool true)], args := [d] }
  | _ => none }
def roleRunsRow : OpenClaim := { program := "ytnlckmkjhpaloaa", sum := "5327ca744d423e52a2ccbf22f1fde1d2b6ad8ea0a0e55b88d0490239415f5a59", func := "compositor/compositorlaw19.RoleRuns", spec := "roleRuns", recurses := true, apart := false }
def RoleRunsSaid : Prop := roleRunsRow.holds Try.pinned (OpenSpec.ofChange roleRunsSpec)

/-- ITS FALSE NEIGHBOUR: 'it returns false'. Refute it at one input. -/
def roleRunsWrong : ChangeSpec := { name := "roleRuns", fn := fun _ => fun
  | [d] => { results := [.lit (.bool false)], args := [d] }
  | _ => none }
def RoleRunsWrongFalsely : Prop := roleRunsRow.holds Try.pinned (OpenSpec.ofChange roleRunsWrong)

/-- 'compositorlaw19.RoleForever': WHATEVER THE INPUT: true; the input reads as it did. -/
def roleForeverSpec : ChangeSpec := { name := "roleForever", fn := fun _ => fun
  | [d1, d2, d3] => { results := [.lit (.bool true)], args := [d1, d2, d3] }
  | _ => none }
def roleForeverRow : OpenClaim := { program := "ytnlckmkjhpaloaa", sum := "5327ca744d423e52a2ccbf22f1fde1d2b6ad8ea0a0e55b88d0490239415f5a59", func := "compositor/compositorlaw19.RoleForever", spec := "roleForever", recurses := true, apart := false }
def RoleForeverSaid : Prop := roleForeverRow.holds Try.pinned (OpenSpec.ofChange roleForeverSpec)

/-- ITS FALSE NEIGHBOUR: 'it returns false'. Refute it at one input. -/
def roleForeverWrong : ChangeSpec := { name := "roleForever", fn := fun _ => fun
  | [d1, d2, d3] => { results := [.lit (.bool false)], args := [d1, d2, d3] }
  | _ => none }
def RoleForeverWrongFalsely : Prop := roleForeverRow.holds Try.pinned (OpenSpec.ofChange roleForeverWrong)

/-- 'compositorlaw19.RoleTurns': WHATEVER THE INPUT: true; the input reads as it did. -/
def roleTurnsSpec : ChangeSpec := { name := "roleTurns", fn := fun _ => fun
  | [d1, d2, d3] => { results := [.lit (.bool true)], args := [d1, d2, d3] }
  | _ => none }
def roleTurnsRow : OpenClaim := { program := "ytnlckmkjhpaloaa", sum := "5327ca744d423e52a2ccbf22f1fde1d2b6ad8ea0a0e55b88d0490239415f5a59", func := "compositor/compositorlaw19.RoleTurns", spec := "roleTurns", recurses := true, apart := false }
def RoleTurnsSaid : Prop := roleTurnsRow.holds Try.pinned (OpenSpec.ofChange roleTurnsSpec)

/-- ITS FALSE NEIGHBOUR: 'it returns false'. Refute it at one input. -/
def roleTurnsWrong : ChangeSpec := { name := "roleTurns", fn := fun _ => fun
  | [d1, d2, d3] => { results := [.lit (.bool false)], args := [d1, d2, d3] }
  | _ => none }
def RoleTurnsWrongFalsely : Prop := roleTurnsRow.holds Try.pinned (OpenSpec.ofChange roleTurnsWrong)

/-- 'compositorlaw19.RoleLists': WHATEVER THE INPUT: true; the input reads as it did. -/
def roleListsSpec : ChangeSpec := { name := "roleLists", fn := fun _ => fun
  | [d1, d2] => { results := [.lit (.bool true)], args := [d1, d2] }
  | _ => none }
def roleListsRow : OpenClaim := { program := "ytnlckmkjhpaloaa", sum := "5327ca744d423e52a2ccbf22f1fde1d2b6ad8ea0a0e55b88d0490239415f5a59", func := "compositor/compositorlaw19.RoleLists", spec := "roleLists", recurses := true, apart := false }
def RoleListsSaid : Prop := roleListsRow.holds Try.pinned (OpenSpec.ofChange roleListsSpec)

/-- ITS FALSE NEIGHBOUR: 'it returns false'. Refute it at one input. -/
def roleListsWrong : ChangeSpec := { name := "roleLists", fn := fun _ => fun
  | [d1, d2] => { results := [.lit (.bool false)], args := [d1, d2] }
  | _ => none }
def RoleListsWrongFalsely : Prop := roleListsRow.holds Try.pinned (OpenSpec.ofChange roleListsWrong)

/-- 'compositorlaw19.RoleSeparate': WHATEVER THE INPUT: true; the input reads as it did. -/
def roleSeparateSpec : ChangeSpec := { name := "roleSeparate", fn := fun _ => fun
  | [d1, d2] => { results := [.lit (.bool true)], args := [d1, d2] }
  | _ => none }
def roleSeparateRow : OpenClaim := { program := "ytnlckmkjhpaloaa", sum := "5327ca744d423e52a2ccbf22f1fde1d2b6ad8ea0a0e55b88d0490239415f5a59", func := "compositor/compositorlaw19.RoleSeparate", spec := "roleSeparate", recurses := true, apart := false }
def RoleSeparateSaid : Prop := roleSeparateRow.holds Try.pinned (OpenSpec.ofChange roleSeparateSpec)

/-- ITS FALSE NEIGHBOUR: 'it returns false'. Refute it at one input. -/
def roleSeparateWrong : ChangeSpec := { name := "roleSeparate", fn := fun _ => fun
  | [d1, d2] => { results := [.lit (.bool false)], args := [d1, d2] }
  | _ => none }
def RoleSeparateWrongFalsely : Prop := roleSeparateRow.holds Try.pinned (OpenSpec.ofChange roleSeparateWrong)

/-- 'compositorlaw19.RoleNil': WHATEVER THE INPUT: true; the input reads as it did. -/
def roleNilSpec : ChangeSpec := { name := "roleNil", fn := fun _ => fun
  | [d] => { results := [.lit (.bool true)], args := [d] }
  | _ => none }
def roleNilRow : OpenClaim := { program := "ytnlckmkjhpaloaa", sum := "5327ca744d423e52a2ccbf22f1fde1d2b6ad8ea0a0e55b88d0490239415f5a59", func := "compositor/compositorlaw19.RoleNil", spec := "roleNil", recurses := true, apart := false }
def RoleNilSaid : Prop := roleNilRow.holds Try.pinned (OpenSpec.ofChange roleNilSpec)

/-- ITS FALSE NEIGHBOUR: 'it returns false'. Refute it at one input. -/
def roleNilWrong : ChangeSpec := { name := "roleNil", fn := fun _ => fun
  | [d] => { results := [.lit (.bool false)], args := [d] }
  | _ => none }
def RoleNilWrongFalsely : Prop := roleNilRow.holds Try.pinned (OpenSpec.ofChange roleNilWrong)

/- THE SECOND FORM. 'bulk': how many values and letters a reading holds, each counted each time it is reached (what is shared counts as often as it is met; a slice's spare places count too). A statement '..UptoSaid' is the law's where the arguments, and the package variables that the reading takes, are together of bulk at most 1048576: NARROWER than '..Said'. Prove '..Said' where nothing that the law and all that it calls make is longer than what came in: it says more and counts as full. Else prove '..UptoSaid'. A law counts once. -/
mutual
def uptoBulk {H : Type} : DataW H → Nat
  | .lit (.string bytes) => bytes.length + 1
  | .lit _ => 1
  | .nil => 1
  | .ptr d => uptoBulk d + 1
  | .slice elems spare => uptoBulkAll elems + uptoBulkAll spare + 1
  | .agg parts => uptoBulkAll parts + 1
  | .iface _ d => uptoBulk d + 1
  | .map entries => uptoBulkEntries entries + 1
  | .held _ => 1
def uptoBulkAll {H : Type} : List (DataW H) → Nat
  | [] => 0
  | d :: r => uptoBulk d + uptoBulkAll r
def uptoBulkEntries {H : Type} : List (Lit × DataW H) → Nat
  | [] => 0
  | x :: r => uptoBulkEntry x + uptoBulkEntries r
def uptoBulkEntry {H : Type} : Lit × DataW H → Nat
  | (.string bytes, d) => bytes.length + uptoBulk d + 1
  | (_, d) => uptoBulk d + 1
 end
def uptoSmall : (H : Type) → List (DataW H) → Bool := fun _ ds => decide (uptoBulkAll ds ≤ 1048576)
def OpenSpec.upto (s : _root_.Go.ChangeSpec) : _root_.Go.OpenSpec := { _root_.Go.OpenSpec.ofChange s with cond := some uptoSmall }

/-- 'compositorlaw19.RoleRuns', WHERE WHAT IT READS IS OF BULK AT MOST 1048576: true; the input reads as it did. -/
def roleRunsUptoRow : OpenClaim := { program := "ytnlckmkjhpaloaa", sum := "5327ca744d423e52a2ccbf22f1fde1d2b6ad8ea0a0e55b88d0490239415f5a59", func := "compositor/compositorlaw19.RoleRuns", spec := "roleRuns", recurses := true, apart := false, narrowed := true }
def RoleRunsUptoSaid : Prop := roleRunsUptoRow.holds Try.pinned (OpenSpec.upto roleRunsSpec)

/-- 'compositorlaw19.RoleForever', WHERE WHAT IT READS IS OF BULK AT MOST 1048576: true; the input reads as it did. -/
def roleForeverUptoRow : OpenClaim := { program := "ytnlckmkjhpaloaa", sum := "5327ca744d423e52a2ccbf22f1fde1d2b6ad8ea0a0e55b88d0490239415f5a59", func := "compositor/compositorlaw19.RoleForever", spec := "roleForever", recurses := true, apart := false, narrowed := true }
def RoleForeverUptoSaid : Prop := roleForeverUptoRow.holds Try.pinned (OpenSpec.upto roleForeverSpec)

/-- 'compositorlaw19.RoleTurns', WHERE WHAT IT READS IS OF BULK AT MOST 1048576: true; the input reads as it did. -/
def roleTurnsUptoRow : OpenClaim := { program := "ytnlckmkjhpaloaa", sum := "5327ca744d423e52a2ccbf22f1fde1d2b6ad8ea0a0e55b88d0490239415f5a59", func := "compositor/compositorlaw19.RoleTurns", spec := "roleTurns", recurses := true, apart := false, narrowed := true }
def RoleTurnsUptoSaid : Prop := roleTurnsUptoRow.holds Try.pinned (OpenSpec.upto roleTurnsSpec)

/-- 'compositorlaw19.RoleLists', WHERE WHAT IT READS IS OF BULK AT MOST 1048576: true; the input reads as it did. -/
def roleListsUptoRow : OpenClaim := { program := "ytnlckmkjhpaloaa", sum := "5327ca744d423e52a2ccbf22f1fde1d2b6ad8ea0a0e55b88d0490239415f5a59", func := "compositor/compositorlaw19.RoleLists", spec := "roleLists", recurses := true, apart := false, narrowed := true }
def RoleListsUptoSaid : Prop := roleListsUptoRow.holds Try.pinned (OpenSpec.upto roleListsSpec)

/-- 'compositorlaw19.RoleSeparate', WHERE WHAT IT READS IS OF BULK AT MOST 1048576: true; the input reads as it did. -/
def roleSeparateUptoRow : OpenClaim := { program := "ytnlckmkjhpaloaa", sum := "5327ca744d423e52a2ccbf22f1fde1d2b6ad8ea0a0e55b88d0490239415f5a59", func := "compositor/compositorlaw19.RoleSeparate", spec := "roleSeparate", recurses := true, apart := false, narrowed := true }
def RoleSeparateUptoSaid : Prop := roleSeparateUptoRow.holds Try.pinned (OpenSpec.upto roleSeparateSpec)

/-- 'compositorlaw19.RoleNil', WHERE WHAT IT READS IS OF BULK AT MOST 1048576: true; the input reads as it did. -/
def roleNilUptoRow : OpenClaim := { program := "ytnlckmkjhpaloaa", sum := "5327ca744d423e52a2ccbf22f1fde1d2b6ad8ea0a0e55b88d0490239415f5a59", func := "compositor/compositorlaw19.RoleNil", spec := "roleNil", recurses := true, apart := false, narrowed := true }
def RoleNilUptoSaid : Prop := roleNilUptoRow.holds Try.pinned (OpenSpec.upto roleNilSpec)

end Rows
end Go.Proofs.Ytnlckmkjhpaloaa
