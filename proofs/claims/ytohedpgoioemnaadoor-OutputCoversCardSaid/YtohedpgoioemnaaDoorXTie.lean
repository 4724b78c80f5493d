/-
  The table of products as the row's premise has it: a world that meets the premise. No conditions.
-/
import Derived.Test.YtohedpgoioemnaaDoorO12
import Derived.Test.YtohedpgoioemnaaDoorAbT
import Derived.Test.YtohedpgoioemnaaDoorXRow
import Derived.Test.YtohedpgoioemnaaDoorRows
import Derived.Test.YtohedpgoioemnaaDoorCards
import Derived.Test.YtohedpgoioemnaaDoorTie
import Derived.WalkKit
import Derived.ProofKit
import Derived.SevenTiedAt
import Derived.LaidHandle
namespace Go.Proofs.YtohedpgoioemnaaDoor
open Go Go.Ab Go.RowKit Go.ChangeShapes Go.WideShapes Go.ChangeAt
set_option linter.unusedSimpArgs false
set_option linter.unusedVariables false
set_option linter.unnecessarySimpa false


def tabCells : Array Value := (prodT.map (Value.int .i64)).toArray
noncomputable def laidWorld (os : Os) : World :=
  { World.holding Tryd.prog os ⟨#[], #[], []⟩ with heap := (World.holding Tryd.prog os ⟨#[], #[], []⟩).heap.modify 0 fun
      | .cells _ t frozen => .cells tabCells t frozen
      | o => o }
noncomputable def tabT : TypeId := ((Tryd.prog.globals[0]?).map (·.type)).getD 0
noncomputable def tabE : TypeId := match Tryd.prog.underlying tabT with
  | some (.array _ e) => e
  | _ => 0
theorem laidWorld_row (os : Os) (args : Array Value) : ((laidWorld os).forCall (fun _ _ => 0) ⟨#[], args, []⟩).memory.heap[0]? = some (.cells tabCells tabT (0, 0)) := by kernel_rfl
abbrev tabD {H : Type} : DataW H := .agg (prodT.map fun z => .lit (.int .i64 z))
theorem tabD_eq {H : Type} : (Rows.laid_compositor_transform_products : DataW H) = tabD := rfl
def tabPs : List MemPlace := MemPlace.row ⟨0, 0, none⟩ tabCells.size ++ [] ++ []
theorem tab_block {b off : Nat} (h : MemPlace.cell b off ∈ tabPs) : b = 0 := by
  have h1 : (tabPs.all fun x => match x with | .cell b _ => b == 0 | _ => true) = true := by kernel_rfl
  have := List.all_eq_true.1 h1 _ h
  simpa using this
theorem laidWorld_met (os : Os) (args : Array Value) : laidMet Tryd.prog [("compositor/transform.products", tabD)] ((laidWorld os).forCall (fun _ _ => 0) ⟨#[], args, []⟩).memory := by
  refine ⟨tabPs, ⟨0, tabT, tabCells, 8, [], [], by kernel_rfl, by kernel_rfl, by kernel_rfl, by kernel_rfl, rfl, rfl⟩, of_decide_eq_true (by kernel_rfl), fun b off h => ?_⟩
  obtain rfl := tab_block h
  refine ⟨⟨_, _, laidWorld_row os args⟩, fun u v hc => ?_⟩
  simp only [World.cell?, laidWorld_row os args] at hc
  have hc' : (prodT.map (Value.int .i64))[off]? = some (.iface u v) := by simpa [tabCells] using hc
  rw [List.getElem?_map] at hc'
  cases e : prodT[off]? with
  | none => rw [e] at hc'; cases hc'
  | some z => rw [e] at hc'; cases hc'
end Go.Proofs.YtohedpgoioemnaaDoor
