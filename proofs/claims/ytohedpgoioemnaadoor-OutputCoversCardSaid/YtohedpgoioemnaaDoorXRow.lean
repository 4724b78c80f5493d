/-
  Two facts on the program that each row asks for. No conditions.
-/
import Derived.Test.YtohedpgoioemnaaDoorAbL
import Derived.Test.YtohedpgoioemnaaDoorProg
import Derived.KernelRfl
namespace Go.Proofs.YtohedpgoioemnaaDoor
open Go Go.Ab Go.RowKit
set_option linter.unusedSimpArgs false
set_option linter.unusedVariables false
set_option linter.unnecessarySimpa false


theorem own : ownKnob Tryd.prog.godebug = none := by kernel_rfl
theorem laidOut : laidOutB Tryd.prog = true := by kernel_rfl
end Go.Proofs.YtohedpgoioemnaaDoor
