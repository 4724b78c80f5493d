/-
  Two facts on the program that each row asks for. No conditions.
-/
import Derived.Test.YtkjkolacnpknoaaAbL
import Derived.Test.YtkjkolacnpknoaaProg
import Derived.KernelRfl
namespace Go.Proofs.Ytkjkolacnpknoaa
open Go Go.Ab Go.RowKit
set_option linter.unusedSimpArgs false
set_option linter.unusedVariables false
set_option linter.unnecessarySimpa false


theorem own : ownKnob Try.prog.godebug = none := by kernel_rfl
theorem laidOut : laidOutB Try.prog = true := by kernel_rfl
end Go.Proofs.Ytkjkolacnpknoaa
