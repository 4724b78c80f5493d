/-
  Two facts on the program that each row asks for. No conditions.
-/
import Derived.Test.YtmpncpamndhmcaaGreatAbL
import Derived.Test.YtmpncpamndhmcaaGreatProg
import Derived.KernelRfl
namespace Go.Proofs.YtmpncpamndhmcaaGreat
open Go Go.Ab Go.RowKit
set_option linter.unusedSimpArgs false
set_option linter.unusedVariables false
set_option linter.unnecessarySimpa false


theorem own : ownKnob Tryz.prog.godebug = none := by kernel_rfl
theorem laidOut : laidOutB Tryz.prog = true := by kernel_rfl
end Go.Proofs.YtmpncpamndhmcaaGreat
