/- PiecesKnown: stretch 13 of the closed run, by the kernel. -/
import Derived.Test.YtmafhplaiagheacGreatDoorKnBase
import Derived.Test.YtmafhplaiagheacGreatDoorKnStates
import Derived.Test.YtmafhplaiagheacGreatDoorKnStates1
set_option linter.unusedVariables false
set_option linter.unusedSimpArgs false
namespace Go.Proofs.YtmafhplaiagheacGreatDoor
open Go Go.Vm
set_option maxRecDepth 1000000
theorem c13 : endOk (Mach.fast Tryz.prog fns 100000) (.bool true) (runC (Mach.fast Tryz.prog fns 100000) [.run 3, .pop, .seg 4, .push, .run 3, .seg 0, .push, .run 10, .seg 1, .push, .run 19, .seg 1, .push, .run 3, .seg 1, .push, .run 308, .pop, .seg 7, .fin, .run 131, .pop, .seg 6, .fin, .run 6, .seg 1, .push, .run 182, .pop, .seg 6, .fin, .run 14, .pop, .seg 4, .fin, .pop, .seg 5, .fin, .run 4, .pop, .seg 3, .fin] cut12.cfg) = true := by kernel_rfl
end Go.Proofs.YtmafhplaiagheacGreatDoor
