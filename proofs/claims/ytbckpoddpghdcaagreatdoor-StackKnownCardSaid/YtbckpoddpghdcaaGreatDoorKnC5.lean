/- StackKnown: stretch 5 of the closed run, by the kernel. -/
import Derived.Test.YtbckpoddpghdcaaGreatDoorKnBase
import Derived.Test.YtbckpoddpghdcaaGreatDoorKnStates
set_option linter.unusedSimpArgs false
set_option linter.unusedVariables false
namespace Go.Proofs.YtbckpoddpghdcaaGreatDoor
open Go Go.Vm
set_option maxRecDepth 1000000
theorem c5 : endOk (Mach.fast Tryz.prog fns 100000) (.bool true) (runC (Mach.fast Tryz.prog fns 100000) [.run 139, .pop, .seg 7, .fin, .run 131, .pop, .seg 6, .fin, .run 6, .seg 1, .push, .run 182, .pop, .seg 6, .fin, .run 14, .pop, .seg 4, .fin, .pop, .seg 5, .fin, .run 2, .pop, .seg 8, .fin, .run 6, .pop, .seg 5, .fin, .run 40] cut4.cfg) = true := by kernel_rfl
end Go.Proofs.YtbckpoddpghdcaaGreatDoor
