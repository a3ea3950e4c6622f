/- ParseKnown: stretch 6 of the closed run, by the kernel. -/
import Derived.Test.YtmkhdddeikoceaaGreatDoorKnBig
import Derived.Test.YtmkhdddeikoceaaGreatDoorKnStates
set_option linter.unusedVariables false
set_option linter.unusedSimpArgs false
namespace Go.Proofs.YtmkhdddeikoceaaGreatDoor
open Go Go.Vm
set_option maxRecDepth 1000000
theorem c6 : endOk (Mach.fast Tryz.prog fnsS 100000) (.bool true) (runC (Mach.fast Tryz.prog fnsS 100000) [.run 125, .pop, .seg 6, .fin, .run 6, .seg 1, .push, .run 182, .pop, .seg 6, .fin, .run 14, .pop, .seg 4, .fin, .pop, .seg 5, .fin, .run 1, .seg 2, .push, .run 16, .seg 2, .push, .run 100, .pop, .seg 4, .fin, .pop, .seg 6, .fin, .run 2, .pop, .seg 7, .fin, .run 2, .pop, .seg 84, .fin] cut5.cfg) = true := by kernel_rfl
end Go.Proofs.YtmkhdddeikoceaaGreatDoor
