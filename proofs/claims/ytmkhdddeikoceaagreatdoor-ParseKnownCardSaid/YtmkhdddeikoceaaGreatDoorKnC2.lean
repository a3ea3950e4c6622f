/- ParseKnown: stretch 2 of the closed run, by the kernel. -/
import Derived.Test.YtmkhdddeikoceaaGreatDoorKnBig
import Derived.Test.YtmkhdddeikoceaaGreatDoorKnStates
set_option linter.unusedVariables false
set_option linter.unusedSimpArgs false
namespace Go.Proofs.YtmkhdddeikoceaaGreatDoor
open Go Go.Vm
set_option maxRecDepth 1000000
theorem c2 : runC (Mach.fast Tryz.prog fnsS 100000) [.run 298, .pop, .seg 7, .fin, .run 131, .pop, .seg 6, .fin, .run 21, .pop, .seg 4, .fin, .pop, .seg 5, .fin, .run 4, .pop, .seg 7, .fin, .run 1, .seg 0, .push, .run 3, .seg 0, .push, .run 10, .seg 1, .push, .run 19, .seg 1, .push, .run 3, .seg 1, .push, .run 308, .pop, .seg 7, .fin, .run 131, .pop, .seg 6, .fin, .run 6] cut1.cfg = cut2.fill (runC (Mach.fast Tryz.prog fnsS 100000) [.run 298, .pop, .seg 7, .fin, .run 131, .pop, .seg 6, .fin, .run 21, .pop, .seg 4, .fin, .pop, .seg 5, .fin, .run 4, .pop, .seg 7, .fin, .run 1, .seg 0, .push, .run 3, .seg 0, .push, .run 10, .seg 1, .push, .run 19, .seg 1, .push, .run 3, .seg 1, .push, .run 308, .pop, .seg 7, .fin, .run 131, .pop, .seg 6, .fin, .run 6] cut1.cfg) ∧
    agreeC lookF 18 cut2 (mkT cut2.hl) (runC (Mach.fast Tryz.prog fnsS 100000) [.run 298, .pop, .seg 7, .fin, .run 131, .pop, .seg 6, .fin, .run 21, .pop, .seg 4, .fin, .pop, .seg 5, .fin, .run 4, .pop, .seg 7, .fin, .run 1, .seg 0, .push, .run 3, .seg 0, .push, .run 10, .seg 1, .push, .run 19, .seg 1, .push, .run 3, .seg 1, .push, .run 308, .pop, .seg 7, .fin, .run 131, .pop, .seg 6, .fin, .run 6] cut1.cfg) = true := ⟨by kernel_rfl, by kernel_rfl⟩
end Go.Proofs.YtmkhdddeikoceaaGreatDoor
