/- ParseKnown: stretch 3 of the closed run, by the kernel. -/
import Derived.Test.YtmkhdddeikoceaaGreatDoorKnBig
import Derived.Test.YtmkhdddeikoceaaGreatDoorKnStates
set_option linter.unusedVariables false
set_option linter.unusedSimpArgs false
namespace Go.Proofs.YtmkhdddeikoceaaGreatDoor
open Go Go.Vm
set_option maxRecDepth 1000000
theorem c3 : runC (Mach.fast Tryz.prog fnsS 100000) [.run 15, .pop, .seg 4, .fin, .pop, .seg 5, .fin, .run 4, .pop, .seg 7, .fin, .run 1, .seg 1, .push, .run 3, .seg 0, .push, .run 10, .seg 1, .push, .run 19, .seg 1, .push, .run 3, .seg 1, .push, .run 308, .pop, .seg 7, .fin, .run 131, .pop, .seg 6, .fin, .run 6, .seg 1, .push, .run 182, .pop, .seg 6, .fin, .run 14, .pop, .seg 4, .fin, .pop, .seg 5, .fin, .run 4, .pop, .seg 7, .fin, .run 1, .seg 1, .push, .run 3, .seg 0, .push, .run 3] cut2.cfg = cut3.fill (runC (Mach.fast Tryz.prog fnsS 100000) [.run 15, .pop, .seg 4, .fin, .pop, .seg 5, .fin, .run 4, .pop, .seg 7, .fin, .run 1, .seg 1, .push, .run 3, .seg 0, .push, .run 10, .seg 1, .push, .run 19, .seg 1, .push, .run 3, .seg 1, .push, .run 308, .pop, .seg 7, .fin, .run 131, .pop, .seg 6, .fin, .run 6, .seg 1, .push, .run 182, .pop, .seg 6, .fin, .run 14, .pop, .seg 4, .fin, .pop, .seg 5, .fin, .run 4, .pop, .seg 7, .fin, .run 1, .seg 1, .push, .run 3, .seg 0, .push, .run 3] cut2.cfg) ∧
    agreeC lookF 18 cut3 (mkT cut3.hl) (runC (Mach.fast Tryz.prog fnsS 100000) [.run 15, .pop, .seg 4, .fin, .pop, .seg 5, .fin, .run 4, .pop, .seg 7, .fin, .run 1, .seg 1, .push, .run 3, .seg 0, .push, .run 10, .seg 1, .push, .run 19, .seg 1, .push, .run 3, .seg 1, .push, .run 308, .pop, .seg 7, .fin, .run 131, .pop, .seg 6, .fin, .run 6, .seg 1, .push, .run 182, .pop, .seg 6, .fin, .run 14, .pop, .seg 4, .fin, .pop, .seg 5, .fin, .run 4, .pop, .seg 7, .fin, .run 1, .seg 1, .push, .run 3, .seg 0, .push, .run 3] cut2.cfg) = true := ⟨by kernel_rfl, by kernel_rfl⟩
end Go.Proofs.YtmkhdddeikoceaaGreatDoor
