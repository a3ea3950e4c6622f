/- SpliceKnown: stretch 10 of the closed run, by the kernel. -/
import Derived.Test.YtdkcppbjpmepbaaGreatDoorKnSum
import Derived.Test.YtdkcppbjpmepbaaGreatDoorKnStates
import Derived.Test.YtdkcppbjpmepbaaGreatDoorKnStates1
set_option linter.unusedVariables false
set_option linter.unusedSimpArgs false
namespace Go.Proofs.YtdkcppbjpmepbaaGreatDoor
open Go Go.Vm
set_option maxRecDepth 1000000
theorem c10 : runC (Mach.fast Tryz.prog fnsS 100000) [.run 298, .pop, .seg 7, .fin, .run 131, .pop, .seg 6, .fin, .run 6, .seg 1, .push, .run 182, .pop, .seg 6, .fin, .run 14, .pop, .seg 4, .fin, .pop, .seg 5, .fin, .run 2, .pop, .seg 10, .fin, .run 2, .pop, .seg 1, .push, .run 3, .seg 0, .push, .run 3, .seg 0, .push, .run 10, .seg 1, .push, .run 19, .seg 1, .push, .run 3, .seg 1, .push, .run 308, .pop, .seg 7, .fin, .run 131, .pop, .seg 6, .fin, .run 6, .seg 1, .push, .run 4] cut9.cfg = cut10.fill (runC (Mach.fast Tryz.prog fnsS 100000) [.run 298, .pop, .seg 7, .fin, .run 131, .pop, .seg 6, .fin, .run 6, .seg 1, .push, .run 182, .pop, .seg 6, .fin, .run 14, .pop, .seg 4, .fin, .pop, .seg 5, .fin, .run 2, .pop, .seg 10, .fin, .run 2, .pop, .seg 1, .push, .run 3, .seg 0, .push, .run 3, .seg 0, .push, .run 10, .seg 1, .push, .run 19, .seg 1, .push, .run 3, .seg 1, .push, .run 308, .pop, .seg 7, .fin, .run 131, .pop, .seg 6, .fin, .run 6, .seg 1, .push, .run 4] cut9.cfg) ∧
    agreeC lookF 19 cut10 (mkT cut10.hl) (runC (Mach.fast Tryz.prog fnsS 100000) [.run 298, .pop, .seg 7, .fin, .run 131, .pop, .seg 6, .fin, .run 6, .seg 1, .push, .run 182, .pop, .seg 6, .fin, .run 14, .pop, .seg 4, .fin, .pop, .seg 5, .fin, .run 2, .pop, .seg 10, .fin, .run 2, .pop, .seg 1, .push, .run 3, .seg 0, .push, .run 3, .seg 0, .push, .run 10, .seg 1, .push, .run 19, .seg 1, .push, .run 3, .seg 1, .push, .run 308, .pop, .seg 7, .fin, .run 131, .pop, .seg 6, .fin, .run 6, .seg 1, .push, .run 4] cut9.cfg) = true := ⟨by kernel_rfl, by kernel_rfl⟩
end Go.Proofs.YtdkcppbjpmepbaaGreatDoor
