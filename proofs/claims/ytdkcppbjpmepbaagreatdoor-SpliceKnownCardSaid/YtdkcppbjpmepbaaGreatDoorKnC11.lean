/- SpliceKnown: stretch 11 of the closed run, by the kernel. -/
import Derived.Test.YtdkcppbjpmepbaaGreatDoorKnSum
import Derived.Test.YtdkcppbjpmepbaaGreatDoorKnStates
import Derived.Test.YtdkcppbjpmepbaaGreatDoorKnStates1
set_option linter.unusedVariables false
set_option linter.unusedSimpArgs false
namespace Go.Proofs.YtdkcppbjpmepbaaGreatDoor
open Go Go.Vm
set_option maxRecDepth 1000000
theorem c11 : runC (Mach.fast Tryz.prog fnsS 100000) [.run 178, .pop, .seg 6, .fin, .run 14, .pop, .seg 4, .fin, .pop, .seg 5, .fin, .run 2, .pop, .seg 10, .fin, .run 2, .pop, .push, .run 6, .pop, .seg 4, .push, .run 3, .seg 0, .push, .run 3, .seg 0, .push, .run 3] cut10.cfg = cut11.fill (runC (Mach.fast Tryz.prog fnsS 100000) [.run 178, .pop, .seg 6, .fin, .run 14, .pop, .seg 4, .fin, .pop, .seg 5, .fin, .run 2, .pop, .seg 10, .fin, .run 2, .pop, .push, .run 6, .pop, .seg 4, .push, .run 3, .seg 0, .push, .run 3, .seg 0, .push, .run 3] cut10.cfg) ∧
    agreeC lookF 19 cut11 (mkT cut11.hl) (runC (Mach.fast Tryz.prog fnsS 100000) [.run 178, .pop, .seg 6, .fin, .run 14, .pop, .seg 4, .fin, .pop, .seg 5, .fin, .run 2, .pop, .seg 10, .fin, .run 2, .pop, .push, .run 6, .pop, .seg 4, .push, .run 3, .seg 0, .push, .run 3, .seg 0, .push, .run 3] cut10.cfg) = true := ⟨by kernel_rfl, by kernel_rfl⟩
end Go.Proofs.YtdkcppbjpmepbaaGreatDoor
