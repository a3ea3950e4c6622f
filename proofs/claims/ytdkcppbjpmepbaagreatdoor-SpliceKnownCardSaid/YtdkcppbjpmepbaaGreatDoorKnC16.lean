/- SpliceKnown: stretch 16 of the closed run, by the kernel. -/
import Derived.Test.YtdkcppbjpmepbaaGreatDoorKnSum
import Derived.Test.YtdkcppbjpmepbaaGreatDoorKnStates
import Derived.Test.YtdkcppbjpmepbaaGreatDoorKnStates1
set_option linter.unusedVariables false
set_option linter.unusedSimpArgs false
namespace Go.Proofs.YtdkcppbjpmepbaaGreatDoor
open Go Go.Vm
set_option maxRecDepth 1000000
theorem c16 : runC (Mach.fast Tryz.prog fnsS 100000) [.run 8, .pop, .seg 2, .fin, .run 11, .seg 2, .push, .run 3, .seg 0, .push, .run 3, .seg 0, .push, .run 10, .seg 1, .push, .run 19, .seg 1, .push, .run 3, .seg 1, .push, .run 10] cut15.cfg = cut16.fill (runC (Mach.fast Tryz.prog fnsS 100000) [.run 8, .pop, .seg 2, .fin, .run 11, .seg 2, .push, .run 3, .seg 0, .push, .run 3, .seg 0, .push, .run 10, .seg 1, .push, .run 19, .seg 1, .push, .run 3, .seg 1, .push, .run 10] cut15.cfg) ∧
    agreeC lookF 19 cut16 (mkT cut16.hl) (runC (Mach.fast Tryz.prog fnsS 100000) [.run 8, .pop, .seg 2, .fin, .run 11, .seg 2, .push, .run 3, .seg 0, .push, .run 3, .seg 0, .push, .run 10, .seg 1, .push, .run 19, .seg 1, .push, .run 3, .seg 1, .push, .run 10] cut15.cfg) = true := ⟨by kernel_rfl, by kernel_rfl⟩
end Go.Proofs.YtdkcppbjpmepbaaGreatDoor
