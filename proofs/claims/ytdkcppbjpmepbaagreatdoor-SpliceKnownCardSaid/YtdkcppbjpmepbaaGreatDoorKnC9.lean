/- SpliceKnown: stretch 9 of the closed run, by the kernel. -/
import Derived.Test.YtdkcppbjpmepbaaGreatDoorKnSum
import Derived.Test.YtdkcppbjpmepbaaGreatDoorKnStates
import Derived.Test.YtdkcppbjpmepbaaGreatDoorKnStates1
set_option linter.unusedVariables false
set_option linter.unusedSimpArgs false
namespace Go.Proofs.YtdkcppbjpmepbaaGreatDoor
open Go Go.Vm
set_option maxRecDepth 1000000
theorem c9 : runC (Mach.fast Tryz.prog fnsS 100000) [.run 3, .pop, .seg 3, .push, .run 3, .seg 0, .push, .run 3, .seg 0, .push, .run 10, .seg 1, .push, .run 19, .seg 1, .push, .run 3, .seg 1, .push, .run 10] cut8.cfg = cut9.fill (runC (Mach.fast Tryz.prog fnsS 100000) [.run 3, .pop, .seg 3, .push, .run 3, .seg 0, .push, .run 3, .seg 0, .push, .run 10, .seg 1, .push, .run 19, .seg 1, .push, .run 3, .seg 1, .push, .run 10] cut8.cfg) ∧
    agreeC lookF 19 cut9 (mkT cut9.hl) (runC (Mach.fast Tryz.prog fnsS 100000) [.run 3, .pop, .seg 3, .push, .run 3, .seg 0, .push, .run 3, .seg 0, .push, .run 10, .seg 1, .push, .run 19, .seg 1, .push, .run 3, .seg 1, .push, .run 10] cut8.cfg) = true := ⟨by kernel_rfl, by kernel_rfl⟩
end Go.Proofs.YtdkcppbjpmepbaaGreatDoor
