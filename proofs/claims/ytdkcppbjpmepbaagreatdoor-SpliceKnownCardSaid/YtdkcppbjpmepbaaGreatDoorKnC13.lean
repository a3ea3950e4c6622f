/- SpliceKnown: stretch 13 of the closed run, by the kernel. -/
import Derived.Test.YtdkcppbjpmepbaaGreatDoorKnSum
import Derived.Test.YtdkcppbjpmepbaaGreatDoorKnStates
import Derived.Test.YtdkcppbjpmepbaaGreatDoorKnStates1
set_option linter.unusedVariables false
set_option linter.unusedSimpArgs false
namespace Go.Proofs.YtdkcppbjpmepbaaGreatDoor
open Go Go.Vm
set_option maxRecDepth 1000000
theorem c13 : runC (Mach.fast Tryz.prog fnsS 100000) [.run 8, .pop, .seg 4, .push, .run 3] cut12.cfg = cut13.fill (runC (Mach.fast Tryz.prog fnsS 100000) [.run 8, .pop, .seg 4, .push, .run 3] cut12.cfg) ∧
    agreeC lookF 19 cut13 (mkT cut13.hl) (runC (Mach.fast Tryz.prog fnsS 100000) [.run 8, .pop, .seg 4, .push, .run 3] cut12.cfg) = true := ⟨by kernel_rfl, by kernel_rfl⟩
end Go.Proofs.YtdkcppbjpmepbaaGreatDoor
