/- SpliceKnown: stretch 18 of the closed run, by the kernel. -/
import Derived.Test.YtdkcppbjpmepbaaGreatDoorKnSum
import Derived.Test.YtdkcppbjpmepbaaGreatDoorKnStates
import Derived.Test.YtdkcppbjpmepbaaGreatDoorKnStates1
set_option linter.unusedVariables false
set_option linter.unusedSimpArgs false
namespace Go.Proofs.YtdkcppbjpmepbaaGreatDoor
open Go Go.Vm
set_option maxRecDepth 1000000
theorem c18 : endOk (Mach.fast Tryz.prog fnsS 100000) (.bool true) (runC (Mach.fast Tryz.prog fnsS 100000) [.run 1] cut17.cfg) = true := by kernel_rfl
end Go.Proofs.YtdkcppbjpmepbaaGreatDoor
