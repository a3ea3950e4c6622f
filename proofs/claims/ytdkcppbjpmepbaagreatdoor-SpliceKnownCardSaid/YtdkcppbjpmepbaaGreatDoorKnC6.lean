/- SpliceKnown: stretch 6 of the closed run, by the kernel. -/
import Derived.Test.YtdkcppbjpmepbaaGreatDoorKnSum
import Derived.Test.YtdkcppbjpmepbaaGreatDoorKnStates
import Derived.Test.YtdkcppbjpmepbaaGreatDoorKnStates1
set_option linter.unusedVariables false
set_option linter.unusedSimpArgs false
namespace Go.Proofs.YtdkcppbjpmepbaaGreatDoor
open Go Go.Vm
set_option maxRecDepth 1000000
theorem c6 : runC (Mach.fast Tryz.prog fnsS 100000) [.run 2] cut5.cfg = cut6.fill (runC (Mach.fast Tryz.prog fnsS 100000) [.run 2] cut5.cfg) ∧
    agreeC lookF 19 cut6 (mkT cut6.hl) (runC (Mach.fast Tryz.prog fnsS 100000) [.run 2] cut5.cfg) = true := ⟨by kernel_rfl, by kernel_rfl⟩
end Go.Proofs.YtdkcppbjpmepbaaGreatDoor
