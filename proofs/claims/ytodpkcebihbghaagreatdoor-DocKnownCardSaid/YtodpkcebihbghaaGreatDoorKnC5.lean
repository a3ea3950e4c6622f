/- DocKnown: stretch 5 of the closed run, by the kernel. -/
import Derived.Test.YtodpkcebihbghaaGreatDoorKnBig
import Derived.Test.YtodpkcebihbghaaGreatDoorKnStates
set_option linter.unusedVariables false
set_option linter.unusedSimpArgs false
namespace Go.Proofs.YtodpkcebihbghaaGreatDoor
open Go Go.Vm
set_option maxRecDepth 1000000
theorem c5 : endOk (Mach.fast Tryz.prog fnsS 100000) (.bool true) (runC (Mach.fast Tryz.prog fnsS 100000) [.run 7] cut4.cfg) = true := by kernel_rfl
end Go.Proofs.YtodpkcebihbghaaGreatDoor
