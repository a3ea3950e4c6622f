/- BackmapKnown: stretch 11 of the closed run, by the kernel. -/
import Derived.Test.YtmafhplaiagheaaGreatDoorKnBase
import Derived.Test.YtmafhplaiagheaaGreatDoorKnStates
set_option linter.unusedVariables false
set_option linter.unusedSimpArgs false
namespace Go.Proofs.YtmafhplaiagheaaGreatDoor
open Go Go.Vm
set_option maxRecDepth 1000000
theorem c11 : endOk (Mach.fast Tryz.prog fns 100000) (.bool true) (runC (Mach.fast Tryz.prog fns 100000) [.run 9] cut10.cfg) = true := by kernel_rfl
end Go.Proofs.YtmafhplaiagheaaGreatDoor
