/- ChunkKnown: stretch 10 of the closed run, by the kernel. -/
import Derived.Test.YtcndpppeiolapaaGreatDoorKnBase
import Derived.Test.YtcndpppeiolapaaGreatDoorKnStates
set_option linter.unusedVariables false
set_option linter.unusedSimpArgs false
namespace Go.Proofs.YtcndpppeiolapaaGreatDoor
open Go Go.Vm
set_option maxRecDepth 1000000
theorem c10 : endOk (Mach.fast Tryz.prog fns 100000) (.bool true) (runC (Mach.fast Tryz.prog fns 100000) [.run 3] cut9.cfg) = true := by kernel_rfl
end Go.Proofs.YtcndpppeiolapaaGreatDoor
