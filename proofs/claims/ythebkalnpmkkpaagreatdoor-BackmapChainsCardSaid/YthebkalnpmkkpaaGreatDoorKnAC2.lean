/- BackmapChains: stretch 2 of the closed run, by the kernel. -/
import Derived.Test.YthebkalnpmkkpaaGreatDoorKnBase
import Derived.Test.YthebkalnpmkkpaaGreatDoorKnAStates
set_option linter.unusedVariables false
set_option linter.unusedSimpArgs false
namespace Go.Proofs.YthebkalnpmkkpaaGreatDoor
open Go Go.Vm
set_option maxRecDepth 1000000
theorem ac2 : endOk (Mach.fast Tryz.prog fns 100000) (.bool true) (runC (Mach.fast Tryz.prog fns 100000) [.run 344, .pop, .seg 5, .fin, .run 12, .pop, .seg 2, .fin] acut1.cfg) = true := by kernel_rfl
end Go.Proofs.YthebkalnpmkkpaaGreatDoor
