/- StackKnown: stretch 2 of the closed run, by the kernel. -/
import Derived.Test.YtbckpoddpghdcaaGreatDoorKnBase
import Derived.Test.YtbckpoddpghdcaaGreatDoorKnStates
set_option linter.unusedSimpArgs false
set_option linter.unusedVariables false
namespace Go.Proofs.YtbckpoddpghdcaaGreatDoor
open Go Go.Vm
set_option maxRecDepth 1000000
theorem c2 : runC (Mach.fast Tryz.prog fns 100000) [.run 2] cut1.cfg = cut2.fill (runC (Mach.fast Tryz.prog fns 100000) [.run 2] cut1.cfg) ∧
    agreeC lookF 19 cut2 (mkT cut2.hl) (runC (Mach.fast Tryz.prog fns 100000) [.run 2] cut1.cfg) = true := ⟨by kernel_rfl, by kernel_rfl⟩
end Go.Proofs.YtbckpoddpghdcaaGreatDoor
