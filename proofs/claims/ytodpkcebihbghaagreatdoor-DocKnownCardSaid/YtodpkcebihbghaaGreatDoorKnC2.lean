/- DocKnown: stretch 2 of the closed run, by the kernel. -/
import Derived.Test.YtodpkcebihbghaaGreatDoorKnBig
import Derived.Test.YtodpkcebihbghaaGreatDoorKnStates
set_option linter.unusedVariables false
set_option linter.unusedSimpArgs false
namespace Go.Proofs.YtodpkcebihbghaaGreatDoor
open Go Go.Vm
set_option maxRecDepth 1000000
theorem c2 : runC (Mach.fast Tryz.prog fnsS 100000) [.run 234, .pop, .seg 7, .fin, .run 131, .pop, .seg 6, .fin, .run 6, .seg 8, .fin, .run 14, .pop, .seg 4, .fin, .pop, .seg 5, .fin, .run 2, .pop, .seg 7, .fin, .run 6, .seg 1, .push, .run 23, .pop, .seg 5, .fin, .run 5, .seg 1, .push, .run 22] cut1.cfg = cut2.fill (runC (Mach.fast Tryz.prog fnsS 100000) [.run 234, .pop, .seg 7, .fin, .run 131, .pop, .seg 6, .fin, .run 6, .seg 8, .fin, .run 14, .pop, .seg 4, .fin, .pop, .seg 5, .fin, .run 2, .pop, .seg 7, .fin, .run 6, .seg 1, .push, .run 23, .pop, .seg 5, .fin, .run 5, .seg 1, .push, .run 22] cut1.cfg) ∧
    agreeC lookF 19 cut2 (mkT cut2.hl) (runC (Mach.fast Tryz.prog fnsS 100000) [.run 234, .pop, .seg 7, .fin, .run 131, .pop, .seg 6, .fin, .run 6, .seg 8, .fin, .run 14, .pop, .seg 4, .fin, .pop, .seg 5, .fin, .run 2, .pop, .seg 7, .fin, .run 6, .seg 1, .push, .run 23, .pop, .seg 5, .fin, .run 5, .seg 1, .push, .run 22] cut1.cfg) = true := ⟨by kernel_rfl, by kernel_rfl⟩
end Go.Proofs.YtodpkcebihbghaaGreatDoor
