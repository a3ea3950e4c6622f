/- DocKnown: stretch 3 of the closed run, by the kernel. -/
import Derived.Test.YtodpkcebihbghaaGreatDoorKnBig
import Derived.Test.YtodpkcebihbghaaGreatDoorKnStates
set_option linter.unusedVariables false
set_option linter.unusedSimpArgs false
namespace Go.Proofs.YtodpkcebihbghaaGreatDoor
open Go Go.Vm
set_option maxRecDepth 1000000
theorem c3 : runC (Mach.fast Tryz.prog fnsS 100000) [.run 1, .pop, .seg 5, .fin, .run 2, .pop, .seg 12, .fin, .run 3, .seg 1, .push, .run 23, .pop, .seg 5, .fin, .run 8, .seg 44] cut2.cfg = cut3.fill (runC (Mach.fast Tryz.prog fnsS 100000) [.run 1, .pop, .seg 5, .fin, .run 2, .pop, .seg 12, .fin, .run 3, .seg 1, .push, .run 23, .pop, .seg 5, .fin, .run 8, .seg 44] cut2.cfg) ∧
    agreeC lookF 19 cut3 (mkT cut3.hl) (runC (Mach.fast Tryz.prog fnsS 100000) [.run 1, .pop, .seg 5, .fin, .run 2, .pop, .seg 12, .fin, .run 3, .seg 1, .push, .run 23, .pop, .seg 5, .fin, .run 8, .seg 44] cut2.cfg) = true := ⟨by kernel_rfl, by kernel_rfl⟩
end Go.Proofs.YtodpkcebihbghaaGreatDoor
