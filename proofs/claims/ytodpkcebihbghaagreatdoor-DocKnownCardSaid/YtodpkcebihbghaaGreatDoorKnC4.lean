/- DocKnown: stretch 4 of the closed run, by the kernel. -/
import Derived.Test.YtodpkcebihbghaaGreatDoorKnBig
import Derived.Test.YtodpkcebihbghaaGreatDoorKnStates
set_option linter.unusedVariables false
set_option linter.unusedSimpArgs false
namespace Go.Proofs.YtodpkcebihbghaaGreatDoor
open Go Go.Vm
set_option maxRecDepth 1000000
theorem c4 : runC (Mach.fast Tryz.prog fnsS 100000) [.seg 12, .fin, .run 3, .seg 0, .push, .run 3, .seg 0, .push, .run 10, .seg 1, .push, .run 19, .seg 1, .push, .run 3, .seg 1, .push, .run 308, .pop, .seg 7, .fin, .run 131, .pop, .seg 6, .fin, .run 6, .seg 1, .push, .run 182, .pop, .seg 6, .fin, .run 14, .pop, .seg 4, .fin, .pop, .seg 5, .fin, .run 2, .pop, .seg 7, .fin, .run 3] cut3.cfg = cut4.fill (runC (Mach.fast Tryz.prog fnsS 100000) [.seg 12, .fin, .run 3, .seg 0, .push, .run 3, .seg 0, .push, .run 10, .seg 1, .push, .run 19, .seg 1, .push, .run 3, .seg 1, .push, .run 308, .pop, .seg 7, .fin, .run 131, .pop, .seg 6, .fin, .run 6, .seg 1, .push, .run 182, .pop, .seg 6, .fin, .run 14, .pop, .seg 4, .fin, .pop, .seg 5, .fin, .run 2, .pop, .seg 7, .fin, .run 3] cut3.cfg) ∧
    agreeC lookF 19 cut4 (mkT cut4.hl) (runC (Mach.fast Tryz.prog fnsS 100000) [.seg 12, .fin, .run 3, .seg 0, .push, .run 3, .seg 0, .push, .run 10, .seg 1, .push, .run 19, .seg 1, .push, .run 3, .seg 1, .push, .run 308, .pop, .seg 7, .fin, .run 131, .pop, .seg 6, .fin, .run 6, .seg 1, .push, .run 182, .pop, .seg 6, .fin, .run 14, .pop, .seg 4, .fin, .pop, .seg 5, .fin, .run 2, .pop, .seg 7, .fin, .run 3] cut3.cfg) = true := ⟨by kernel_rfl, by kernel_rfl⟩
end Go.Proofs.YtodpkcebihbghaaGreatDoor
