/- PiecesKnown: stretch 10 of the closed run, by the kernel. -/
import Derived.Test.YtmafhplaiagheacGreatDoorKnBase
import Derived.Test.YtmafhplaiagheacGreatDoorKnStates
import Derived.Test.YtmafhplaiagheacGreatDoorKnStates1
set_option linter.unusedVariables false
set_option linter.unusedSimpArgs false
namespace Go.Proofs.YtmafhplaiagheacGreatDoor
open Go Go.Vm
set_option maxRecDepth 1000000
theorem c10 : runC (Mach.fast Tryz.prog fns 100000) [.run 33, .pop, .seg 1, .fin, .run 34, .pop, .seg 6, .fin, .run 2, .pop, .seg 6, .fin, .run 2, .pop, .seg 64, .fin, .run 3, .seg 49, .push, .run 3, .seg 0, .push, .run 10, .seg 1, .push, .run 19, .seg 1, .push, .run 3, .seg 1, .push, .run 308, .pop, .seg 7, .fin, .run 131, .pop, .seg 6, .fin, .run 6, .seg 1, .push, .run 13] cut9.cfg = cut10.fill (runC (Mach.fast Tryz.prog fns 100000) [.run 33, .pop, .seg 1, .fin, .run 34, .pop, .seg 6, .fin, .run 2, .pop, .seg 6, .fin, .run 2, .pop, .seg 64, .fin, .run 3, .seg 49, .push, .run 3, .seg 0, .push, .run 10, .seg 1, .push, .run 19, .seg 1, .push, .run 3, .seg 1, .push, .run 308, .pop, .seg 7, .fin, .run 131, .pop, .seg 6, .fin, .run 6, .seg 1, .push, .run 13] cut9.cfg) ∧
    agreeC lookF 21 cut10 (mkT cut10.hl) (runC (Mach.fast Tryz.prog fns 100000) [.run 33, .pop, .seg 1, .fin, .run 34, .pop, .seg 6, .fin, .run 2, .pop, .seg 6, .fin, .run 2, .pop, .seg 64, .fin, .run 3, .seg 49, .push, .run 3, .seg 0, .push, .run 10, .seg 1, .push, .run 19, .seg 1, .push, .run 3, .seg 1, .push, .run 308, .pop, .seg 7, .fin, .run 131, .pop, .seg 6, .fin, .run 6, .seg 1, .push, .run 13] cut9.cfg) = true := ⟨by kernel_rfl, by kernel_rfl⟩
end Go.Proofs.YtmafhplaiagheacGreatDoor
