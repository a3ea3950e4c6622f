/- BackmapKnown: stretch 6 of the closed run, by the kernel. -/
import Derived.Test.YtmafhplaiagheaaGreatDoorKnBase
import Derived.Test.YtmafhplaiagheaaGreatDoorKnStates
set_option linter.unusedVariables false
set_option linter.unusedSimpArgs false
namespace Go.Proofs.YtmafhplaiagheaaGreatDoor
open Go Go.Vm
set_option maxRecDepth 1000000
theorem c6 : runC (Mach.fast Tryz.prog fns 100000) [.run 8, .pop, .seg 4, .fin, .pop, .seg 5, .fin, .run 2, .pop, .seg 8, .fin, .run 6, .pop, .seg 6, .push, .run 3, .seg 0, .push, .run 3, .seg 0, .push, .run 10, .seg 1, .push, .run 19, .seg 1, .push, .run 3, .seg 1, .push, .run 297, .pop, .seg 7, .fin, .run 131, .pop, .seg 6, .fin, .run 6, .seg 1, .push, .run 13, .seg 1, .push, .run 316, .pop, .seg 1, .fin, .run 231, .pop, .seg 6, .fin, .run 6] cut5.cfg = cut6.fill (runC (Mach.fast Tryz.prog fns 100000) [.run 8, .pop, .seg 4, .fin, .pop, .seg 5, .fin, .run 2, .pop, .seg 8, .fin, .run 6, .pop, .seg 6, .push, .run 3, .seg 0, .push, .run 3, .seg 0, .push, .run 10, .seg 1, .push, .run 19, .seg 1, .push, .run 3, .seg 1, .push, .run 297, .pop, .seg 7, .fin, .run 131, .pop, .seg 6, .fin, .run 6, .seg 1, .push, .run 13, .seg 1, .push, .run 316, .pop, .seg 1, .fin, .run 231, .pop, .seg 6, .fin, .run 6] cut5.cfg) ∧
    agreeC lookF 18 cut6 (mkT cut6.hl) (runC (Mach.fast Tryz.prog fns 100000) [.run 8, .pop, .seg 4, .fin, .pop, .seg 5, .fin, .run 2, .pop, .seg 8, .fin, .run 6, .pop, .seg 6, .push, .run 3, .seg 0, .push, .run 3, .seg 0, .push, .run 10, .seg 1, .push, .run 19, .seg 1, .push, .run 3, .seg 1, .push, .run 297, .pop, .seg 7, .fin, .run 131, .pop, .seg 6, .fin, .run 6, .seg 1, .push, .run 13, .seg 1, .push, .run 316, .pop, .seg 1, .fin, .run 231, .pop, .seg 6, .fin, .run 6] cut5.cfg) = true := ⟨by kernel_rfl, by kernel_rfl⟩
end Go.Proofs.YtmafhplaiagheaaGreatDoor
