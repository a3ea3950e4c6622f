/- DocKnown: stretch 1 of the closed run, by the kernel. -/
import Derived.Test.YtodpkcebihbghaaGreatDoorKnBig
import Derived.Test.YtodpkcebihbghaaGreatDoorKnStates
set_option linter.unusedVariables false
set_option linter.unusedSimpArgs false
namespace Go.Proofs.YtodpkcebihbghaaGreatDoor
open Go Go.Vm
set_option maxRecDepth 1000000
theorem c1 : runC (Mach.fast Tryz.prog fnsS 100000) [.run 3, .seg 0, .push, .run 3, .seg 0, .push, .run 10, .seg 1, .push, .run 19, .seg 1, .push, .run 3, .seg 1, .push, .run 308, .pop, .seg 7, .fin, .run 131, .pop, .seg 6, .fin, .run 21, .pop, .seg 4, .fin, .pop, .seg 5, .fin, .run 2, .pop, .seg 7, .fin, .run 2, .seg 0, .push, .run 3, .seg 0, .push, .run 3, .seg 0, .push, .run 10, .seg 1, .push, .run 19, .seg 1, .push, .run 3, .seg 1, .push, .run 74] { st := [], f := 3, nt := 175, k := [.code body3], s := s0 } = cut1.fill (runC (Mach.fast Tryz.prog fnsS 100000) [.run 3, .seg 0, .push, .run 3, .seg 0, .push, .run 10, .seg 1, .push, .run 19, .seg 1, .push, .run 3, .seg 1, .push, .run 308, .pop, .seg 7, .fin, .run 131, .pop, .seg 6, .fin, .run 21, .pop, .seg 4, .fin, .pop, .seg 5, .fin, .run 2, .pop, .seg 7, .fin, .run 2, .seg 0, .push, .run 3, .seg 0, .push, .run 3, .seg 0, .push, .run 10, .seg 1, .push, .run 19, .seg 1, .push, .run 3, .seg 1, .push, .run 74] { st := [], f := 3, nt := 175, k := [.code body3], s := s0 }) ∧
    agreeC lookF 19 cut1 (mkT cut1.hl) (runC (Mach.fast Tryz.prog fnsS 100000) [.run 3, .seg 0, .push, .run 3, .seg 0, .push, .run 10, .seg 1, .push, .run 19, .seg 1, .push, .run 3, .seg 1, .push, .run 308, .pop, .seg 7, .fin, .run 131, .pop, .seg 6, .fin, .run 21, .pop, .seg 4, .fin, .pop, .seg 5, .fin, .run 2, .pop, .seg 7, .fin, .run 2, .seg 0, .push, .run 3, .seg 0, .push, .run 3, .seg 0, .push, .run 10, .seg 1, .push, .run 19, .seg 1, .push, .run 3, .seg 1, .push, .run 74] { st := [], f := 3, nt := 175, k := [.code body3], s := s0 }) = true := ⟨by kernel_rfl, by kernel_rfl⟩
end Go.Proofs.YtodpkcebihbghaaGreatDoor
