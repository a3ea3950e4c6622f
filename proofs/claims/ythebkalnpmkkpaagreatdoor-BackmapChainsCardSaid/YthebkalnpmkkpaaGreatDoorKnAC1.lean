/- BackmapChains: stretch 1 of the closed run, by the kernel. -/
import Derived.Test.YthebkalnpmkkpaaGreatDoorKnBase
import Derived.Test.YthebkalnpmkkpaaGreatDoorKnAStates
set_option linter.unusedVariables false
set_option linter.unusedSimpArgs false
namespace Go.Proofs.YthebkalnpmkkpaaGreatDoor
open Go Go.Vm
set_option maxRecDepth 1000000
theorem ac1 : runC (Mach.fast Tryz.prog fns 100000) [.run 3, .seg 5, .push, .run 3, .seg 0, .push, .run 3, .seg 0, .push, .run 10, .seg 1, .push, .run 19, .seg 1, .push, .run 3, .seg 1, .push, .run 297, .pop, .seg 7, .fin, .run 131, .pop, .seg 6, .fin, .run 6, .seg 1, .push, .run 13, .seg 1, .push, .run 316, .pop, .seg 1, .fin, .run 231, .pop, .seg 6, .fin, .run 14, .pop, .seg 4, .fin, .pop, .seg 5, .fin, .run 2, .pop, .seg 2, .push, .run 24] { st := [], f := 10, nt := 8, k := [.code body10], s := s0 } = acut1.fill (runC (Mach.fast Tryz.prog fns 100000) [.run 3, .seg 5, .push, .run 3, .seg 0, .push, .run 3, .seg 0, .push, .run 10, .seg 1, .push, .run 19, .seg 1, .push, .run 3, .seg 1, .push, .run 297, .pop, .seg 7, .fin, .run 131, .pop, .seg 6, .fin, .run 6, .seg 1, .push, .run 13, .seg 1, .push, .run 316, .pop, .seg 1, .fin, .run 231, .pop, .seg 6, .fin, .run 14, .pop, .seg 4, .fin, .pop, .seg 5, .fin, .run 2, .pop, .seg 2, .push, .run 24] { st := [], f := 10, nt := 8, k := [.code body10], s := s0 }) ∧
    agreeC lookF 18 acut1 (mkT acut1.hl) (runC (Mach.fast Tryz.prog fns 100000) [.run 3, .seg 5, .push, .run 3, .seg 0, .push, .run 3, .seg 0, .push, .run 10, .seg 1, .push, .run 19, .seg 1, .push, .run 3, .seg 1, .push, .run 297, .pop, .seg 7, .fin, .run 131, .pop, .seg 6, .fin, .run 6, .seg 1, .push, .run 13, .seg 1, .push, .run 316, .pop, .seg 1, .fin, .run 231, .pop, .seg 6, .fin, .run 14, .pop, .seg 4, .fin, .pop, .seg 5, .fin, .run 2, .pop, .seg 2, .push, .run 24] { st := [], f := 10, nt := 8, k := [.code body10], s := s0 }) = true := ⟨by kernel_rfl, by kernel_rfl⟩
end Go.Proofs.YthebkalnpmkkpaaGreatDoor
