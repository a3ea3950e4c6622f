/- ChunkMoves: stretch 1 of the closed run, by the kernel. -/
import Derived.Test.YtaccdnpmoghidaaGreatDoorKnBase
import Derived.Test.YtaccdnpmoghidaaGreatDoorKnAStates
set_option linter.unusedVariables false
set_option linter.unusedSimpArgs false
namespace Go.Proofs.YtaccdnpmoghidaaGreatDoor
open Go Go.Vm
set_option maxRecDepth 1000000
theorem ac1 : endOk (Mach.fast Tryz.prog fns 100000) (.bool true) (runC (Mach.fast Tryz.prog fns 100000) [.run 3, .seg 0, .push, .run 3, .seg 0, .push, .run 10, .seg 1, .push, .run 19, .seg 1, .push, .run 3, .seg 1, .push, .run 308, .pop, .seg 7, .fin, .run 131, .pop, .seg 6, .fin, .run 6, .seg 1, .push, .run 182, .pop, .seg 6, .fin, .run 14, .pop, .seg 4, .fin, .pop, .seg 5, .fin, .run 2, .pop, .seg 8, .fin, .run 4] { st := [], f := 11, nt := 32, k := [.code body11], s := s0 }) = true := by kernel_rfl
end Go.Proofs.YtaccdnpmoghidaaGreatDoor
