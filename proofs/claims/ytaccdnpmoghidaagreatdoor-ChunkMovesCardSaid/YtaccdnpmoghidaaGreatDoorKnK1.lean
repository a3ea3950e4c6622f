/- ChunkMoves: a call of dovetail/dovetailkit.Kind, run once. -/
import Derived.Test.YtaccdnpmoghidaaGreatDoorKnBase
import Derived.Test.YtaccdnpmoghidaaGreatDoorKnDefs
set_option linter.unusedVariables false
set_option linter.unusedSimpArgs false
namespace Go.Proofs.YtaccdnpmoghidaaGreatDoor
open Go Go.Vm
set_option maxRecDepth 1000000
theorem kc1 : endOk (Mach.fast Tryz.prog fns 100000) (.int .i64 12) (runC (Mach.fast Tryz.prog fns 100000) [.run 238] { st := [], f := 7, nt := 41, k := [.code body7], s := sK1 }) = true := by kernel_rfl
end Go.Proofs.YtaccdnpmoghidaaGreatDoor
