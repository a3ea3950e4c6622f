/- ChunkMoves: the states between the stretches of the run, cut down to what is still reached; printed by a native run of the same machine. -/
import Derived.Test.YtaccdnpmoghidaaGreatDoorKnDefs
set_option linter.unusedVariables false
set_option linter.unusedSimpArgs false
namespace Go.Proofs.YtaccdnpmoghidaaGreatDoor
open Go Go.Vm
end Go.Proofs.YtaccdnpmoghidaaGreatDoor
