/- TablesKnown: stretch 1 of the closed run, by the kernel. -/
import Derived.Test.YtjnhoooeaoebnaaGreatDoorTkBase
import Derived.Test.YtjnhoooeaoebnaaGreatDoorTkStates
set_option linter.unusedSimpArgs false
set_option linter.unusedVariables false
namespace Go.Proofs.YtjnhoooeaoebnaaGreatDoor
open Go Go.Vm
set_option maxRecDepth 1000000
theorem c1 : outK Tryz.prog fns 3 100000 4 [.code body] s0 = some ([.code (subC [1, 1] body)], sndS (outK Tryz.prog fns 3 100000 4 [.code body] s0)) ∧
    agree lookF 18 223 (sndS (outK Tryz.prog fns 3 100000 4 [.code body] s0)) fl1 hl1 (mkT hl1) 826 = true := ⟨by kernel_rfl, by kernel_rfl⟩
end Go.Proofs.YtjnhoooeaoebnaaGreatDoor
