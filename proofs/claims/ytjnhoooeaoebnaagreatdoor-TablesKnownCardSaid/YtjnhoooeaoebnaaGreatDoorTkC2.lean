/- TablesKnown: stretch 2 of the closed run, by the kernel. -/
import Derived.Test.YtjnhoooeaoebnaaGreatDoorTkBase
import Derived.Test.YtjnhoooeaoebnaaGreatDoorTkStates
set_option linter.unusedSimpArgs false
set_option linter.unusedVariables false
namespace Go.Proofs.YtjnhoooeaoebnaaGreatDoor
open Go Go.Vm
set_option maxRecDepth 1000000
theorem c2 : outK Tryz.prog fns 3 100000 9 [.code (subC [1, 1] body)] st1 = some ([.code (subC [1, 1, 1, 1, 1, 0, 1] body), .code (subC [1, 1, 1, 1, 1, 1] body)], sndS (outK Tryz.prog fns 3 100000 9 [.code (subC [1, 1] body)] st1)) ∧
    agree lookF 18 223 (sndS (outK Tryz.prog fns 3 100000 9 [.code (subC [1, 1] body)] st1)) fl2 hl2 (mkT hl2) 1630 = true := ⟨by kernel_rfl, by kernel_rfl⟩
end Go.Proofs.YtjnhoooeaoebnaaGreatDoor
