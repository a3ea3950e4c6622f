/- TablesKnown: stretch 3 of the closed run, by the kernel. -/
import Derived.Test.YtjnhoooeaoebnaaGreatDoorTkBase
import Derived.Test.YtjnhoooeaoebnaaGreatDoorTkStates
set_option linter.unusedSimpArgs false
set_option linter.unusedVariables false
namespace Go.Proofs.YtjnhoooeaoebnaaGreatDoor
open Go Go.Vm
set_option maxRecDepth 1000000
theorem c3 : outK Tryz.prog fns 3 100000 13 [.code (subC [1, 1, 1, 1, 1, 0, 1] body), .code (subC [1, 1, 1, 1, 1, 1] body)] st2 = some ([.code (subC [1, 1, 1, 1, 1, 1, 1, 1, 1, 1] body)], sndS (outK Tryz.prog fns 3 100000 13 [.code (subC [1, 1, 1, 1, 1, 0, 1] body), .code (subC [1, 1, 1, 1, 1, 1] body)] st2)) ∧
    agree lookF 18 223 (sndS (outK Tryz.prog fns 3 100000 13 [.code (subC [1, 1, 1, 1, 1, 0, 1] body), .code (subC [1, 1, 1, 1, 1, 1] body)] st2)) fl3 hl3 (mkT hl3) 2317 = true := ⟨by kernel_rfl, by kernel_rfl⟩
end Go.Proofs.YtjnhoooeaoebnaaGreatDoor
