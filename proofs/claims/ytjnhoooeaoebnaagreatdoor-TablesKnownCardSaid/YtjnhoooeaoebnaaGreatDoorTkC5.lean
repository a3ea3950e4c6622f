/- TablesKnown: stretch 5 of the closed run, by the kernel. -/
import Derived.Test.YtjnhoooeaoebnaaGreatDoorTkBase
import Derived.Test.YtjnhoooeaoebnaaGreatDoorTkStates
set_option linter.unusedSimpArgs false
set_option linter.unusedVariables false
namespace Go.Proofs.YtjnhoooeaoebnaaGreatDoor
open Go Go.Vm
set_option maxRecDepth 1000000
theorem c5 : outK Tryz.prog fns 3 100000 17 [.code (subC [1, 1, 1, 1, 1, 1, 1, 1, 1, 1, 1] body)] st4 = some ([.code .ret], sndS (outK Tryz.prog fns 3 100000 17 [.code (subC [1, 1, 1, 1, 1, 1, 1, 1, 1, 1, 1] body)] st4)) ∧
    isRet (.bool true) (Q.leaveV (Q.Env.fast Tryz.prog) (evQ (Q.Env.fast Tryz.prog) fns 100000) Tryz.f3 (sndS (outK Tryz.prog fns 3 100000 17 [.code (subC [1, 1, 1, 1, 1, 1, 1, 1, 1, 1, 1] body)] st4)).F none (sndS (outK Tryz.prog fns 3 100000 17 [.code (subC [1, 1, 1, 1, 1, 1, 1, 1, 1, 1, 1] body)] st4)).ds .returning (sndS (outK Tryz.prog fns 3 100000 17 [.code (subC [1, 1, 1, 1, 1, 1, 1, 1, 1, 1, 1] body)] st4)).h) = true := ⟨by kernel_rfl, by kernel_rfl⟩
end Go.Proofs.YtjnhoooeaoebnaaGreatDoor
