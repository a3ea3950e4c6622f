/- From what holds of a run of the virtual machine to the model's calls. -/
import Derived.Test.YtodpkcebihbghaaGreatDoorWpUtil
import Derived.Test.YtodpkcebihbghaaGreatDoorVmKnown
set_option linter.unusedVariables false
set_option linter.unusedSimpArgs false
namespace Go.Vm
open Go.RowKit
variable {P : Program} {Y : Fns}
end Go.Vm
