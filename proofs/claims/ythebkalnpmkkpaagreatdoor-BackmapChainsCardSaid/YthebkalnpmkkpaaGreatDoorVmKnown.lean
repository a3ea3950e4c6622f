/- What is known of calls already: functions that turn nothing and return a value without blocks, run once from the start with the arguments that are named. -/
import Derived.Test.YthebkalnpmkkpaaGreatDoorVmSum
set_option linter.unusedVariables false
set_option linter.unusedSimpArgs false
namespace Go.Vm
open Go.RowKit
variable {P : Program} {μ : PM} {h : Hp} {w : World}
abbrev KnE := FuncId × List V × V
end Go.Vm
