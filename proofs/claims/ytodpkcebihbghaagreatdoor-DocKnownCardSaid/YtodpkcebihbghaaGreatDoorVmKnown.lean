/- What is known of calls already: functions that turn nothing and return a value without blocks, run once from the start with the arguments that are named. -/
import Derived.Test.YtodpkcebihbghaaGreatDoorVmSum
set_option linter.unusedVariables false
set_option linter.unusedSimpArgs false
namespace Go.Vm
open Go.RowKit
variable {P : Program} {μ : PM} {h : Hp} {w : World}
theorem VR.scalar {ν : PM} {v : V} {r : Value} (h : VR μ v r) (hs : scalarV v = true) : VR ν v r := by
  cases h <;> first | exact VR.bool _ | exact VR.int _ _ | exact VR.str _ | exact VR.ptrN | exact VR.mapN | exact VR.nilFunc | exact VR.nilIface | (rename_i h; exact VR.sliceN h) | cases hs
abbrev KnE := FuncId × List V × V
end Go.Vm
