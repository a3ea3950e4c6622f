/- The code of functions, looked up; printed. -/
import Derived.Test.YtodpkcebihbghaaGreatDoorWpUtil
set_option linter.unusedVariables false
set_option linter.unusedSimpArgs false
namespace Go.Vm
set_option maxRecDepth 100000
-- 65 nt 15 res [.cell 2 (I.t 33)] params [api.Grammar]
-- 70 nt 31 res [.tmp 4] params [api.Grammar, api.Grammar]
-- 108 nt 14 res [.tmp 2] params [[]int]
-- 111 nt 20 res [.tmp 4] params [[]int, []int]
-- 118 nt 26 res [.tmp 4] params [[]int, []int]
-- 140 nt 125 res [.tmp 2] params [[][]int]
-- 251 nt 26 res [.tmp 4] params [[]string, []string]
-- 260 nt 14 res [.tmp 2] params [[]string]
-- 261 nt 36 res [.tmp 2] params [[]api.Rule]
-- 273 nt 20 res [.tmp 4] params [[]string, []string]
-- 274 nt 55 res [.tmp 4] params [[]api.Rule, []api.Rule]
end Go.Vm
/- The kit's functions over lists of single cells: their code, of which that over ints and over strings is a case. -/
namespace Go.Vm
set_option maxRecDepth 100000
end Go.Vm
