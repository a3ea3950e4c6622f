/- The code of functions, looked up; printed. -/
import Derived.Test.YthebkalnpmkkpaaGreatDoorWpUtil
set_option linter.unusedVariables false
set_option linter.unusedSimpArgs false
namespace Go.Vm
set_option maxRecDepth 100000
-- 28 nt 65 res [.tmp 4] params [api.Piece, int]
-- 66 nt 15 res [.tmp 2] params [[]api.Step]
-- 71 nt 21 res [.tmp 4] params [[]api.Step, []api.Step]
-- 73 nt 41 res [.tmp 2] params [error]
-- 127 nt 26 res [.tmp 4] params [[]api.Step, []api.Step]
-- 128 nt 130 res [.tmp 2] params [[][]api.Step]
-- 159 nt 31 res [.tmp 4] params [api.Piece, api.Piece]
-- 160 nt 34 res [.tmp 2] params [[]api.Piece]
-- 161 nt 12 res [.cell 2 (I.t 177)] params [api.Piece]
-- 162 nt 84 res [.cell 4 (I.t 177), .tmp 5] params [api.Piece, int]
-- 163 nt 136 res [.cell 4 (I.t 177), .tmp 5] params [api.Piece, int]
-- 164 nt 31 res [.tmp 4] params [api.Piece, api.Piece]
-- 358 nt 9 res [.tmp 2] params [[]api.Step]
-- 387 nt 26 res [.tmp 4] params [[]api.Item, []api.Item]
-- 388 nt 130 res [.tmp 2] params [[][]api.Item]
-- 389 nt 15 res [.tmp 2] params [[]api.Item]
-- 390 nt 45 res [] params [*chunk.mover, *int]
-- 391 nt 9 res [.tmp 2] params [[]api.Item]
-- 392 nt 8 res [.tmp 2] params [[]api.Item]
-- 393 nt 8 res [.tmp 2] params [[]api.Step]
-- 394 nt 35 res [.tmp 4, .tmp 5] params [int, int]
-- 395 nt 21 res [.tmp 4] params [[]api.Item, []api.Item]
end Go.Vm
/- The kit's functions over lists of rows of ints, whatever their width: their code, of which Items' and Steps' is a case. -/
namespace Go.Vm
set_option maxRecDepth 100000
end Go.Vm
/- Lists written full, gone on with, looked at: the three loops of the code that says whether they share memory. -/
namespace Go.Vm
set_option maxRecDepth 100000
end Go.Vm
