/- The code of functions, looked up; printed. -/
import Derived.Test.YtodpkcebihbghaaGreatDoorWpUtil
set_option linter.unusedVariables false
set_option linter.unusedSimpArgs false
namespace Go.Vm
set_option maxRecDepth 100000
-- 28 nt 65 res [.tmp 4] params [api.Piece, int]
-- 66 nt 15 res [.tmp 2] params [[]api.Step]
-- 71 nt 21 res [.tmp 4] params [[]api.Step, []api.Step]
-- 73 nt 41 res [.tmp 2] params [error]
-- 127 nt 26 res [.tmp 4] params [[]api.Step, []api.Step]
-- 128 nt 130 res [.tmp 2] params [[][]api.Step]
-- 159 nt 31 res [.tmp 4] params [api.Piece, api.Piece]
-- 160 nt 34 res [.tmp 2] params [[]api.Piece]
-- 161 nt 12 res [.cell 2 (I.t 177)] params [api.Piece]
-- 162 nt 84 res [.cell 4 (I.t 177), .tmp 5] params [api.Piece, int]
-- 163 nt 136 res [.cell 4 (I.t 177), .tmp 5] params [api.Piece, int]
-- 164 nt 31 res [.tmp 4] params [api.Piece, api.Piece]
/-- slices.Clip[[]dovetail/api.Step,dovetail/api.Step] -/
def c358 (I : Ids) : IC :=
  .seq (.reg [⟨.mov (.v (.slice none 0 (.ex 0))), some 2, none⟩]) <|
  .seq (.reg [⟨.mov (.t 0), some 3, none⟩,
    ⟨.mov (.t 0), some 4, none⟩,
    ⟨.lenL (.t 4), some 5, none⟩,
    ⟨.mov (.t 0), some 6, none⟩,
    ⟨.lenL (.t 6), some 7, none⟩,
    ⟨.slL (I.t 163) 3 (.t 3) none (some (.t 5)) (some (.t 7)), some 8, none⟩,
    ⟨.mov (.t 8), some 2, none⟩]) <|
  .ret
-- 358 nt 9 res [.tmp 2] params [[]api.Step]
-- 387 nt 26 res [.tmp 4] params [[]api.Item, []api.Item]
-- 388 nt 130 res [.tmp 2] params [[][]api.Item]
-- 389 nt 15 res [.tmp 2] params [[]api.Item]
-- 390 nt 45 res [] params [*chunk.mover, *int]
/-- slices.Clip[[]dovetail/api.Item,dovetail/api.Item] -/
def c391 (I : Ids) : IC :=
  .seq (.reg [⟨.mov (.v (.slice none 0 (.ex 0))), some 2, none⟩]) <|
  .seq (.reg [⟨.mov (.t 0), some 3, none⟩,
    ⟨.mov (.t 0), some 4, none⟩,
    ⟨.lenL (.t 4), some 5, none⟩,
    ⟨.mov (.t 0), some 6, none⟩,
    ⟨.lenL (.t 6), some 7, none⟩,
    ⟨.slL (I.t 197) 4 (.t 3) none (some (.t 5)) (some (.t 7)), some 8, none⟩,
    ⟨.mov (.t 8), some 2, none⟩]) <|
  .ret
-- 391 nt 9 res [.tmp 2] params [[]api.Item]
/-- slices.Clone[[]dovetail/api.Item,dovetail/api.Item] -/
def c392 (I : Ids) : IC :=
  .seq (.reg [⟨.mov (.v (.slice none 0 (.ex 0))), some 2, none⟩]) <|
  .seq (.seq (.reg [⟨.mov (.t 0), some 3, none⟩,
     ⟨.isN 2 false (.t 3), some 4, none⟩]) <|
   .cond (.t 4) (.seq (.reg [⟨.mov (.v (.slice none 0 (.ex 0))), some 2, none⟩]) <|
    .ret)
    (.skip)) <|
  .seq (.reg [⟨.bSl (I.t 197) 4 0 [] [], some 5, none⟩,
    ⟨.mov (.t 0), some 6, none⟩,
    ⟨.app (I.t 197) 4 (.t 5) (.t 6), some 7, none⟩,
    ⟨.mov (.t 7), some 2, none⟩]) <|
  .ret
-- 392 nt 8 res [.tmp 2] params [[]api.Item]
/-- slices.Clone[[]dovetail/api.Step,dovetail/api.Step] -/
def c393 (I : Ids) : IC :=
  .seq (.reg [⟨.mov (.v (.slice none 0 (.ex 0))), some 2, none⟩]) <|
  .seq (.seq (.reg [⟨.mov (.t 0), some 3, none⟩,
     ⟨.isN 2 false (.t 3), some 4, none⟩]) <|
   .cond (.t 4) (.seq (.reg [⟨.mov (.v (.slice none 0 (.ex 0))), some 2, none⟩]) <|
    .ret)
    (.skip)) <|
  .seq (.reg [⟨.bSl (I.t 163) 3 0 [] [], some 5, none⟩,
    ⟨.mov (.t 0), some 6, none⟩,
    ⟨.app (I.t 163) 3 (.t 5) (.t 6), some 7, none⟩,
    ⟨.mov (.t 7), some 2, none⟩]) <|
  .ret
-- 393 nt 8 res [.tmp 2] params [[]api.Step]
-- 394 nt 35 res [.tmp 4, .tmp 5] params [int, int]
-- 395 nt 21 res [.tmp 4] params [[]api.Item, []api.Item]
end Go.Vm
/- The kit's functions over lists of rows of ints, whatever their width: their code, of which Items' and Steps' is a case. -/
namespace Go.Vm
set_option maxRecDepth 100000
def gClip (k e : Nat) : IC :=
  .seq (.reg [⟨.mov (.v (.slice none 0 (.ex 0))), some 2, none⟩]) <|
  .seq (.reg [⟨.mov (.t 0), some 3, none⟩,
    ⟨.mov (.t 0), some 4, none⟩,
    ⟨.lenL (.t 4), some 5, none⟩,
    ⟨.mov (.t 0), some 6, none⟩,
    ⟨.lenL (.t 6), some 7, none⟩,
    ⟨.slL e k (.t 3) none (some (.t 5)) (some (.t 7)), some 8, none⟩,
    ⟨.mov (.t 8), some 2, none⟩]) <|
  .ret
def gClone (k e : Nat) : IC :=
  .seq (.reg [⟨.mov (.v (.slice none 0 (.ex 0))), some 2, none⟩]) <|
  .seq (.seq (.reg [⟨.mov (.t 0), some 3, none⟩,
     ⟨.isN 2 false (.t 3), some 4, none⟩]) <|
   .cond (.t 4) (.seq (.reg [⟨.mov (.v (.slice none 0 (.ex 0))), some 2, none⟩]) <|
    .ret)
    (.skip)) <|
  .seq (.reg [⟨.bSl e k 0 [] [], some 5, none⟩,
    ⟨.mov (.t 0), some 6, none⟩,
    ⟨.app e k (.t 5) (.t 6), some 7, none⟩,
    ⟨.mov (.t 7), some 2, none⟩]) <|
  .ret
end Go.Vm
/- Lists written full, gone on with, looked at: the three loops of the code that says whether they share memory. -/
namespace Go.Vm
set_option maxRecDepth 100000
end Go.Vm
