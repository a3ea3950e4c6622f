/- The code of functions, looked up; printed. -/
import Derived.Test.YtodpkcebihbghaaGreatDoorWpUtil
set_option linter.unusedVariables false
set_option linter.unusedSimpArgs false
namespace Go.Vm
set_option maxRecDepth 100000
-- 20 nt 134 res [.tmp 6] params [api.Grammar, int, int]
-- 138 nt 125 res [.tmp 6, .tmp 7] params [api.Grammar, int, int]
-- 141 nt 68 res [.tmp 2] params [api.Grammar]
-- 142 nt 20 res [.tmp 2, .tmp 3] params [api.Rule]
-- 324 nt 69 res [.tmp 2] params [api.Grammar]
-- 334 nt 9 res [.tmp 2] params [[]int]
/-- slices.ContainsFunc[[]int,int] -/
def c363 (I : Ids) : IC :=
  .seq (.reg [⟨.mov (.v (.bool false)), some 4, none⟩]) <|
  .seq (.reg [⟨.mov (.t 0), some 5, none⟩,
    ⟨.mov (.t 1), some 6, none⟩,
    ⟨.call (I.f 527) [(.t 5), (.t 6)], some 7, none⟩,
    ⟨.bin .geq (.t 7) (.v (.int .i64 0)), some 8, none⟩,
    ⟨.mov (.t 8), some 4, none⟩]) <|
  .ret
-- 363 nt 9 res [.tmp 4] params [[]int, func(int) bool]
-- 372 nt 19 res [.tmp 4] params [[]api.Rule, func(api.Rule) bool]
-- 373 nt 31 res [.tmp 4] params [api.Rule]
-- 502 nt 13 res [.tmp 2] params [[]string]
-- 503 nt 28 res [.tmp 4] params [api.Grammar, api.Rule]
/-- slices.IndexFunc[[]int,int] -/
def c527 (I : Ids) : IC :=
  .seq (.reg [⟨.mov (.v (.int .i64 0)), some 4, none⟩]) <|
  .seq (.seq (.reg [⟨.mov (.t 0), some 6, none⟩,
     ⟨.lenL (.t 6), some 7, none⟩,
     ⟨.mov (.v (.int .i64 0)), some 8, none⟩]) <|
   .block 0 <|
    .loop <|
     .seq (.reg [⟨.bin .lss (.t 8) (.t 7), some 9, none⟩]) <|
     .seq (.cond (.t 9) (.skip)
       (.exit 0)) <|
     .seq (.block 1 <|
       .seq (.reg [⟨.mov (.t 8), some 10, none⟩,
         ⟨.mov (.t 10), some 5, none⟩]) <|
       .seq (.reg [⟨.mov (.t 1), some 11, none⟩,
         ⟨.mov (.t 0), some 12, none⟩,
         ⟨.mov (.t 5), some 13, none⟩,
         ⟨.ixL 1 (.t 12) (.t 13), some 14, none⟩,
         ⟨.ld1 (.t 14), some 15, none⟩,
         ⟨.callv (.t 11) [(.t 15)], some 16, none⟩]) <|
       .cond (.t 16) (.seq (.reg [⟨.mov (.t 5), some 17, none⟩,
          ⟨.mov (.t 17), some 4, none⟩]) <|
        .ret)
        (.skip)) <|
     .reg [⟨.bin .add (.t 8) (.v (.int .i64 1)), some 18, none⟩,
      ⟨.mov (.t 18), some 8, none⟩]) <|
  .seq (.reg [⟨.mov (.v (.int .i64 (-1))), some 4, none⟩]) <|
  .ret
-- 527 nt 19 res [.tmp 4] params [[]int, func(int) bool]
-- 649 nt 26 res [.tmp 4] params [[]string, int]
-- 650 nt 17 res [.tmp 3] params [int]
-- 696 nt 19 res [.tmp 4] params [[]string, string]
-- 764 nt 9 res [.tmp 4] params [[]string, string]
end Go.Vm
