/- The code of functions, looked up; printed. -/
import Derived.Test.YtodpkcebihbghaaGreatDoorWpUtil
set_option linter.unusedVariables false
set_option linter.unusedSimpArgs false
namespace Go.Vm
set_option maxRecDepth 100000
/-- (*dovetail/tables.Tables).Terms -/
def c103 (I : Ids) : IC :=
  .seq (.reg [⟨.mov (.v (.int .i64 0)), some 2, none⟩]) <|
  .seq (.seq (.reg [⟨.mov (.t 0), some 3, none⟩,
     ⟨.isN 0 false (.t 3), some 4, none⟩]) <|
   .cond (.t 4) (.seq (.reg [⟨.mov (.v (.int .i64 0)), some 2, none⟩]) <|
    .ret)
    (.skip)) <|
  .seq (.reg [⟨.mov (.t 0), some 5, none⟩,
    ⟨.nilCheck (.t 5), some 6, none⟩,
    ⟨.fad 0 (.t 6), some 7, none⟩,
    ⟨.fad 1 (.t 7), some 8, none⟩,
    ⟨.fad 0 (.t 8), some 9, none⟩,
    ⟨.ld1 (.t 9), some 10, none⟩,
    ⟨.lenL (.t 10), some 11, none⟩,
    ⟨.mov (.t 11), some 2, none⟩]) <|
  .ret
-- 103 nt 12 res [.tmp 2] params [*tables.Tables]
/-- (*dovetail/tables.Tables).Relation -/
def c104 (I : Ids) : IC :=
  .seq (.reg [⟨.mov (.v (.int .i64 0)), some 6, none⟩]) <|
  .seq (.seq (.reg [⟨.mov (.t 0), some 7, none⟩,
     ⟨.isN 0 false (.t 7), some 8, none⟩]) <|
   .cond (.t 8) (.seq (.reg [⟨.mov (.v (.int .i64 0)), some 6, none⟩]) <|
    .ret)
    (.skip)) <|
  .seq (.reg [⟨.mov (.t 0), some 9, none⟩,
    ⟨.nilCheck (.t 9), some 10, none⟩,
    ⟨.fad 0 (.t 10), some 11, none⟩,
    ⟨.fad 8 (.t 11), some 12, none⟩,
    ⟨.ld1 (.t 12), some 13, none⟩,
    ⟨.mov (.t 1), some 14, none⟩,
    ⟨.mov (.t 2), some 15, none⟩,
    ⟨.call (I.f 339) [(.t 13), (.t 14), (.t 15)], some 16, none⟩,
    ⟨.mov (.t 16), some 6, none⟩]) <|
  .ret
-- 104 nt 17 res [.tmp 6] params [*tables.Tables, int, int]
-- 132 nt 28 res [.cell 4 (I.t 132), .tmp 5] params [*tables.Tables, []int]
/-- (*dovetail/stack.Stack).Shift -/
def c176 (I : Ids) : IC :=
  .seq (.reg [⟨.mov (.v .nilIface), some 4, none⟩]) <|
  .seq (.block 0 <|
    .seq (.reg [⟨.mov (.t 0), some 6, none⟩,
      ⟨.isN 0 false (.t 6), some 7, none⟩,
      ⟨.mov (.t 7), some 8, none⟩,
      ⟨.mov (.t 0), some 9, some (8, false)⟩,
      ⟨.nilCheck (.t 9), some 10, some (8, false)⟩,
      ⟨.fad 4 (.t 10), some 11, some (8, false)⟩,
      ⟨.ld1 (.t 11), some 12, some (8, false)⟩,
      ⟨.pick (.t 8) (.v (.bool true)) (.t 12), some 13, none⟩,
      ⟨.mov (.t 13), some 14, none⟩,
      ⟨.mov (.t 1), some 15, some (14, false)⟩,
      ⟨.bin .lss (.t 15) (.v (.int .i64 0)), some 16, some (14, false)⟩,
      ⟨.pick (.t 14) (.v (.bool true)) (.t 16), some 17, none⟩,
      ⟨.mov (.t 17), some 18, none⟩,
      ⟨.mov (.t 1), some 19, some (18, false)⟩,
      ⟨.mov (.t 0), some 20, some (18, false)⟩,
      ⟨.nilCheck (.t 20), some 21, some (18, false)⟩,
      ⟨.fad 0 (.t 21), some 22, some (18, false)⟩,
      ⟨.ld1 (.t 22), some 23, some (18, false)⟩,
      ⟨.call (I.f 103) [(.t 23)], some 24, some (18, false)⟩,
      ⟨.bin .geq (.t 19) (.t 24), some 25, some (18, false)⟩,
      ⟨.pick (.t 18) (.v (.bool true)) (.t 25), some 26, none⟩,
      ⟨.mov (.t 26), some 5, none⟩]) <|
    .cond (.t 5) (.seq (.reg [⟨.ld1 (.v (.ptr (some (I.g 1, 0)))), some 27, none⟩,
       ⟨.mov (.t 27), some 4, none⟩]) <|
     .ret)
     (.seq (.reg [⟨.mov (.t 0), some 29, none⟩,
       ⟨.nilCheck (.t 29), some 30, none⟩,
       ⟨.fad 5 (.t 30), some 31, none⟩,
       ⟨.ld1 (.t 31), some 32, none⟩,
       ⟨.mov (.t 32), some 28, none⟩]) <|
     .cond (.t 28) (.seq (.reg [⟨.ld1 (.v (.ptr (some (I.g 7, 0)))), some 33, none⟩,
        ⟨.mov (.t 33), some 4, none⟩]) <|
      .ret)
      (.seq (.reg [⟨.mov (.t 0), some 35, none⟩,
        ⟨.nilCheck (.t 35), some 36, none⟩,
        ⟨.fad 2 (.t 36), some 37, none⟩,
        ⟨.ld1 (.t 37), some 38, none⟩,
        ⟨.eqT 1 false (.t 38) (.v (.int .i64 65536)), some 39, none⟩,
        ⟨.mov (.t 39), some 34, none⟩]) <|
      .cond (.t 34) (.seq (.reg [⟨.ld1 (.v (.ptr (some (I.g 0, 0)))), some 40, none⟩,
         ⟨.mov (.t 40), some 4, none⟩]) <|
       .ret)
       (.seq (.reg [⟨.mov (.t 0), some 42, none⟩,
         ⟨.mov (.t 1), some 43, none⟩,
         ⟨.call (I.f 404) [(.t 42), (.t 43)], some 44, none⟩,
         ⟨.un .not (.t 44), some 45, none⟩,
         ⟨.mov (.t 45), some 41, none⟩]) <|
       .cond (.t 41) (.seq (.reg [⟨.ld1 (.v (.ptr (some (I.g 7, 0)))), some 46, none⟩,
          ⟨.mov (.t 46), some 4, none⟩]) <|
        .ret)
        (.skip))))) <|
  .seq (.reg [⟨.mov (.v .nilIface), some 4, none⟩]) <|
  .ret
-- 176 nt 47 res [.tmp 4] params [*stack.Stack, int]
-- 177 nt 11 res [.tmp 2] params [*stack.Stack]
-- 184 nt 8 res [.tmp 2] params [*tables.Tables]
-- 185 nt 69 res [.tmp 2, .tmp 3] params [*stack.Stack]
/-- (*dovetail/matrix.Matrix).Holds -/
def c227 (I : Ids) : IC :=
  .seq (.reg [⟨.mov (.v (.bool false)), some 8, none⟩]) <|
  .seq (.seq (.reg [⟨.mov (.t 0), some 9, none⟩,
     ⟨.isN 0 false (.t 9), some 10, none⟩,
     ⟨.mov (.t 10), some 11, none⟩,
     ⟨.mov (.t 1), some 12, some (11, false)⟩,
     ⟨.bin .lss (.t 12) (.v (.int .i64 0)), some 13, some (11, false)⟩,
     ⟨.pick (.t 11) (.v (.bool true)) (.t 13), some 14, none⟩,
     ⟨.mov (.t 14), some 15, none⟩,
     ⟨.mov (.t 1), some 16, some (15, false)⟩,
     ⟨.mov (.t 0), some 17, some (15, false)⟩,
     ⟨.nilCheck (.t 17), some 18, some (15, false)⟩,
     ⟨.fad 0 (.t 18), some 19, some (15, false)⟩,
     ⟨.ld1 (.t 19), some 20, some (15, false)⟩,
     ⟨.bin .geq (.t 16) (.t 20), some 21, some (15, false)⟩,
     ⟨.pick (.t 15) (.v (.bool true)) (.t 21), some 22, none⟩,
     ⟨.mov (.t 22), some 23, none⟩,
     ⟨.mov (.t 2), some 24, some (23, false)⟩,
     ⟨.bin .lss (.t 24) (.v (.int .i64 0)), some 25, some (23, false)⟩,
     ⟨.pick (.t 23) (.v (.bool true)) (.t 25), some 26, none⟩,
     ⟨.mov (.t 26), some 27, none⟩,
     ⟨.mov (.t 2), some 28, some (27, false)⟩,
     ⟨.mov (.t 0), some 29, some (27, false)⟩,
     ⟨.nilCheck (.t 29), some 30, some (27, false)⟩,
     ⟨.fad 0 (.t 30), some 31, some (27, false)⟩,
     ⟨.ld1 (.t 31), some 32, some (27, false)⟩,
     ⟨.bin .geq (.t 28) (.t 32), some 33, some (27, false)⟩,
     ⟨.pick (.t 27) (.v (.bool true)) (.t 33), some 34, none⟩,
     ⟨.mov (.t 34), some 35, none⟩,
     ⟨.mov (.t 3), some 36, some (35, false)⟩,
     ⟨.bin .lss (.t 36) (.v (.int .i64 0)), some 37, some (35, false)⟩,
     ⟨.pick (.t 35) (.v (.bool true)) (.t 37), some 38, none⟩,
     ⟨.mov (.t 38), some 39, none⟩,
     ⟨.mov (.t 3), some 40, some (39, false)⟩,
     ⟨.bin .gtr (.t 40) (.v (.int .i64 3)), some 41, some (39, false)⟩,
     ⟨.pick (.t 39) (.v (.bool true)) (.t 41), some 42, none⟩]) <|
   .cond (.t 42) (.seq (.reg [⟨.mov (.v (.bool false)), some 8, none⟩]) <|
    .ret)
    (.skip)) <|
  .seq (.seq (.reg [⟨.mov (.t 3), some 43, none⟩,
     ⟨.eqT 1 false (.t 43) (.v (.int .i64 0)), some 44, none⟩]) <|
   .cond (.t 44) (.seq (.reg [⟨.mov (.t 0), some 45, none⟩,
      ⟨.mov (.t 1), some 46, none⟩,
      ⟨.mov (.t 2), some 47, none⟩,
      ⟨.call (I.f 339) [(.t 45), (.t 46), (.t 47)], some 48, none⟩,
      ⟨.eqT 1 false (.t 48) (.v (.int .i64 0)), some 49, none⟩,
      ⟨.mov (.t 49), some 8, none⟩]) <|
    .ret)
    (.skip)) <|
  .seq (.reg [⟨.mov (.t 0), some 50, none⟩,
    ⟨.mov (.t 3), some 51, none⟩,
    ⟨.mov (.t 1), some 52, none⟩,
    ⟨.nilCheck (.t 50), some 53, none⟩,
    ⟨.fad 1 (.t 53), some 54, none⟩,
    ⟨.ixA 4 61 (.t 54) (.t 51), some 55, none⟩,
    ⟨.ixA 61 1 (.t 55) (.t 52), some 56, none⟩,
    ⟨.ld1 (.t 56), some 57, none⟩,
    ⟨.mov (.t 2), some 58, none⟩,
    ⟨.bin .shr (.t 57) (.t 58), some 59, none⟩,
    ⟨.bin .and (.t 59) (.v (.int .u64 1)), some 60, none⟩,
    ⟨.eqT 1 false (.t 60) (.v (.int .u64 1)), some 61, none⟩,
    ⟨.mov (.t 61), some 8, none⟩]) <|
  .ret
-- 227 nt 62 res [.tmp 8] params [*matrix.Matrix, int, int, int]
/-- (*dovetail/matrix.Matrix).At -/
def c339 (I : Ids) : IC :=
  .seq (.reg [⟨.mov (.v (.int .i64 0)), some 6, none⟩]) <|
  .seq (.seq (.reg [⟨.mov (.v (.int .i64 1)), some 7, none⟩]) <|
   .block 0 <|
    .loop <|
     .seq (.seq (.reg [⟨.mov (.t 7), some 8, none⟩,
        ⟨.bin .leq (.t 8) (.v (.int .i64 3)), some 9, none⟩]) <|
      .cond (.t 9) (.skip)
       (.exit 0)) <|
     .seq (.block 1 <|
       .seq (.reg [⟨.mov (.t 0), some 12, none⟩,
         ⟨.mov (.t 1), some 13, none⟩,
         ⟨.mov (.t 2), some 14, none⟩,
         ⟨.mov (.t 7), some 15, none⟩,
         ⟨.call (I.f 227) [(.t 12), (.t 13), (.t 14), (.t 15)], some 16, none⟩]) <|
       .cond (.t 16) (.seq (.reg [⟨.mov (.t 7), some 17, none⟩,
          ⟨.mov (.t 17), some 6, none⟩]) <|
        .ret)
        (.skip)) <|
     .reg [⟨.mov (.t 7), some 10, none⟩,
      ⟨.bin .add (.t 10) (.v (.int .i64 1)), some 11, none⟩,
      ⟨.mov (.t 11), some 7, none⟩]) <|
  .seq (.reg [⟨.mov (.v (.int .i64 0)), some 6, none⟩]) <|
  .ret
-- 339 nt 18 res [.tmp 6] params [*matrix.Matrix, int, int]
/-- dovetail/parse.Parse$1 -/
def c364 (I : Ids) : IC :=
  .seq (.reg [⟨.mov (.v (.bool false)), some 3, none⟩]) <|
  .seq (.reg [⟨.mov (.t 0), some 4, none⟩,
    ⟨.bin .lss (.t 4) (.v (.int .i64 0)), some 5, none⟩,
    ⟨.mov (.t 5), some 6, none⟩,
    ⟨.mov (.t 0), some 7, some (6, false)⟩,
    ⟨.ld1 (.t 1), some 8, some (6, false)⟩,
    ⟨.call (I.f 103) [(.t 8)], some 9, some (6, false)⟩,
    ⟨.bin .geq (.t 7) (.t 9), some 10, some (6, false)⟩,
    ⟨.pick (.t 6) (.v (.bool true)) (.t 10), some 11, none⟩,
    ⟨.mov (.t 11), some 3, none⟩]) <|
  .ret
-- 364 nt 12 res [.tmp 3] params [int]
-- 365 nt 38 res [.cell 4 (I.t 132), .cell 5 (I.t 38)] params [*tables.Tables, []int]
/-- (*dovetail/stack.Stack).lay -/
def c404 (I : Ids) : IC :=
  .seq (.reg [⟨.mov (.v (.bool false)), some 4, none⟩]) <|
  .seq (.seq (.reg [⟨.mov (.t 0), some 5, none⟩,
     ⟨.mov (.t 1), some 6, none⟩,
     ⟨.call (I.f 406) [(.t 5), (.t 6)], some 7, none⟩,
     ⟨.un .not (.t 7), some 8, none⟩]) <|
   .cond (.t 8) (.seq (.reg [⟨.mov (.v (.bool false)), some 4, none⟩]) <|
    .ret)
    (.skip)) <|
  .seq (.drw [⟨.mov (.t 0), some 9, none⟩,
    ⟨.mov (.t 0), some 10, none⟩,
    ⟨.nilCheck (.t 10), some 11, none⟩,
    ⟨.fad 7 (.t 11), some 12, none⟩,
    ⟨.ld1 (.t 12), some 13, none⟩,
    ⟨.mov (.t 0), some 14, none⟩,
    ⟨.nilCheck (.t 14), some 15, none⟩,
    ⟨.fad 6 (.t 15), some 16, none⟩,
    ⟨.ld1 (.t 16), some 17, none⟩,
    ⟨.lenL (.t 17), some 18, none⟩,
    ⟨.bSl (I.t 3) 1 1 [(.int .i64 0)] [(0, (.t 18))], some 19, none⟩,
    ⟨.app (I.t 3) 1 (.t 13) (.t 19), some 20, none⟩,
    ⟨.nilCheck (.t 9), some 21, none⟩,
    ⟨.fad 7 (.t 21), some 22, none⟩,
    ⟨.sto 1 (.t 22) (.t 20), none, none⟩]) <|
  .seq (.drw [⟨.mov (.t 0), some 23, none⟩,
    ⟨.mov (.t 0), some 24, none⟩,
    ⟨.nilCheck (.t 24), some 25, none⟩,
    ⟨.fad 6 (.t 25), some 26, none⟩,
    ⟨.ld1 (.t 26), some 27, none⟩,
    ⟨.mov (.t 1), some 28, none⟩,
    ⟨.mov (.t 0), some 29, none⟩,
    ⟨.nilCheck (.t 29), some 30, none⟩,
    ⟨.fad 2 (.t 30), some 31, none⟩,
    ⟨.ld1 (.t 31), some 32, none⟩,
    ⟨.mov (.t 0), some 33, none⟩,
    ⟨.nilCheck (.t 33), some 34, none⟩,
    ⟨.fad 2 (.t 34), some 35, none⟩,
    ⟨.ld1 (.t 35), some 36, none⟩,
    ⟨.bin .add (.t 36) (.v (.int .i64 1)), some 37, none⟩,
    ⟨.bld [(.int .i64 0), (.int .i64 0), (.int .i64 0), (.int .i64 0)] [(0, 1, (.t 28)), (1, 1, (.v (.int .i64 (-1)))), (2, 1, (.t 32)), (3, 1, (.t 37))], some 38, none⟩,
    ⟨.bSl (I.t 197) 4 1 [(.int .i64 0), (.int .i64 0), (.int .i64 0), (.int .i64 0)] [(0, (.t 38))], some 39, none⟩,
    ⟨.app (I.t 197) 4 (.t 27) (.t 39), some 40, none⟩,
    ⟨.nilCheck (.t 23), some 41, none⟩,
    ⟨.fad 6 (.t 41), some 42, none⟩,
    ⟨.sto 1 (.t 42) (.t 40), none, none⟩]) <|
  .seq (.reg [⟨.mov (.t 0), some 43, none⟩,
    ⟨.nilCheck (.t 43), some 44, none⟩,
    ⟨.fad 2 (.t 44), some 45, none⟩,
    ⟨.ld1 (.t 45), some 46, none⟩,
    ⟨.bin .add (.t 46) (.v (.int .i64 1)), some 47, none⟩,
    ⟨.nilCheck (.t 43), some 48, none⟩,
    ⟨.fad 2 (.t 48), some 49, none⟩,
    ⟨.sto 1 (.t 49) (.t 47), none, none⟩]) <|
  .seq (.reg [⟨.mov (.v (.bool true)), some 4, none⟩]) <|
  .ret
-- 404 nt 50 res [.tmp 4] params [*stack.Stack, int]
/-- (*dovetail/stack.Stack).ready -/
def c406 (I : Ids) : IC :=
  .seq (.reg [⟨.mov (.v (.bool false)), some 4, none⟩]) <|
  .block 0 <|
   .loop <|
    .block 1 <|
     .seq (.reg [⟨.mov (.t 0), some 10, none⟩,
       ⟨.call (I.f 546) [(.t 10), (.v (.int .i64 0))], some 11, none⟩,
       ⟨.mov (.t 11), some 9, none⟩,
       ⟨.ext (.t 9) 0, some 12, none⟩,
       ⟨.ext (.t 9) 1, some 13, none⟩,
       ⟨.mov (.t 12), some 5, none⟩,
       ⟨.mov (.t 13), some 6, none⟩]) <|
     .seq (.seq (.reg [⟨.mov (.t 6), some 14, none⟩,
        ⟨.un .not (.t 14), some 15, none⟩]) <|
      .cond (.t 15) (.seq (.reg [⟨.mov (.v (.bool true)), some 4, none⟩]) <|
       .ret)
       (.skip)) <|
     .seq (.reg [⟨.mov (.t 0), some 16, none⟩,
       ⟨.nilCheck (.t 16), some 17, none⟩,
       ⟨.fad 0 (.t 17), some 18, none⟩,
       ⟨.ld1 (.t 18), some 19, none⟩,
       ⟨.mov (.t 5), some 20, none⟩,
       ⟨.mov (.t 1), some 21, none⟩,
       ⟨.call (I.f 104) [(.t 19), (.t 20), (.t 21)], some 22, none⟩]) <|
     .block 2 <|
      .seq (.block 5 <|
        .seq (.block 4 <|
          .seq (.block 3 <|
            .seq (.seq (.seq (.reg [⟨.eqT 1 false (.t 22) (.v (.int .i64 0)), some 24, none⟩,
                ⟨.mov (.t 24), some 23, none⟩]) <|
              .cond (.t 23) (.exit 3)
               (.skip)) <|
             .seq (.reg [⟨.eqT 1 false (.t 22) (.v (.int .i64 3)), some 26, none⟩,
               ⟨.mov (.t 26), some 25, none⟩]) <|
             .cond (.t 25) (.exit 4)
              (.skip)) <|
            .exit 5) <|
          .seq (.seq (.reg [⟨.mov (.t 0), some 27, none⟩,
             ⟨.mov (.t 5), some 28, none⟩,
             ⟨.mov (.t 0), some 29, none⟩,
             ⟨.nilCheck (.t 29), some 30, none⟩,
             ⟨.fad 0 (.t 30), some 31, none⟩,
             ⟨.ld1 (.t 31), some 32, none⟩,
             ⟨.call (I.f 103) [(.t 32)], some 33, none⟩,
             ⟨.eqT 1 true (.t 28) (.t 33), some 34, none⟩,
             ⟨.mov (.t 34), some 35, none⟩,
             ⟨.mov (.t 1), some 36, some (35, false)⟩,
             ⟨.mov (.t 0), some 37, some (35, false)⟩,
             ⟨.nilCheck (.t 37), some 38, some (35, false)⟩,
             ⟨.fad 0 (.t 38), some 39, some (35, false)⟩,
             ⟨.ld1 (.t 39), some 40, some (35, false)⟩,
             ⟨.call (I.f 103) [(.t 40)], some 41, some (35, false)⟩,
             ⟨.eqT 1 true (.t 36) (.t 41), some 42, some (35, false)⟩,
             ⟨.pick (.t 35) (.v (.bool true)) (.t 42), some 43, none⟩,
             ⟨.nilCheck (.t 27), some 44, none⟩,
             ⟨.fad 5 (.t 44), some 45, none⟩,
             ⟨.sto 1 (.t 45) (.t 43), none, none⟩]) <|
           .seq (.reg [⟨.mov (.t 0), some 46, none⟩,
             ⟨.nilCheck (.t 46), some 47, none⟩,
             ⟨.fad 5 (.t 47), some 48, none⟩,
             ⟨.ld1 (.t 48), some 49, none⟩,
             ⟨.un .not (.t 49), some 50, none⟩,
             ⟨.mov (.t 50), some 4, none⟩]) <|
           .ret) <|
          .exit 2) <|
        .seq (.reg [⟨.mov (.t 0), some 52, none⟩,
          ⟨.call (I.f 547) [(.t 52)], some 53, none⟩,
          ⟨.mov (.t 53), some 51, none⟩,
          ⟨.ext (.t 51) 0, some 54, none⟩,
          ⟨.ext (.t 51) 1, some 55, none⟩,
          ⟨.mov (.t 54), some 7, none⟩,
          ⟨.mov (.t 55), some 8, none⟩]) <|
        .seq (.reg [⟨.mov (.t 8), some 56, none⟩]) <|
        .cond (.t 56) (.seq (.reg [⟨.mov (.t 0), some 57, none⟩,
           ⟨.mov (.t 0), some 58, none⟩,
           ⟨.mov (.t 7), some 59, none⟩,
           ⟨.call (I.f 548) [(.t 58), (.t 59)], some 60, none⟩,
           ⟨.un .not (.t 60), some 61, none⟩,
           ⟨.nilCheck (.t 57), some 62, none⟩,
           ⟨.fad 5 (.t 62), some 63, none⟩,
           ⟨.sto 1 (.t 63) (.t 61), none, none⟩]) <|
         .seq (.seq (.reg [⟨.mov (.t 0), some 64, none⟩,
            ⟨.nilCheck (.t 64), some 65, none⟩,
            ⟨.fad 5 (.t 65), some 66, none⟩,
            ⟨.ld1 (.t 66), some 67, none⟩]) <|
          .cond (.t 67) (.seq (.reg [⟨.mov (.v (.bool false)), some 4, none⟩]) <|
           .ret)
           (.skip)) <|
         .exit 1)
         (.skip)) <|
      .seq (.seq (.reg [⟨.mov (.v (.bool true)), some 4, none⟩]) <|
       .ret) <|
      .exit 2
-- 406 nt 68 res [.tmp 4] params [*stack.Stack, int]
-- 528 nt 14 res [] params []
/-- (*dovetail/stack.Stack).term -/
def c546 (I : Ids) : IC :=
  .seq (.reg [⟨.mov (.v (.int .i64 0)), some 4, none⟩,
    ⟨.mov (.v (.bool false)), some 5, none⟩]) <|
  .seq (.reg [⟨.mov (.t 0), some 7, none⟩,
    ⟨.nilCheck (.t 7), some 8, none⟩,
    ⟨.fad 7 (.t 8), some 9, none⟩,
    ⟨.ld1 (.t 9), some 10, none⟩,
    ⟨.lenL (.t 10), some 11, none⟩,
    ⟨.bin .sub (.t 11) (.v (.int .i64 1)), some 12, none⟩,
    ⟨.mov (.t 1), some 13, none⟩,
    ⟨.bin .sub (.t 12) (.t 13), some 14, none⟩,
    ⟨.mov (.t 14), some 6, none⟩]) <|
  .seq (.seq (.reg [⟨.mov (.t 6), some 15, none⟩,
     ⟨.bin .geq (.t 15) (.v (.int .i64 0)), some 16, none⟩]) <|
   .cond (.t 16) (.seq (.drw [⟨.mov (.t 0), some 17, none⟩,
      ⟨.nilCheck (.t 17), some 18, none⟩,
      ⟨.fad 6 (.t 18), some 19, none⟩,
      ⟨.ld1 (.t 19), some 20, none⟩,
      ⟨.mov (.t 0), some 21, none⟩,
      ⟨.nilCheck (.t 21), some 22, none⟩,
      ⟨.fad 7 (.t 22), some 23, none⟩,
      ⟨.ld1 (.t 23), some 24, none⟩,
      ⟨.mov (.t 6), some 25, none⟩,
      ⟨.ixL 1 (.t 24) (.t 25), some 26, none⟩,
      ⟨.ld1 (.t 26), some 27, none⟩,
      ⟨.ixL 4 (.t 20) (.t 27), some 28, none⟩,
      ⟨.fad 0 (.t 28), some 29, none⟩,
      ⟨.ld1 (.t 29), some 30, none⟩,
      ⟨.mov (.t 30), some 4, none⟩,
      ⟨.mov (.v (.bool true)), some 5, none⟩]) <|
    .ret)
    (.skip)) <|
  .seq (.drw [⟨.mov (.t 0), some 31, none⟩,
    ⟨.nilCheck (.t 31), some 32, none⟩,
    ⟨.fad 0 (.t 32), some 33, none⟩,
    ⟨.ld1 (.t 33), some 34, none⟩,
    ⟨.call (I.f 103) [(.t 34)], some 35, none⟩,
    ⟨.mov (.t 6), some 36, none⟩,
    ⟨.eqT 1 false (.t 36) (.v (.int .i64 (-1))), some 37, none⟩,
    ⟨.mov (.t 37), some 38, none⟩,
    ⟨.mov (.t 0), some 39, some (38, true)⟩,
    ⟨.nilCheck (.t 39), some 40, some (38, true)⟩,
    ⟨.fad 3 (.t 40), some 41, some (38, true)⟩,
    ⟨.ld1 (.t 41), some 42, some (38, true)⟩,
    ⟨.pick (.t 38) (.t 42) (.v (.bool false)), some 43, none⟩,
    ⟨.mov (.t 35), some 4, none⟩,
    ⟨.mov (.t 43), some 5, none⟩]) <|
  .ret
-- 546 nt 44 res [.tmp 4, .tmp 5] params [*stack.Stack, int]
end Go.Vm
/- The code of functions, looked up; printed. -/
namespace Go.Vm
set_option maxRecDepth 100000
/-- dovetail/chunk.Parse -/
def c157 (I : Ids) : IC :=
  .seq (.reg [⟨.box (I.t 50) (.t 0), some 4, none⟩,
    ⟨.alc (newBlk [(.int .i64 0), (.int .i64 0), (.slice none 0 (.ex 0)), (.slice none 0 (.ex 0))] (I.t 177)), some 8, none⟩,
    ⟨.mov (.v .nilIface), some 9, none⟩]) <|
  .seq (.block 0 <|
    .seq (.reg [⟨.ld1 (.t 4), some 15, none⟩,
      ⟨.isN 0 false (.t 15), some 16, none⟩,
      ⟨.mov (.t 16), some 14, none⟩]) <|
    .cond (.t 14) (.seq (.drv [⟨⟨.bld [(.int .i64 0), (.int .i64 0), (.slice none 0 (.ex 0)), (.slice none 0 (.ex 0))] [], some 17, none⟩, 0, [], [], []⟩,
       ⟨⟨.ld1 (.v (.ptr (some (I.g 1, 0)))), some 18, none⟩, 1, [], [], []⟩,
       ⟨⟨.sto 4 (.t 8) (.t 17), none, none⟩, 3, [], [1], []⟩,
       ⟨⟨.mov (.t 18), some 9, none⟩, 0, [], [], []⟩]) <|
     .ret)
     (.seq (.reg [⟨.mov (.t 1), some 20, none⟩,
       ⟨.lenL (.t 20), some 21, none⟩,
       ⟨.bin .gtr (.t 21) (.v (.int .i64 65536)), some 22, none⟩,
       ⟨.mov (.t 22), some 19, none⟩]) <|
     .cond (.t 19) (.seq (.drv [⟨⟨.bld [(.int .i64 0), (.int .i64 0), (.slice none 0 (.ex 0)), (.slice none 0 (.ex 0))] [], some 23, none⟩, 0, [], [], []⟩,
        ⟨⟨.ld1 (.v (.ptr (some (I.g 0, 0)))), some 24, none⟩, 1, [], [], []⟩,
        ⟨⟨.sto 4 (.t 8) (.t 23), none, none⟩, 3, [], [1], []⟩,
        ⟨⟨.mov (.t 24), some 9, none⟩, 0, [], [], []⟩]) <|
      .ret)
      (.seq (.reg [⟨.mov (.t 2), some 26, none⟩,
        ⟨.bin .lss (.t 26) (.v (.int .i64 0)), some 27, none⟩,
        ⟨.mov (.t 27), some 28, none⟩,
        ⟨.mov (.t 3), some 29, some (28, false)⟩,
        ⟨.mov (.t 1), some 30, some (28, false)⟩,
        ⟨.lenL (.t 30), some 31, some (28, false)⟩,
        ⟨.bin .gtr (.t 29) (.t 31), some 32, some (28, false)⟩,
        ⟨.pick (.t 28) (.v (.bool true)) (.t 32), some 33, none⟩,
        ⟨.mov (.t 33), some 34, none⟩,
        ⟨.mov (.t 3), some 35, some (34, false)⟩,
        ⟨.mov (.t 2), some 36, some (34, false)⟩,
        ⟨.bin .lss (.t 35) (.t 36), some 37, some (34, false)⟩,
        ⟨.pick (.t 34) (.v (.bool true)) (.t 37), some 38, none⟩,
        ⟨.mov (.t 38), some 25, none⟩]) <|
      .cond (.t 25) (.seq (.drv [⟨⟨.bld [(.int .i64 0), (.int .i64 0), (.slice none 0 (.ex 0)), (.slice none 0 (.ex 0))] [], some 39, none⟩, 0, [], [], []⟩,
         ⟨⟨.ld1 (.v (.ptr (some (I.g 8, 0)))), some 40, none⟩, 1, [], [], []⟩,
         ⟨⟨.sto 4 (.t 8) (.t 39), none, none⟩, 3, [], [1], []⟩,
         ⟨⟨.mov (.t 40), some 9, none⟩, 0, [], [], []⟩]) <|
       .ret)
       (.seq (.reg [⟨.mov (.t 1), some 42, none⟩,
         ⟨.mov (.t 2), some 43, none⟩,
         ⟨.mov (.t 3), some 44, none⟩,
         ⟨.slL (I.t 3) 1 (.t 42) (some (.t 43)) (some (.t 44)) none, some 45, none⟩,
         ⟨.mkF (I.f 385) [] [(.t 4)], some 46, none⟩,
         ⟨.call (I.f 363) [(.t 45), (.t 46)], some 47, none⟩,
         ⟨.mov (.t 47), some 41, none⟩]) <|
       .cond (.t 41) (.seq (.drv [⟨⟨.bld [(.int .i64 0), (.int .i64 0), (.slice none 0 (.ex 0)), (.slice none 0 (.ex 0))] [], some 48, none⟩, 0, [], [], []⟩,
          ⟨⟨.ld1 (.v (.ptr (some (I.g 1, 0)))), some 49, none⟩, 1, [], [], []⟩,
          ⟨⟨.sto 4 (.t 8) (.t 48), none, none⟩, 3, [], [1], []⟩,
          ⟨⟨.mov (.t 49), some 9, none⟩, 0, [], [], []⟩]) <|
        .ret)
        (.skip))))) <|
  .seq (.reg [⟨.ld1 (.t 4), some 50, none⟩,
    ⟨.mov (.t 2), some 51, none⟩,
    ⟨.call (I.f 175) [(.t 50), (.t 51)], some 52, none⟩,
    ⟨.mov (.t 52), some 10, none⟩]) <|
  .seq (.seq (.reg [⟨.mov (.t 1), some 53, none⟩,
     ⟨.mov (.t 2), some 54, none⟩,
     ⟨.mov (.t 3), some 55, none⟩,
     ⟨.slL (I.t 3) 1 (.t 53) (some (.t 54)) (some (.t 55)) none, some 56, none⟩,
     ⟨.lenL (.t 56), some 57, none⟩,
     ⟨.mov (.v (.int .i64 0)), some 58, none⟩]) <|
   .block 1 <|
    .loop <|
     .seq (.reg [⟨.bin .lss (.t 58) (.t 57), some 59, none⟩]) <|
     .seq (.cond (.t 59) (.skip)
       (.exit 1)) <|
     .seq (.block 2 <|
       .seq (.reg [⟨.mov (.t 58), some 60, none⟩,
         ⟨.ixL 1 (.t 56) (.t 58), some 61, none⟩,
         ⟨.ld1 (.t 61), some 62, none⟩,
         ⟨.mov (.t 60), some 11, none⟩,
         ⟨.mov (.t 62), some 12, none⟩]) <|
       .seq (.reg [⟨.mov (.t 10), some 63, none⟩,
         ⟨.mov (.t 12), some 64, none⟩,
         ⟨.call (I.f 176) [(.t 63), (.t 64)], some 65, none⟩,
         ⟨.mov (.t 65), some 13, none⟩]) <|
       .seq (.reg [⟨.mov (.t 13), some 66, none⟩,
         ⟨.isN 1 true (.t 66), some 67, none⟩]) <|
       .cond (.t 67) (.seq (.reg [⟨.bld [(.int .i64 0), (.int .i64 0), (.slice none 0 (.ex 0)), (.slice none 0 (.ex 0))] [], some 68, none⟩,
          ⟨.mov (.t 2), some 69, none⟩,
          ⟨.mov (.t 11), some 70, none⟩,
          ⟨.bin .add (.t 69) (.t 70), some 71, none⟩,
          ⟨.mov (.t 13), some 72, none⟩,
          ⟨.bld [(.int .i64 0), .nilIface] [(0, 1, (.t 71)), (1, 1, (.t 72))], some 73, none⟩,
          ⟨.box (I.t 382) (.t 73), some 74, none⟩,
          ⟨.ifc (I.t 379) (.t 74), some 75, none⟩,
          ⟨.sto 4 (.t 8) (.t 68), none, none⟩,
          ⟨.mov (.t 75), some 9, none⟩]) <|
        .ret)
        (.skip)) <|
     .reg [⟨.bin .add (.t 58) (.v (.int .i64 1)), some 76, none⟩,
      ⟨.mov (.t 76), some 58, none⟩]) <|
  .seq (.reg [⟨.mov (.t 10), some 77, none⟩,
    ⟨.call (I.f 179) [(.t 77)], some 78, none⟩,
    ⟨.ext (.t 78) 0, some 79, none⟩,
    ⟨.ext (.t 78) 1, some 80, none⟩,
    ⟨.sto 4 (.t 8) (.t 79), none, none⟩,
    ⟨.mov (.t 80), some 9, none⟩]) <|
  .ret
-- 157 nt 81 res [.cell 8 (I.t 177), .tmp 9] params [*tables.Tables, []int, int, int]
/-- dovetail/stack.New -/
def c175 (I : Ids) : IC :=
  .seq (.reg [⟨.mov (.v (.ptr none)), some 4, none⟩]) <|
  .seq (.seq (.reg [⟨.mov (.t 0), some 5, none⟩,
     ⟨.isN 0 false (.t 5), some 6, none⟩,
     ⟨.mov (.t 6), some 7, none⟩,
     ⟨.mov (.t 1), some 8, some (7, false)⟩,
     ⟨.bin .lss (.t 8) (.v (.int .i64 0)), some 9, some (7, false)⟩,
     ⟨.pick (.t 7) (.v (.bool true)) (.t 9), some 10, none⟩,
     ⟨.mov (.t 10), some 11, none⟩,
     ⟨.mov (.t 1), some 12, some (11, false)⟩,
     ⟨.bin .gtr (.t 12) (.v (.int .i64 65536)), some 13, some (11, false)⟩,
     ⟨.pick (.t 11) (.v (.bool true)) (.t 13), some 14, none⟩]) <|
   .cond (.t 14) (.seq (.reg [⟨.mov (.v (.ptr none)), some 4, none⟩]) <|
    .ret)
    (.skip)) <|
  .seq (.reg [⟨.mov (.t 0), some 15, none⟩,
    ⟨.mov (.t 1), some 16, none⟩,
    ⟨.mov (.t 1), some 17, none⟩,
    ⟨.bld [(.ptr none), (.int .i64 0), (.int .i64 0), (.bool false), (.bool false), (.bool false), (.slice none 0 (.ex 0)), (.slice none 0 (.ex 0)), (.slice none 0 (.ex 0)), (.slice none 0 (.ex 0))] [(0, 1, (.t 15)), (1, 1, (.t 16)), (2, 1, (.t 17))], some 18, none⟩,
    ⟨.box (I.t 491) (.t 18), some 19, none⟩,
    ⟨.mov (.t 19), some 4, none⟩]) <|
  .ret
-- 175 nt 20 res [.tmp 4] params [*tables.Tables, int]
/-- (*dovetail/stack.Stack).Piece -/
def c179 (I : Ids) : IC :=
  .seq (.reg [⟨.alc (newBlk [(.int .i64 0), (.int .i64 0), (.slice none 0 (.ex 0)), (.slice none 0 (.ex 0))] (I.t 177)), some 2, none⟩,
    ⟨.mov (.v .nilIface), some 3, none⟩]) <|
  .seq (.seq (.reg [⟨.mov (.t 0), some 4, none⟩,
     ⟨.isN 0 false (.t 4), some 5, none⟩,
     ⟨.mov (.t 5), some 6, none⟩,
     ⟨.mov (.t 0), some 7, some (6, false)⟩,
     ⟨.nilCheck (.t 7), some 8, some (6, false)⟩,
     ⟨.fad 3 (.t 8), some 9, some (6, false)⟩,
     ⟨.ld1 (.t 9), some 10, some (6, false)⟩,
     ⟨.pick (.t 6) (.v (.bool true)) (.t 10), some 11, none⟩]) <|
   .cond (.t 11) (.seq (.drv [⟨⟨.bld [(.int .i64 0), (.int .i64 0), (.slice none 0 (.ex 0)), (.slice none 0 (.ex 0))] [], some 12, none⟩, 0, [], [], []⟩,
      ⟨⟨.ld1 (.v (.ptr (some (I.g 1, 0)))), some 13, none⟩, 1, [], [], []⟩,
      ⟨⟨.sto 4 (.t 2) (.t 12), none, none⟩, 3, [], [1], []⟩,
      ⟨⟨.mov (.t 13), some 3, none⟩, 0, [], [], []⟩]) <|
    .ret)
    (.skip)) <|
  .seq (.seq (.reg [⟨.mov (.t 0), some 14, none⟩,
     ⟨.nilCheck (.t 14), some 15, none⟩,
     ⟨.fad 5 (.t 15), some 16, none⟩,
     ⟨.ld1 (.t 16), some 17, none⟩]) <|
   .cond (.t 17) (.seq (.drv [⟨⟨.bld [(.int .i64 0), (.int .i64 0), (.slice none 0 (.ex 0)), (.slice none 0 (.ex 0))] [], some 18, none⟩, 0, [], [], []⟩,
      ⟨⟨.ld1 (.v (.ptr (some (I.g 7, 0)))), some 19, none⟩, 1, [], [], []⟩,
      ⟨⟨.sto 4 (.t 2) (.t 18), none, none⟩, 3, [], [1], []⟩,
      ⟨⟨.mov (.t 19), some 3, none⟩, 0, [], [], []⟩]) <|
    .ret)
    (.skip)) <|
  .seq (.drv [⟨⟨.mov (.t 0), some 20, none⟩, 0, [], [], []⟩,
    ⟨⟨.nilCheck (.t 20), some 21, none⟩, 0, [], [], []⟩,
    ⟨⟨.fad 1 (.t 21), some 22, none⟩, 0, [], [], []⟩,
    ⟨⟨.ld1 (.t 22), some 23, none⟩, 1, [], [], []⟩,
    ⟨⟨.mov (.t 0), some 24, none⟩, 0, [], [], []⟩,
    ⟨⟨.nilCheck (.t 24), some 25, none⟩, 0, [], [], []⟩,
    ⟨⟨.fad 2 (.t 25), some 26, none⟩, 0, [], [], []⟩,
    ⟨⟨.ld1 (.t 26), some 27, none⟩, 1, [], [], []⟩,
    ⟨⟨.mov (.t 0), some 28, none⟩, 0, [], [], []⟩,
    ⟨⟨.nilCheck (.t 28), some 29, none⟩, 0, [], [], []⟩,
    ⟨⟨.fad 6 (.t 29), some 30, none⟩, 0, [], [], []⟩,
    ⟨⟨.ld1 (.t 30), some 31, none⟩, 1, [], [], []⟩,
    ⟨⟨.call (I.f 392) [(.t 31)], some 32, none⟩, 3, [], [3, 7], []⟩,
    ⟨⟨.call (I.f 391) [(.t 32)], some 33, none⟩, 3, [], [3, 7], []⟩,
    ⟨⟨.mov (.t 0), some 34, none⟩, 0, [], [], []⟩,
    ⟨⟨.nilCheck (.t 34), some 35, none⟩, 0, [], [], []⟩,
    ⟨⟨.fad 8 (.t 35), some 36, none⟩, 0, [], [], []⟩,
    ⟨⟨.ld1 (.t 36), some 37, none⟩, 1, [12, 13], [], [(.t 36)]⟩,
    ⟨⟨.call (I.f 405) [(.t 37)], some 38, none⟩, 3, [], [3, 7], []⟩,
    ⟨⟨.bld [(.int .i64 0), (.int .i64 0), (.slice none 0 (.ex 0)), (.slice none 0 (.ex 0))] [(0, 1, (.t 23)), (1, 1, (.t 27)), (2, 1, (.t 33)), (3, 1, (.t 38))], some 39, none⟩, 0, [], [], []⟩,
    ⟨⟨.sto 4 (.t 2) (.t 39), none, none⟩, 3, [], [], []⟩,
    ⟨⟨.mov (.v .nilIface), some 3, none⟩, 0, [], [], []⟩]) <|
  .ret
-- 179 nt 40 res [.cell 2 (I.t 177), .tmp 3] params [*stack.Stack]
/-- (*dovetail/doc.Doc).Replace -/
def c232 (I : Ids) : IC :=
  .seq (.reg [⟨.box (I.t 266) (.t 0), some 4, none⟩,
    ⟨.box (I.t 3) (.t 1), some 5, none⟩,
    ⟨.mov (.v .nilIface), some 8, none⟩]) <|
  .seq (.block 0 <|
    .seq (.reg [⟨.ld1 (.t 4), some 12, none⟩,
      ⟨.isN 0 false (.t 12), some 13, none⟩,
      ⟨.mov (.t 13), some 11, none⟩]) <|
    .cond (.t 11) (.seq (.reg [⟨.ld1 (.v (.ptr (some (I.g 1, 0)))), some 14, none⟩,
       ⟨.mov (.t 14), some 8, none⟩]) <|
     .ret)
     (.seq (.reg [⟨.ld1 (.t 5), some 16, none⟩,
       ⟨.bin .lss (.t 16) (.v (.int .i64 0)), some 17, none⟩,
       ⟨.mov (.t 17), some 18, none⟩,
       ⟨.mov (.t 2), some 19, some (18, false)⟩,
       ⟨.ld1 (.t 4), some 20, some (18, false)⟩,
       ⟨.nilCheck (.t 20), some 21, some (18, false)⟩,
       ⟨.fad 0 (.t 21), some 22, some (18, false)⟩,
       ⟨.call (I.f 433) [(.t 22)], some 23, some (18, false)⟩,
       ⟨.bin .gtr (.t 19) (.t 23), some 24, some (18, false)⟩,
       ⟨.pick (.t 18) (.v (.bool true)) (.t 24), some 25, none⟩,
       ⟨.mov (.t 25), some 26, none⟩,
       ⟨.mov (.t 2), some 27, some (26, false)⟩,
       ⟨.ld1 (.t 5), some 28, some (26, false)⟩,
       ⟨.bin .lss (.t 27) (.t 28), some 29, some (26, false)⟩,
       ⟨.pick (.t 26) (.v (.bool true)) (.t 29), some 30, none⟩,
       ⟨.mov (.t 30), some 15, none⟩]) <|
     .cond (.t 15) (.seq (.reg [⟨.ld1 (.v (.ptr (some (I.g 8, 0)))), some 31, none⟩,
        ⟨.mov (.t 31), some 8, none⟩]) <|
      .ret)
      (.seq (.drv [⟨⟨.mov (.t 3), some 33, none⟩, 0, [], [], []⟩,
        ⟨⟨.lenL (.t 33), some 34, none⟩, 0, [], [], []⟩,
        ⟨⟨.ld1 (.t 4), some 35, none⟩, 1, [], [], []⟩,
        ⟨⟨.nilCheck (.t 35), some 36, none⟩, 0, [], [], []⟩,
        ⟨⟨.fad 0 (.t 36), some 37, none⟩, 0, [], [], []⟩,
        ⟨⟨.call (I.f 433) [(.t 37)], some 38, none⟩, 3, [], [], []⟩,
        ⟨⟨.mov (.t 2), some 39, none⟩, 0, [], [], []⟩,
        ⟨⟨.ld1 (.t 5), some 40, none⟩, 1, [5], [], [(.t 5)]⟩,
        ⟨⟨.bin .sub (.t 39) (.t 40), some 41, none⟩, 0, [], [], []⟩,
        ⟨⟨.bin .sub (.t 38) (.t 41), some 42, none⟩, 0, [], [], []⟩,
        ⟨⟨.bin .sub (.v (.int .i64 65536)) (.t 42), some 43, none⟩, 0, [], [], []⟩,
        ⟨⟨.bin .gtr (.t 34) (.t 43), some 44, none⟩, 0, [], [], []⟩,
        ⟨⟨.mov (.t 44), some 32, none⟩, 0, [], [], []⟩]) <|
      .cond (.t 32) (.seq (.reg [⟨.ld1 (.v (.ptr (some (I.g 0, 0)))), some 45, none⟩,
         ⟨.mov (.t 45), some 8, none⟩]) <|
       .ret)
       (.seq (.reg [⟨.ld1 (.t 4), some 47, none⟩,
         ⟨.nilCheck (.t 47), some 48, none⟩,
         ⟨.fad 0 (.t 48), some 49, none⟩,
         ⟨.fad 0 (.t 49), some 50, none⟩,
         ⟨.ld1 (.t 50), some 51, none⟩,
         ⟨.mov (.t 3), some 52, none⟩,
         ⟨.call (I.f 431) [(.t 51), (.t 52)], some 53, none⟩,
         ⟨.un .not (.t 53), some 54, none⟩,
         ⟨.mov (.t 54), some 46, none⟩]) <|
       .cond (.t 46) (.seq (.reg [⟨.ld1 (.v (.ptr (some (I.g 1, 0)))), some 55, none⟩,
          ⟨.mov (.t 55), some 8, none⟩]) <|
        .ret)
        (.skip))))) <|
  .seq (.drv [⟨⟨.ld1 (.t 4), some 56, none⟩, 1, [], [], []⟩,
    ⟨⟨.nilCheck (.t 56), some 57, none⟩, 0, [], [], []⟩,
    ⟨⟨.fad 0 (.t 57), some 58, none⟩, 0, [], [], []⟩,
    ⟨⟨.ld1 (.t 5), some 59, none⟩, 1, [], [], []⟩,
    ⟨⟨.mov (.t 2), some 60, none⟩, 0, [], [], []⟩,
    ⟨⟨.mov (.t 3), some 61, none⟩, 0, [], [], []⟩,
    ⟨⟨.call (I.f 432) [(.t 58), (.t 59), (.t 60), (.t 61)], some 62, none⟩, 3, [], [], []⟩,
    ⟨⟨.alc (newBlk [(.slice none 0 (.ex 0))] (I.t 69)), some 9, none⟩, 2, [6], [], []⟩,
    ⟨⟨.sto 1 (.t 9) (.t 62), none, none⟩, 3, [], [], []⟩]) <|
  .seq (.reg [⟨.mov (.t 3), some 63, none⟩,
    ⟨.lenL (.t 63), some 64, none⟩,
    ⟨.alc (newBlk [(.int .i64 0)] (I.t 3)), some 10, none⟩,
    ⟨.sto 1 (.t 10) (.t 64), none, none⟩]) <|
  .seq (.drv [⟨⟨.ld1 (.t 4), some 65, none⟩, 1, [], [], []⟩,
    ⟨⟨.ld1 (.t 4), some 66, none⟩, 1, [], [], []⟩,
    ⟨⟨.nilCheck (.t 66), some 67, none⟩, 0, [], [], []⟩,
    ⟨⟨.fad 4 (.t 67), some 68, none⟩, 0, [], [], []⟩,
    ⟨⟨.ld1 (.t 68), some 69, none⟩, 1, [], [], []⟩,
    ⟨⟨.mkF (I.f 434) [] [(.t 4), (.t 5), (.t 10), (.t 9)], some 70, none⟩, 0, [], [], []⟩,
    ⟨⟨.bSl (I.t 272) 1 1 [.nilFunc] [(0, (.t 70))], some 71, none⟩, 2, [], [], []⟩,
    ⟨⟨.app (I.t 272) 1 (.t 69) (.t 71), some 72, none⟩, 3, [], [0], []⟩,
    ⟨⟨.nilCheck (.t 65), some 73, none⟩, 0, [], [], []⟩,
    ⟨⟨.fad 4 (.t 73), some 74, none⟩, 0, [], [], []⟩,
    ⟨⟨.sto 1 (.t 74) (.t 72), none, none⟩, 3, [], [], []⟩]) <|
  .seq (.reg [⟨.mov (.v .nilIface), some 8, none⟩]) <|
  .ret
-- 232 nt 75 res [.tmp 8] params [*doc.Doc, int, int, []int]
/-- slices.Clone[[]int,int] -/
def c352 (I : Ids) : IC :=
  .seq (.reg [⟨.mov (.v (.slice none 0 (.ex 0))), some 2, none⟩]) <|
  .seq (.seq (.reg [⟨.mov (.t 0), some 3, none⟩,
     ⟨.isN 2 false (.t 3), some 4, none⟩]) <|
   .cond (.t 4) (.seq (.reg [⟨.mov (.v (.slice none 0 (.ex 0))), some 2, none⟩]) <|
    .ret)
    (.skip)) <|
  .seq (.reg [⟨.bSl (I.t 3) 1 0 [] [], some 5, none⟩,
    ⟨.mov (.t 0), some 6, none⟩,
    ⟨.app (I.t 3) 1 (.t 5) (.t 6), some 7, none⟩,
    ⟨.mov (.t 7), some 2, none⟩]) <|
  .ret
-- 352 nt 8 res [.tmp 2] params [[]int]
/-- dovetail/chunk.Parse$1 -/
def c385 (I : Ids) : IC :=
  .seq (.reg [⟨.mov (.v (.bool false)), some 3, none⟩]) <|
  .seq (.reg [⟨.mov (.t 0), some 4, none⟩,
    ⟨.bin .lss (.t 4) (.v (.int .i64 0)), some 5, none⟩,
    ⟨.mov (.t 5), some 6, none⟩,
    ⟨.mov (.t 0), some 7, some (6, false)⟩,
    ⟨.ld1 (.t 1), some 8, some (6, false)⟩,
    ⟨.call (I.f 103) [(.t 8)], some 9, some (6, false)⟩,
    ⟨.bin .geq (.t 7) (.t 9), some 10, some (6, false)⟩,
    ⟨.pick (.t 6) (.v (.bool true)) (.t 10), some 11, none⟩,
    ⟨.mov (.t 11), some 3, none⟩]) <|
  .ret
-- 385 nt 12 res [.tmp 3] params [int]
/-- dovetail/stack.preorder -/
def c405 (I : Ids) : IC :=
  .seq (.reg [⟨.mov (.v (.slice none 0 (.ex 0))), some 2, none⟩]) <|
  .seq (.reg [⟨.mov (.t 0), some 4, none⟩,
    ⟨.call (I.f 393) [(.t 4)], some 5, none⟩,
    ⟨.mov (.t 5), some 3, none⟩]) <|
  .seq (.reg [⟨.mov (.t 3), some 6, none⟩,
    ⟨.call (I.f 544) [(.t 6), (.v (.func (I.f 545) [] []))], some 7, none⟩]) <|
  .seq (.reg [⟨.mov (.t 3), some 8, none⟩,
    ⟨.call (I.f 358) [(.t 8)], some 9, none⟩,
    ⟨.mov (.t 9), some 2, none⟩]) <|
  .ret
-- 405 nt 10 res [.tmp 2] params [[]api.Step]
/-- dovetail/doc.right -/
def c431 (I : Ids) : IC :=
  .seq (.reg [⟨.box (I.t 50) (.t 0), some 2, none⟩,
    ⟨.mov (.v (.bool false)), some 4, none⟩]) <|
  .seq (.reg [⟨.mov (.t 1), some 5, none⟩,
    ⟨.mkF (I.f 561) [] [(.t 2)], some 6, none⟩,
    ⟨.call (I.f 363) [(.t 5), (.t 6)], some 7, none⟩,
    ⟨.un .not (.t 7), some 8, none⟩,
    ⟨.mov (.t 8), some 4, none⟩]) <|
  .ret
-- 431 nt 9 res [.tmp 4] params [*tables.Tables, []int]
/-- (*dovetail/doc.list).put -/
def c432 (I : Ids) : IC :=
  .seq (.reg [⟨.mov (.v (.slice none 0 (.ex 0))), some 8, none⟩]) <|
  .seq (.reg [⟨.mov (.v (.int .i64 0)), some 9, none⟩,
    ⟨.mov (.v (.int .i64 0)), some 10, none⟩]) <|
  .seq (.block 0 <|
    .loop <|
     .seq (.seq (.reg [⟨.mov (.t 9), some 18, none⟩,
        ⟨.mov (.t 0), some 19, none⟩,
        ⟨.nilCheck (.t 19), some 20, none⟩,
        ⟨.fad 1 (.t 20), some 21, none⟩,
        ⟨.ld1 (.t 21), some 22, none⟩,
        ⟨.lenL (.t 22), some 23, none⟩,
        ⟨.bin .lss (.t 18) (.t 23), some 24, none⟩,
        ⟨.mov (.t 24), some 25, none⟩,
        ⟨.mov (.t 10), some 26, some (25, true)⟩,
        ⟨.mov (.t 0), some 27, some (25, true)⟩,
        ⟨.nilCheck (.t 27), some 28, some (25, true)⟩,
        ⟨.fad 1 (.t 28), some 29, some (25, true)⟩,
        ⟨.ld1 (.t 29), some 30, some (25, true)⟩,
        ⟨.mov (.t 9), some 31, some (25, true)⟩,
        ⟨.ixL 6 (.t 30) (.t 31), some 32, some (25, true)⟩,
        ⟨.fad 0 (.t 32), some 33, some (25, true)⟩,
        ⟨.ld1 (.t 33), some 34, some (25, true)⟩,
        ⟨.lenL (.t 34), some 35, some (25, true)⟩,
        ⟨.bin .add (.t 26) (.t 35), some 36, some (25, true)⟩,
        ⟨.mov (.t 1), some 37, some (25, true)⟩,
        ⟨.bin .lss (.t 36) (.t 37), some 38, some (25, true)⟩,
        ⟨.pick (.t 25) (.t 38) (.v (.bool false)), some 39, none⟩]) <|
      .cond (.t 39) (.skip)
       (.exit 0)) <|
     .block 1 <|
      .seq (.reg [⟨.mov (.t 10), some 40, none⟩,
        ⟨.mov (.t 0), some 41, none⟩,
        ⟨.nilCheck (.t 41), some 42, none⟩,
        ⟨.fad 1 (.t 42), some 43, none⟩,
        ⟨.ld1 (.t 43), some 44, none⟩,
        ⟨.mov (.t 9), some 45, none⟩,
        ⟨.ixL 6 (.t 44) (.t 45), some 46, none⟩,
        ⟨.fad 0 (.t 46), some 47, none⟩,
        ⟨.ld1 (.t 47), some 48, none⟩,
        ⟨.lenL (.t 48), some 49, none⟩,
        ⟨.bin .add (.t 40) (.t 49), some 50, none⟩,
        ⟨.mov (.t 50), some 10, none⟩]) <|
      .reg [⟨.mov (.t 9), some 51, none⟩,
       ⟨.bin .add (.t 51) (.v (.int .i64 1)), some 52, none⟩,
       ⟨.mov (.t 52), some 9, none⟩]) <|
  .seq (.reg [⟨.mov (.t 9), some 53, none⟩,
    ⟨.mov (.t 10), some 54, none⟩,
    ⟨.mov (.t 53), some 11, none⟩,
    ⟨.mov (.t 54), some 12, none⟩]) <|
  .seq (.block 2 <|
    .loop <|
     .seq (.seq (.reg [⟨.mov (.t 11), some 55, none⟩,
        ⟨.mov (.t 0), some 56, none⟩,
        ⟨.nilCheck (.t 56), some 57, none⟩,
        ⟨.fad 1 (.t 57), some 58, none⟩,
        ⟨.ld1 (.t 58), some 59, none⟩,
        ⟨.lenL (.t 59), some 60, none⟩,
        ⟨.bin .lss (.t 55) (.t 60), some 61, none⟩,
        ⟨.mov (.t 61), some 62, none⟩,
        ⟨.mov (.t 12), some 63, some (62, true)⟩,
        ⟨.mov (.t 2), some 64, some (62, true)⟩,
        ⟨.bin .lss (.t 63) (.t 64), some 65, some (62, true)⟩,
        ⟨.mov (.t 65), some 66, some (62, true)⟩,
        ⟨.mov (.t 11), some 67, some (66, false)⟩,
        ⟨.mov (.t 9), some 68, some (66, false)⟩,
        ⟨.eqT 1 false (.t 67) (.t 68), some 69, some (66, false)⟩,
        ⟨.pick (.t 66) (.v (.bool true)) (.t 69), some 70, some (62, true)⟩,
        ⟨.pick (.t 62) (.t 70) (.v (.bool false)), some 71, none⟩]) <|
      .cond (.t 71) (.skip)
       (.exit 2)) <|
     .block 3 <|
      .seq (.reg [⟨.mov (.t 12), some 72, none⟩,
        ⟨.mov (.t 0), some 73, none⟩,
        ⟨.nilCheck (.t 73), some 74, none⟩,
        ⟨.fad 1 (.t 74), some 75, none⟩,
        ⟨.ld1 (.t 75), some 76, none⟩,
        ⟨.mov (.t 11), some 77, none⟩,
        ⟨.ixL 6 (.t 76) (.t 77), some 78, none⟩,
        ⟨.fad 0 (.t 78), some 79, none⟩,
        ⟨.ld1 (.t 79), some 80, none⟩,
        ⟨.lenL (.t 80), some 81, none⟩,
        ⟨.bin .add (.t 72) (.t 81), some 82, none⟩,
        ⟨.mov (.t 82), some 12, none⟩]) <|
      .reg [⟨.mov (.t 11), some 83, none⟩,
       ⟨.bin .add (.t 83) (.v (.int .i64 1)), some 84, none⟩,
       ⟨.mov (.t 84), some 11, none⟩]) <|
  .seq (.reg [⟨.mov (.v (.slice none 0 (.ex 0))), some 13, none⟩]) <|
  .seq (.seq (.reg [⟨.mov (.t 0), some 85, none⟩,
     ⟨.nilCheck (.t 85), some 86, none⟩,
     ⟨.fad 1 (.t 86), some 87, none⟩,
     ⟨.ld1 (.t 87), some 88, none⟩,
     ⟨.mov (.t 9), some 89, none⟩,
     ⟨.mov (.t 11), some 90, none⟩,
     ⟨.slL (I.t 528) 6 (.t 88) (some (.t 89)) (some (.t 90)) none, some 91, none⟩,
     ⟨.lenL (.t 91), some 92, none⟩,
     ⟨.mov (.v (.int .i64 0)), some 93, none⟩]) <|
   .block 4 <|
    .loop <|
     .seq (.reg [⟨.bin .lss (.t 93) (.t 92), some 94, none⟩]) <|
     .seq (.cond (.t 94) (.skip)
       (.exit 4)) <|
     .seq (.block 5 <|
       .seq (.reg [⟨.ixL 6 (.t 91) (.t 93), some 95, none⟩,
         ⟨.ldN 6 (.t 95), some 96, none⟩,
         ⟨.alc (newBlk [(.slice none 0 (.ex 0)), (.int .i64 0), (.int .i64 0), (.slice none 0 (.ex 0)), (.slice none 0 (.ex 0)), .nilIface] (I.t 528)), some 15, none⟩,
         ⟨.sto 6 (.t 15) (.t 96), none, none⟩]) <|
       .reg [⟨.mov (.t 13), some 97, none⟩,
        ⟨.fad 0 (.t 15), some 98, none⟩,
        ⟨.ld1 (.t 98), some 99, none⟩,
        ⟨.app (I.t 3) 1 (.t 97) (.t 99), some 100, none⟩,
        ⟨.mov (.t 100), some 13, none⟩]) <|
     .reg [⟨.bin .add (.t 93) (.v (.int .i64 1)), some 101, none⟩,
      ⟨.mov (.t 101), some 93, none⟩]) <|
  .seq (.reg [⟨.mov (.t 13), some 102, none⟩,
    ⟨.mov (.t 1), some 103, none⟩,
    ⟨.mov (.t 10), some 104, none⟩,
    ⟨.bin .sub (.t 103) (.t 104), some 105, none⟩,
    ⟨.mov (.t 2), some 106, none⟩,
    ⟨.mov (.t 10), some 107, none⟩,
    ⟨.bin .sub (.t 106) (.t 107), some 108, none⟩,
    ⟨.slL (I.t 3) 1 (.t 102) (some (.t 105)) (some (.t 108)) none, some 109, none⟩,
    ⟨.call (I.f 352) [(.t 109)], some 110, none⟩,
    ⟨.mov (.t 110), some 16, none⟩]) <|
  .seq (.drw [⟨.mov (.t 13), some 111, none⟩,
    ⟨.mov (.t 1), some 112, none⟩,
    ⟨.mov (.t 10), some 113, none⟩,
    ⟨.bin .sub (.t 112) (.t 113), some 114, none⟩,
    ⟨.slL (I.t 3) 1 (.t 111) none (some (.t 114)) none, some 115, none⟩,
    ⟨.mov (.t 3), some 116, none⟩,
    ⟨.mov (.t 13), some 117, none⟩,
    ⟨.mov (.t 2), some 118, none⟩,
    ⟨.mov (.t 10), some 119, none⟩,
    ⟨.bin .sub (.t 118) (.t 119), some 120, none⟩,
    ⟨.slL (I.t 3) 1 (.t 117) (some (.t 120)) none none, some 121, none⟩,
    ⟨.bSl (I.t 69) 1 3 [(.slice none 0 (.ex 0))] [(0, (.t 115)), (1, (.t 116)), (2, (.t 121))], some 122, none⟩,
    ⟨.call (I.f 562) [(.t 122)], some 123, none⟩,
    ⟨.mov (.t 123), some 17, none⟩]) <|
  .seq (.drv [⟨⟨.mov (.t 0), some 124, none⟩, 0, [], [], []⟩,
    ⟨⟨.mov (.t 0), some 125, none⟩, 0, [], [], []⟩,
    ⟨⟨.nilCheck (.t 125), some 126, none⟩, 0, [], [], []⟩,
    ⟨⟨.fad 1 (.t 126), some 127, none⟩, 0, [], [], []⟩,
    ⟨⟨.ld1 (.t 127), some 128, none⟩, 1, [], [], []⟩,
    ⟨⟨.mov (.t 9), some 129, none⟩, 0, [], [], []⟩,
    ⟨⟨.mov (.t 11), some 130, none⟩, 0, [], [], []⟩,
    ⟨⟨.mov (.t 0), some 131, none⟩, 0, [], [], []⟩,
    ⟨⟨.mov (.t 17), some 132, none⟩, 0, [], [], []⟩,
    ⟨⟨.call (I.f 564) [(.t 131), (.t 132)], some 133, none⟩, 3, [], [4], []⟩,
    ⟨⟨.call (I.f 563) [(.t 128), (.t 129), (.t 130), (.t 133)], some 134, none⟩, 3, [], [], []⟩,
    ⟨⟨.nilCheck (.t 124), some 135, none⟩, 0, [], [], []⟩,
    ⟨⟨.fad 1 (.t 135), some 136, none⟩, 0, [], [], []⟩,
    ⟨⟨.sto 1 (.t 136) (.t 134), none, none⟩, 3, [], [], []⟩]) <|
  .seq (.reg [⟨.mov (.t 0), some 137, none⟩,
    ⟨.nilCheck (.t 137), some 138, none⟩,
    ⟨.fad 3 (.t 138), some 139, none⟩,
    ⟨.ld1 (.t 139), some 140, none⟩,
    ⟨.mov (.t 3), some 141, none⟩,
    ⟨.lenL (.t 141), some 142, none⟩,
    ⟨.mov (.t 16), some 143, none⟩,
    ⟨.lenL (.t 143), some 144, none⟩,
    ⟨.bin .sub (.t 142) (.t 144), some 145, none⟩,
    ⟨.bin .add (.t 140) (.t 145), some 146, none⟩,
    ⟨.nilCheck (.t 137), some 147, none⟩,
    ⟨.fad 3 (.t 147), some 148, none⟩,
    ⟨.sto 1 (.t 148) (.t 146), none, none⟩]) <|
  .seq (.reg [⟨.mov (.t 16), some 149, none⟩,
    ⟨.mov (.t 149), some 8, none⟩]) <|
  .ret
-- 432 nt 150 res [.tmp 8] params [*doc.list, int, int, []int]
/-- (*dovetail/doc.list).length -/
def c433 (I : Ids) : IC :=
  .seq (.reg [⟨.mov (.v (.int .i64 0)), some 2, none⟩]) <|
  .seq (.reg [⟨.mov (.t 0), some 3, none⟩,
    ⟨.nilCheck (.t 3), some 4, none⟩,
    ⟨.fad 3 (.t 4), some 5, none⟩,
    ⟨.ld1 (.t 5), some 6, none⟩,
    ⟨.mov (.t 6), some 2, none⟩]) <|
  .ret
-- 433 nt 7 res [.tmp 2] params [*doc.list]
/-- math/bits.Len -/
def c511 (I : Ids) : IC :=
  .seq (.reg [⟨.mov (.v (.int .i64 0)), some 2, none⟩]) <|
  .seq (.cond (.v (.bool false)) (.seq (.reg [⟨.mov (.t 0), some 3, none⟩,
      ⟨.cvI .u32 (.t 3), some 4, none⟩,
      ⟨.call (I.f 668) [(.t 4)], some 5, none⟩,
      ⟨.mov (.t 5), some 2, none⟩]) <|
    .ret)
    (.skip)) <|
  .seq (.reg [⟨.mov (.t 0), some 6, none⟩,
    ⟨.call (I.f 669) [(.t 6)], some 7, none⟩,
    ⟨.mov (.t 7), some 2, none⟩]) <|
  .ret
-- 511 nt 8 res [.tmp 2] params [uint]
/-- slices.SortFunc[[]dovetail/api.Step,dovetail/api.Step] -/
def c544 (I : Ids) : IC :=
  .seq (.reg [⟨.mov (.t 0), some 5, none⟩,
    ⟨.lenL (.t 5), some 6, none⟩,
    ⟨.mov (.t 6), some 4, none⟩]) <|
  .reg [⟨.mov (.t 0), some 7, none⟩,
   ⟨.mov (.t 4), some 8, none⟩,
   ⟨.mov (.t 4), some 9, none⟩,
   ⟨.cvI .u64 (.t 9), some 10, none⟩,
   ⟨.call (I.f 511) [(.t 10)], some 11, none⟩,
   ⟨.mov (.t 1), some 12, none⟩,
   ⟨.call (I.f 693) [(.t 7), (.v (.int .i64 0)), (.t 8), (.t 11), (.t 12)], some 13, none⟩]
-- 544 nt 14 res [] params [[]api.Step, func(api.Step, api.Step) int]
/-- dovetail/doc.right$1 -/
def c561 (I : Ids) : IC :=
  .seq (.reg [⟨.mov (.v (.bool false)), some 3, none⟩]) <|
  .seq (.reg [⟨.mov (.t 0), some 4, none⟩,
    ⟨.bin .lss (.t 4) (.v (.int .i64 0)), some 5, none⟩,
    ⟨.mov (.t 5), some 6, none⟩,
    ⟨.mov (.t 0), some 7, some (6, false)⟩,
    ⟨.ld1 (.t 1), some 8, some (6, false)⟩,
    ⟨.call (I.f 103) [(.t 8)], some 9, some (6, false)⟩,
    ⟨.bin .geq (.t 7) (.t 9), some 10, some (6, false)⟩,
    ⟨.pick (.t 6) (.v (.bool true)) (.t 10), some 11, none⟩,
    ⟨.mov (.t 11), some 3, none⟩]) <|
  .ret
-- 561 nt 12 res [.tmp 3] params [int]
/-- slices.Concat[[]int,int] -/
def c562 (I : Ids) : IC :=
  .seq (.reg [⟨.mov (.v (.slice none 0 (.ex 0))), some 2, none⟩]) <|
  .seq (.reg [⟨.mov (.v (.int .i64 0)), some 3, none⟩]) <|
  .seq (.seq (.reg [⟨.mov (.t 0), some 9, none⟩,
     ⟨.lenL (.t 9), some 10, none⟩,
     ⟨.mov (.v (.int .i64 0)), some 11, none⟩]) <|
   .block 0 <|
    .loop <|
     .seq (.reg [⟨.bin .lss (.t 11) (.t 10), some 12, none⟩]) <|
     .seq (.cond (.t 12) (.skip)
       (.exit 0)) <|
     .seq (.block 1 <|
       .seq (.reg [⟨.ixL 1 (.t 9) (.t 11), some 13, none⟩,
         ⟨.ld1 (.t 13), some 14, none⟩,
         ⟨.mov (.t 14), some 5, none⟩]) <|
       .seq (.reg [⟨.mov (.t 3), some 15, none⟩,
         ⟨.mov (.t 5), some 16, none⟩,
         ⟨.lenL (.t 16), some 17, none⟩,
         ⟨.bin .add (.t 15) (.t 17), some 18, none⟩,
         ⟨.mov (.t 18), some 3, none⟩]) <|
       .seq (.reg [⟨.mov (.t 3), some 19, none⟩,
         ⟨.bin .lss (.t 19) (.v (.int .i64 0)), some 20, none⟩]) <|
       .cond (.t 20) (.reg [⟨.ifc (I.t 9) (.v (.str [108, 101, 110, 32, 111, 117, 116, 32, 111, 102, 32, 114, 97, 110, 103, 101])), some 21, none⟩,
         ⟨.pan (.t 21), none, none⟩])
        (.skip)) <|
     .reg [⟨.bin .add (.t 11) (.v (.int .i64 1)), some 22, none⟩,
      ⟨.mov (.t 22), some 11, none⟩]) <|
  .seq (.reg [⟨.mov (.t 3), some 23, none⟩,
    ⟨.call (I.f 697) [(.v (.slice none 0 (.ex 0))), (.t 23)], some 24, none⟩,
    ⟨.mov (.t 24), some 6, none⟩]) <|
  .seq (.seq (.reg [⟨.mov (.t 0), some 25, none⟩,
     ⟨.lenL (.t 25), some 26, none⟩,
     ⟨.mov (.v (.int .i64 0)), some 27, none⟩]) <|
   .block 2 <|
    .loop <|
     .seq (.reg [⟨.bin .lss (.t 27) (.t 26), some 28, none⟩]) <|
     .seq (.cond (.t 28) (.skip)
       (.exit 2)) <|
     .seq (.block 3 <|
       .seq (.reg [⟨.ixL 1 (.t 25) (.t 27), some 29, none⟩,
         ⟨.ld1 (.t 29), some 30, none⟩,
         ⟨.mov (.t 30), some 8, none⟩]) <|
       .reg [⟨.mov (.t 6), some 31, none⟩,
        ⟨.mov (.t 8), some 32, none⟩,
        ⟨.app (I.t 3) 1 (.t 31) (.t 32), some 33, none⟩,
        ⟨.mov (.t 33), some 6, none⟩]) <|
     .reg [⟨.bin .add (.t 27) (.v (.int .i64 1)), some 34, none⟩,
      ⟨.mov (.t 34), some 27, none⟩]) <|
  .seq (.reg [⟨.mov (.t 6), some 35, none⟩,
    ⟨.mov (.t 35), some 2, none⟩]) <|
  .ret
-- 562 nt 36 res [.tmp 2] params [[][]int]
/-- slices.Replace[[]dovetail/doc.slice,dovetail/doc.slice] -/
def c563 (I : Ids) : IC :=
  .seq (.reg [⟨.mov (.v (.slice none 0 (.ex 0))), some 8, none⟩]) <|
  .seq (.reg [⟨.mov (.t 0), some 15, none⟩,
    ⟨.mov (.t 1), some 16, none⟩,
    ⟨.mov (.t 2), some 17, none⟩,
    ⟨.slL (I.t 528) 6 (.t 15) (some (.t 16)) (some (.t 17)) none, some 18, none⟩]) <|
  .seq (.seq (.reg [⟨.mov (.t 1), some 19, none⟩,
     ⟨.mov (.t 2), some 20, none⟩,
     ⟨.eqT 1 false (.t 19) (.t 20), some 21, none⟩]) <|
   .cond (.t 21) (.seq (.reg [⟨.mov (.t 0), some 22, none⟩,
      ⟨.mov (.t 1), some 23, none⟩,
      ⟨.mov (.t 3), some 24, none⟩,
      ⟨.call (I.f 698) [(.t 22), (.t 23), (.t 24)], some 25, none⟩,
      ⟨.mov (.t 25), some 8, none⟩]) <|
    .ret)
    (.skip)) <|
  .seq (.seq (.reg [⟨.mov (.t 2), some 26, none⟩,
     ⟨.mov (.t 0), some 27, none⟩,
     ⟨.lenL (.t 27), some 28, none⟩,
     ⟨.eqT 1 false (.t 26) (.t 28), some 29, none⟩]) <|
   .cond (.t 29) (.seq (.reg [⟨.mov (.t 0), some 30, none⟩,
      ⟨.mov (.t 1), some 31, none⟩,
      ⟨.slL (I.t 528) 6 (.t 30) none (some (.t 31)) none, some 32, none⟩,
      ⟨.mov (.t 3), some 33, none⟩,
      ⟨.app (I.t 528) 6 (.t 32) (.t 33), some 34, none⟩,
      ⟨.mov (.t 34), some 9, none⟩]) <|
    .seq (.seq (.reg [⟨.mov (.t 9), some 35, none⟩,
       ⟨.lenL (.t 35), some 36, none⟩,
       ⟨.mov (.t 0), some 37, none⟩,
       ⟨.lenL (.t 37), some 38, none⟩,
       ⟨.bin .lss (.t 36) (.t 38), some 39, none⟩]) <|
     .cond (.t 39) (.reg [⟨.mov (.t 0), some 40, none⟩,
       ⟨.mov (.t 9), some 41, none⟩,
       ⟨.lenL (.t 41), some 42, none⟩,
       ⟨.slL (I.t 528) 6 (.t 40) (some (.t 42)) none none, some 43, none⟩,
       ⟨.raw (.call ⟨(.builtin .clear), #[(.tmp 43)], #[I.t 519]⟩), none, none⟩])
      (.skip)) <|
    .seq (.reg [⟨.mov (.t 9), some 44, none⟩,
      ⟨.mov (.t 44), some 8, none⟩]) <|
    .ret)
    (.skip)) <|
  .seq (.drw [⟨.mov (.t 0), some 45, none⟩,
    ⟨.mov (.t 1), some 46, none⟩,
    ⟨.slL (I.t 528) 6 (.t 45) none (some (.t 46)) none, some 47, none⟩,
    ⟨.lenL (.t 47), some 48, none⟩,
    ⟨.mov (.t 3), some 49, none⟩,
    ⟨.lenL (.t 49), some 50, none⟩,
    ⟨.bin .add (.t 48) (.t 50), some 51, none⟩,
    ⟨.mov (.t 0), some 52, none⟩,
    ⟨.mov (.t 2), some 53, none⟩,
    ⟨.slL (I.t 528) 6 (.t 52) (some (.t 53)) none none, some 54, none⟩,
    ⟨.lenL (.t 54), some 55, none⟩,
    ⟨.bin .add (.t 51) (.t 55), some 56, none⟩,
    ⟨.mov (.t 56), some 10, none⟩]) <|
  .seq (.seq (.reg [⟨.mov (.t 10), some 57, none⟩,
     ⟨.mov (.t 0), some 58, none⟩,
     ⟨.raw (.call ⟨(.builtin .cap), #[(.tmp 58)], #[I.t 519]⟩), some 59, none⟩,
     ⟨.bin .gtr (.t 57) (.t 59), some 60, none⟩]) <|
   .cond (.t 60) (.seq (.reg [⟨.mov (.t 0), some 61, none⟩,
      ⟨.mov (.t 1), some 62, none⟩,
      ⟨.slL (I.t 528) 6 (.t 61) none (some (.t 62)) none, some 63, none⟩,
      ⟨.mov (.t 10), some 64, none⟩,
      ⟨.mov (.t 1), some 65, none⟩,
      ⟨.bin .sub (.t 64) (.t 65), some 66, none⟩,
      ⟨.raw (.call ⟨(.builtin .append), #[(.tmp 63), (.tmp 66)], #[I.t 519, I.t 3]⟩), some 67, none⟩,
      ⟨.mov (.t 67), some 11, none⟩]) <|
    .seq (.reg [⟨.mov (.t 11), some 68, none⟩,
      ⟨.mov (.t 1), some 69, none⟩,
      ⟨.slL (I.t 528) 6 (.t 68) (some (.t 69)) none none, some 70, none⟩,
      ⟨.mov (.t 3), some 71, none⟩,
      ⟨.raw (.call ⟨(.builtin .copy), #[(.tmp 70), (.tmp 71)], #[I.t 519, I.t 519]⟩), some 72, none⟩]) <|
    .seq (.drw [⟨.mov (.t 11), some 73, none⟩,
      ⟨.mov (.t 1), some 74, none⟩,
      ⟨.mov (.t 3), some 75, none⟩,
      ⟨.lenL (.t 75), some 76, none⟩,
      ⟨.bin .add (.t 74) (.t 76), some 77, none⟩,
      ⟨.slL (I.t 528) 6 (.t 73) (some (.t 77)) none none, some 78, none⟩,
      ⟨.mov (.t 0), some 79, none⟩,
      ⟨.mov (.t 2), some 80, none⟩,
      ⟨.slL (I.t 528) 6 (.t 79) (some (.t 80)) none none, some 81, none⟩,
      ⟨.raw (.call ⟨(.builtin .copy), #[(.tmp 78), (.tmp 81)], #[I.t 519, I.t 519]⟩), some 82, none⟩]) <|
    .seq (.reg [⟨.mov (.t 11), some 83, none⟩,
      ⟨.mov (.t 83), some 8, none⟩]) <|
    .ret)
    (.skip)) <|
  .seq (.reg [⟨.mov (.t 0), some 84, none⟩,
    ⟨.mov (.t 10), some 85, none⟩,
    ⟨.slL (I.t 528) 6 (.t 84) none (some (.t 85)) none, some 86, none⟩,
    ⟨.mov (.t 86), some 12, none⟩]) <|
  .seq (.seq (.reg [⟨.mov (.t 1), some 87, none⟩,
     ⟨.mov (.t 3), some 88, none⟩,
     ⟨.lenL (.t 88), some 89, none⟩,
     ⟨.bin .add (.t 87) (.t 89), some 90, none⟩,
     ⟨.mov (.t 2), some 91, none⟩,
     ⟨.bin .leq (.t 90) (.t 91), some 92, none⟩]) <|
   .cond (.t 92) (.seq (.reg [⟨.mov (.t 12), some 93, none⟩,
      ⟨.mov (.t 1), some 94, none⟩,
      ⟨.slL (I.t 528) 6 (.t 93) (some (.t 94)) none none, some 95, none⟩,
      ⟨.mov (.t 3), some 96, none⟩,
      ⟨.raw (.call ⟨(.builtin .copy), #[(.tmp 95), (.tmp 96)], #[I.t 519, I.t 519]⟩), some 97, none⟩]) <|
    .seq (.drw [⟨.mov (.t 12), some 98, none⟩,
      ⟨.mov (.t 1), some 99, none⟩,
      ⟨.mov (.t 3), some 100, none⟩,
      ⟨.lenL (.t 100), some 101, none⟩,
      ⟨.bin .add (.t 99) (.t 101), some 102, none⟩,
      ⟨.slL (I.t 528) 6 (.t 98) (some (.t 102)) none none, some 103, none⟩,
      ⟨.mov (.t 0), some 104, none⟩,
      ⟨.mov (.t 2), some 105, none⟩,
      ⟨.slL (I.t 528) 6 (.t 104) (some (.t 105)) none none, some 106, none⟩,
      ⟨.raw (.call ⟨(.builtin .copy), #[(.tmp 103), (.tmp 106)], #[I.t 519, I.t 519]⟩), some 107, none⟩]) <|
    .seq (.reg [⟨.mov (.t 0), some 108, none⟩,
      ⟨.mov (.t 10), some 109, none⟩,
      ⟨.slL (I.t 528) 6 (.t 108) (some (.t 109)) none none, some 110, none⟩,
      ⟨.raw (.call ⟨(.builtin .clear), #[(.tmp 110)], #[I.t 519]⟩), none, none⟩]) <|
    .seq (.reg [⟨.mov (.t 12), some 111, none⟩,
      ⟨.mov (.t 111), some 8, none⟩]) <|
    .ret)
    (.skip)) <|
  .seq (.seq (.reg [⟨.mov (.t 12), some 112, none⟩,
     ⟨.mov (.t 1), some 113, none⟩,
     ⟨.mov (.t 3), some 114, none⟩,
     ⟨.lenL (.t 114), some 115, none⟩,
     ⟨.bin .add (.t 113) (.t 115), some 116, none⟩,
     ⟨.slL (I.t 528) 6 (.t 112) (some (.t 116)) none none, some 117, none⟩,
     ⟨.mov (.t 3), some 118, none⟩,
     ⟨.raw (.call ⟨(.value (.func (I.f 699))), #[(.tmp 117), (.tmp 118)], #[I.t 519, I.t 519]⟩), some 119, none⟩,
     ⟨.un .not (.t 119), some 120, none⟩]) <|
   .cond (.t 120) (.seq (.drw [⟨.mov (.t 12), some 121, none⟩,
      ⟨.mov (.t 1), some 122, none⟩,
      ⟨.mov (.t 3), some 123, none⟩,
      ⟨.lenL (.t 123), some 124, none⟩,
      ⟨.bin .add (.t 122) (.t 124), some 125, none⟩,
      ⟨.slL (I.t 528) 6 (.t 121) (some (.t 125)) none none, some 126, none⟩,
      ⟨.mov (.t 0), some 127, none⟩,
      ⟨.mov (.t 2), some 128, none⟩,
      ⟨.slL (I.t 528) 6 (.t 127) (some (.t 128)) none none, some 129, none⟩,
      ⟨.raw (.call ⟨(.builtin .copy), #[(.tmp 126), (.tmp 129)], #[I.t 519, I.t 519]⟩), some 130, none⟩]) <|
    .seq (.reg [⟨.mov (.t 12), some 131, none⟩,
      ⟨.mov (.t 1), some 132, none⟩,
      ⟨.slL (I.t 528) 6 (.t 131) (some (.t 132)) none none, some 133, none⟩,
      ⟨.mov (.t 3), some 134, none⟩,
      ⟨.raw (.call ⟨(.builtin .copy), #[(.tmp 133), (.tmp 134)], #[I.t 519, I.t 519]⟩), some 135, none⟩]) <|
    .seq (.reg [⟨.mov (.t 12), some 136, none⟩,
      ⟨.mov (.t 136), some 8, none⟩]) <|
    .ret)
    (.skip)) <|
  .seq (.reg [⟨.mov (.t 3), some 137, none⟩,
    ⟨.lenL (.t 137), some 138, none⟩,
    ⟨.mov (.t 2), some 139, none⟩,
    ⟨.mov (.t 1), some 140, none⟩,
    ⟨.bin .sub (.t 139) (.t 140), some 141, none⟩,
    ⟨.bin .sub (.t 138) (.t 141), some 142, none⟩,
    ⟨.mov (.t 142), some 13, none⟩]) <|
  .seq (.seq (.reg [⟨.mov (.t 12), some 143, none⟩,
     ⟨.mov (.t 1), some 144, none⟩,
     ⟨.mov (.t 2), some 145, none⟩,
     ⟨.slL (I.t 528) 6 (.t 143) (some (.t 144)) (some (.t 145)) none, some 146, none⟩,
     ⟨.mov (.t 3), some 147, none⟩,
     ⟨.raw (.call ⟨(.value (.func (I.f 699))), #[(.tmp 146), (.tmp 147)], #[I.t 519, I.t 519]⟩), some 148, none⟩,
     ⟨.un .not (.t 148), some 149, none⟩]) <|
   .cond (.t 149) (.seq (.drw [⟨.mov (.t 12), some 150, none⟩,
      ⟨.mov (.t 1), some 151, none⟩,
      ⟨.mov (.t 2), some 152, none⟩,
      ⟨.slL (I.t 528) 6 (.t 150) (some (.t 151)) (some (.t 152)) none, some 153, none⟩,
      ⟨.mov (.t 3), some 154, none⟩,
      ⟨.mov (.t 13), some 155, none⟩,
      ⟨.slL (I.t 528) 6 (.t 154) (some (.t 155)) none none, some 156, none⟩,
      ⟨.raw (.call ⟨(.builtin .copy), #[(.tmp 153), (.tmp 156)], #[I.t 519, I.t 519]⟩), some 157, none⟩]) <|
    .seq (.drw [⟨.mov (.t 12), some 158, none⟩,
      ⟨.mov (.t 0), some 159, none⟩,
      ⟨.lenL (.t 159), some 160, none⟩,
      ⟨.slL (I.t 528) 6 (.t 158) (some (.t 160)) none none, some 161, none⟩,
      ⟨.mov (.t 3), some 162, none⟩,
      ⟨.mov (.t 13), some 163, none⟩,
      ⟨.slL (I.t 528) 6 (.t 162) none (some (.t 163)) none, some 164, none⟩,
      ⟨.raw (.call ⟨(.builtin .copy), #[(.tmp 161), (.tmp 164)], #[I.t 519, I.t 519]⟩), some 165, none⟩]) <|
    .seq (.reg [⟨.mov (.t 12), some 166, none⟩,
      ⟨.mov (.t 1), some 167, none⟩,
      ⟨.slL (I.t 528) 6 (.t 166) (some (.t 167)) none none, some 168, none⟩,
      ⟨.mov (.t 13), some 169, none⟩,
      ⟨.call (I.f 700) [(.t 168), (.t 169)], some 170, none⟩]) <|
    .seq (.reg [⟨.mov (.t 12), some 171, none⟩,
      ⟨.mov (.t 171), some 8, none⟩]) <|
    .ret)
    (.skip)) <|
  .seq (.seq (.reg [⟨.mov (.t 12), some 172, none⟩,
     ⟨.mov (.t 0), some 173, none⟩,
     ⟨.lenL (.t 173), some 174, none⟩,
     ⟨.slL (I.t 528) 6 (.t 172) (some (.t 174)) none none, some 175, none⟩,
     ⟨.mov (.t 3), some 176, none⟩,
     ⟨.raw (.call ⟨(.value (.func (I.f 699))), #[(.tmp 175), (.tmp 176)], #[I.t 519, I.t 519]⟩), some 177, none⟩,
     ⟨.un .not (.t 177), some 178, none⟩]) <|
   .cond (.t 178) (.seq (.drw [⟨.mov (.t 12), some 179, none⟩,
      ⟨.mov (.t 0), some 180, none⟩,
      ⟨.lenL (.t 180), some 181, none⟩,
      ⟨.slL (I.t 528) 6 (.t 179) (some (.t 181)) none none, some 182, none⟩,
      ⟨.mov (.t 3), some 183, none⟩,
      ⟨.mov (.t 13), some 184, none⟩,
      ⟨.slL (I.t 528) 6 (.t 183) none (some (.t 184)) none, some 185, none⟩,
      ⟨.raw (.call ⟨(.builtin .copy), #[(.tmp 182), (.tmp 185)], #[I.t 519, I.t 519]⟩), some 186, none⟩]) <|
    .seq (.drw [⟨.mov (.t 12), some 187, none⟩,
      ⟨.mov (.t 1), some 188, none⟩,
      ⟨.mov (.t 2), some 189, none⟩,
      ⟨.slL (I.t 528) 6 (.t 187) (some (.t 188)) (some (.t 189)) none, some 190, none⟩,
      ⟨.mov (.t 3), some 191, none⟩,
      ⟨.mov (.t 13), some 192, none⟩,
      ⟨.slL (I.t 528) 6 (.t 191) (some (.t 192)) none none, some 193, none⟩,
      ⟨.raw (.call ⟨(.builtin .copy), #[(.tmp 190), (.tmp 193)], #[I.t 519, I.t 519]⟩), some 194, none⟩]) <|
    .seq (.reg [⟨.mov (.t 12), some 195, none⟩,
      ⟨.mov (.t 1), some 196, none⟩,
      ⟨.slL (I.t 528) 6 (.t 195) (some (.t 196)) none none, some 197, none⟩,
      ⟨.mov (.t 13), some 198, none⟩,
      ⟨.call (I.f 700) [(.t 197), (.t 198)], some 199, none⟩]) <|
    .seq (.reg [⟨.mov (.t 12), some 200, none⟩,
      ⟨.mov (.t 200), some 8, none⟩]) <|
    .ret)
    (.skip)) <|
  .seq (.reg [⟨.mov (.t 3), some 201, none⟩,
    ⟨.mov (.t 0), some 202, none⟩,
    ⟨.mov (.t 2), some 203, none⟩,
    ⟨.slL (I.t 528) 6 (.t 202) (some (.t 203)) none none, some 204, none⟩,
    ⟨.call (I.f 701) [(.t 201), (.t 204)], some 205, none⟩,
    ⟨.mov (.t 205), some 14, none⟩]) <|
  .seq (.reg [⟨.mov (.t 12), some 206, none⟩,
    ⟨.mov (.t 1), some 207, none⟩,
    ⟨.slL (I.t 528) 6 (.t 206) (some (.t 207)) none none, some 208, none⟩,
    ⟨.mov (.t 3), some 209, none⟩,
    ⟨.raw (.call ⟨(.builtin .copy), #[(.tmp 208), (.tmp 209)], #[I.t 519, I.t 519]⟩), some 210, none⟩]) <|
  .seq (.drw [⟨.mov (.t 12), some 211, none⟩,
    ⟨.mov (.t 1), some 212, none⟩,
    ⟨.mov (.t 3), some 213, none⟩,
    ⟨.lenL (.t 213), some 214, none⟩,
    ⟨.bin .add (.t 212) (.t 214), some 215, none⟩,
    ⟨.slL (I.t 528) 6 (.t 211) (some (.t 215)) none none, some 216, none⟩,
    ⟨.mov (.t 12), some 217, none⟩,
    ⟨.mov (.t 1), some 218, none⟩,
    ⟨.mov (.t 14), some 219, none⟩,
    ⟨.bin .add (.t 218) (.t 219), some 220, none⟩,
    ⟨.slL (I.t 528) 6 (.t 217) (some (.t 220)) none none, some 221, none⟩,
    ⟨.raw (.call ⟨(.builtin .copy), #[(.tmp 216), (.tmp 221)], #[I.t 519, I.t 519]⟩), some 222, none⟩]) <|
  .seq (.reg [⟨.mov (.t 12), some 223, none⟩,
    ⟨.mov (.t 223), some 8, none⟩]) <|
  .ret
-- 563 nt 224 res [.tmp 8] params [[]doc.slice, int, int, []doc.slice]
/-- (*dovetail/doc.list).parsed -/
def c564 (I : Ids) : IC :=
  .seq (.reg [⟨.box (I.t 697) (.t 0), some 2, none⟩,
    ⟨.mov (.v (.slice none 0 (.ex 0))), some 4, none⟩]) <|
  .seq (.reg [⟨.alc (newBlk [(.slice none 0 (.ex 0))] (I.t 519)), some 5, none⟩]) <|
  .seq (.seq (.reg [⟨.mov (.t 1), some 9, none⟩,
     ⟨.call (I.f 702) [(.t 9), (.v (.int .i64 32))], some 10, none⟩]) <|
   .block 0 <|
    .rng (.t 10) [11] (
     .reg [⟨.mov (.t 11), some 6, none⟩]) (
     .block 1 <|
      .seq (.reg [⟨.mov (.t 6), some 12, none⟩,
        ⟨.call (I.f 352) [(.t 12)], some 13, none⟩,
        ⟨.mov (.t 13), some 6, none⟩]) <|
      .seq (.reg [⟨.ld1 (.t 2), some 15, none⟩,
        ⟨.nilCheck (.t 15), some 16, none⟩,
        ⟨.fad 0 (.t 16), some 17, none⟩,
        ⟨.ld1 (.t 17), some 18, none⟩,
        ⟨.mov (.t 6), some 19, none⟩,
        ⟨.mov (.t 6), some 20, none⟩,
        ⟨.lenL (.t 20), some 21, none⟩,
        ⟨.call (I.f 157) [(.t 18), (.t 19), (.v (.int .i64 0)), (.t 21)], some 22, none⟩,
        ⟨.mov (.t 22), some 14, none⟩,
        ⟨.ext (.t 14) 0, some 23, none⟩,
        ⟨.ext (.t 14) 1, some 24, none⟩,
        ⟨.alc (newBlk [(.int .i64 0), (.int .i64 0), (.slice none 0 (.ex 0)), (.slice none 0 (.ex 0))] (I.t 177)), some 7, none⟩,
        ⟨.sto 4 (.t 7) (.t 23), none, none⟩,
        ⟨.mov (.t 24), some 8, none⟩]) <|
      .seq (.reg [⟨.ld1 (.t 2), some 25, none⟩,
        ⟨.nilCheck (.t 25), some 26, none⟩,
        ⟨.fad 2 (.t 26), some 27, none⟩,
        ⟨.ld1 (.t 27), some 28, none⟩,
        ⟨.mov (.t 6), some 29, none⟩,
        ⟨.lenL (.t 29), some 30, none⟩,
        ⟨.bin .add (.t 28) (.t 30), some 31, none⟩,
        ⟨.nilCheck (.t 25), some 32, none⟩,
        ⟨.fad 2 (.t 32), some 33, none⟩,
        ⟨.sto 1 (.t 33) (.t 31), none, none⟩]) <|
      .reg [⟨.ld1 (.t 5), some 34, none⟩,
       ⟨.mov (.t 6), some 35, none⟩,
       ⟨.ldN 4 (.t 7), some 36, none⟩,
       ⟨.mov (.t 8), some 37, none⟩,
       ⟨.bld [(.slice none 0 (.ex 0)), (.int .i64 0), (.int .i64 0), (.slice none 0 (.ex 0)), (.slice none 0 (.ex 0)), .nilIface] [(0, 1, (.t 35)), (1, 4, (.t 36)), (5, 1, (.t 37))], some 38, none⟩,
       ⟨.bSl (I.t 528) 6 1 [(.slice none 0 (.ex 0)), (.int .i64 0), (.int .i64 0), (.slice none 0 (.ex 0)), (.slice none 0 (.ex 0)), .nilIface] [(0, (.t 38))], some 39, none⟩,
       ⟨.app (I.t 528) 6 (.t 34) (.t 39), some 40, none⟩,
       ⟨.sto 1 (.t 5) (.t 40), none, none⟩])) <|
  .seq (.reg [⟨.ld1 (.t 5), some 41, none⟩,
    ⟨.mov (.t 41), some 4, none⟩]) <|
  .ret
-- 564 nt 42 res [.tmp 4] params [*doc.list, []int]
/-- math/bits.Len64 -/
def c669 (I : Ids) : IC :=
  .seq (.reg [⟨.mov (.v (.int .i64 0)), some 2, none⟩]) <|
  .seq (.seq (.reg [⟨.mov (.t 0), some 3, none⟩,
     ⟨.bin .geq (.t 3) (.v (.int .u64 4294967296)), some 4, none⟩]) <|
   .cond (.t 4) (.seq (.reg [⟨.mov (.t 0), some 5, none⟩,
      ⟨.bin .shr (.t 5) (.v (.int .u64 32)), some 6, none⟩,
      ⟨.mov (.t 6), some 0, none⟩]) <|
    .reg [⟨.mov (.v (.int .i64 32)), some 2, none⟩])
    (.skip)) <|
  .seq (.seq (.reg [⟨.mov (.t 0), some 7, none⟩,
     ⟨.bin .geq (.t 7) (.v (.int .u64 65536)), some 8, none⟩]) <|
   .cond (.t 8) (.seq (.reg [⟨.mov (.t 0), some 9, none⟩,
      ⟨.bin .shr (.t 9) (.v (.int .u64 16)), some 10, none⟩,
      ⟨.mov (.t 10), some 0, none⟩]) <|
    .reg [⟨.mov (.t 2), some 11, none⟩,
     ⟨.bin .add (.t 11) (.v (.int .i64 16)), some 12, none⟩,
     ⟨.mov (.t 12), some 2, none⟩])
    (.skip)) <|
  .seq (.seq (.reg [⟨.mov (.t 0), some 13, none⟩,
     ⟨.bin .geq (.t 13) (.v (.int .u64 256)), some 14, none⟩]) <|
   .cond (.t 14) (.seq (.reg [⟨.mov (.t 0), some 15, none⟩,
      ⟨.bin .shr (.t 15) (.v (.int .u64 8)), some 16, none⟩,
      ⟨.mov (.t 16), some 0, none⟩]) <|
    .reg [⟨.mov (.t 2), some 17, none⟩,
     ⟨.bin .add (.t 17) (.v (.int .i64 8)), some 18, none⟩,
     ⟨.mov (.t 18), some 2, none⟩])
    (.skip)) <|
  .seq (.reg [⟨.mov (.t 2), some 19, none⟩,
    ⟨.mov (.t 0), some 20, none⟩,
    ⟨.cvI .u8 (.t 20), some 21, none⟩,
    ⟨.ixS (.v (.str [0, 1, 2, 2, 3, 3, 3, 3, 4, 4, 4, 4, 4, 4, 4, 4, 5, 5, 5, 5, 5, 5, 5, 5, 5, 5, 5, 5, 5, 5, 5, 5, 6, 6, 6, 6, 6, 6, 6, 6, 6, 6, 6, 6, 6, 6, 6, 6, 6, 6, 6, 6, 6, 6, 6, 6, 6, 6, 6, 6, 6, 6, 6, 6, 7, 7, 7, 7, 7, 7, 7, 7, 7, 7, 7, 7, 7, 7, 7, 7, 7, 7, 7, 7, 7, 7, 7, 7, 7, 7, 7, 7, 7, 7, 7, 7, 7, 7, 7, 7, 7, 7, 7, 7, 7, 7, 7, 7, 7, 7, 7, 7, 7, 7, 7, 7, 7, 7, 7, 7, 7, 7, 7, 7, 7, 7, 7, 7, 8, 8, 8, 8, 8, 8, 8, 8, 8, 8, 8, 8, 8, 8, 8, 8, 8, 8, 8, 8, 8, 8, 8, 8, 8, 8, 8, 8, 8, 8, 8, 8, 8, 8, 8, 8, 8, 8, 8, 8, 8, 8, 8, 8, 8, 8, 8, 8, 8, 8, 8, 8, 8, 8, 8, 8, 8, 8, 8, 8, 8, 8, 8, 8, 8, 8, 8, 8, 8, 8, 8, 8, 8, 8, 8, 8, 8, 8, 8, 8, 8, 8, 8, 8, 8, 8, 8, 8, 8, 8, 8, 8, 8, 8, 8, 8, 8, 8, 8, 8, 8, 8, 8, 8, 8, 8, 8, 8, 8, 8, 8, 8, 8, 8, 8, 8, 8, 8, 8, 8, 8, 8, 8, 8, 8, 8, 8, 8])) (.t 21), some 22, none⟩,
    ⟨.cvI .i64 (.t 22), some 23, none⟩,
    ⟨.bin .add (.t 19) (.t 23), some 24, none⟩,
    ⟨.mov (.t 24), some 2, none⟩]) <|
  .ret
-- 669 nt 25 res [.tmp 2] params [uint64]
/-- slices.pdqsortCmpFunc[dovetail/api.Step] -/
def c693 (I : Ids) : IC :=
  .seq (.reg [⟨.mov (.v (.bool true)), some 10, none⟩]) <|
  .seq (.reg [⟨.mov (.v (.bool true)), some 11, none⟩]) <|
  .block 0 <|
   .loop <|
    .block 1 <|
     .seq (.reg [⟨.mov (.t 2), some 21, none⟩,
       ⟨.mov (.t 1), some 22, none⟩,
       ⟨.bin .sub (.t 21) (.t 22), some 23, none⟩,
       ⟨.mov (.t 23), some 12, none⟩]) <|
     .seq (.seq (.reg [⟨.mov (.t 12), some 24, none⟩,
        ⟨.bin .leq (.t 24) (.v (.int .i64 12)), some 25, none⟩]) <|
      .cond (.t 25) (.seq (.reg [⟨.mov (.t 0), some 26, none⟩,
         ⟨.mov (.t 1), some 27, none⟩,
         ⟨.mov (.t 2), some 28, none⟩,
         ⟨.mov (.t 4), some 29, none⟩,
         ⟨.call (I.f 785) [(.t 26), (.t 27), (.t 28), (.t 29)], some 30, none⟩]) <|
       .ret)
       (.skip)) <|
     .seq (.seq (.reg [⟨.mov (.t 3), some 31, none⟩,
        ⟨.eqT 1 false (.t 31) (.v (.int .i64 0)), some 32, none⟩]) <|
      .cond (.t 32) (.seq (.reg [⟨.mov (.t 0), some 33, none⟩,
         ⟨.mov (.t 1), some 34, none⟩,
         ⟨.mov (.t 2), some 35, none⟩,
         ⟨.mov (.t 4), some 36, none⟩,
         ⟨.call (I.f 786) [(.t 33), (.t 34), (.t 35), (.t 36)], some 37, none⟩]) <|
       .ret)
       (.skip)) <|
     .seq (.seq (.reg [⟨.mov (.t 10), some 38, none⟩,
        ⟨.un .not (.t 38), some 39, none⟩]) <|
      .cond (.t 39) (.seq (.reg [⟨.mov (.t 0), some 40, none⟩,
         ⟨.mov (.t 1), some 41, none⟩,
         ⟨.mov (.t 2), some 42, none⟩,
         ⟨.mov (.t 4), some 43, none⟩,
         ⟨.call (I.f 787) [(.t 40), (.t 41), (.t 42), (.t 43)], some 44, none⟩]) <|
       .reg [⟨.mov (.t 3), some 45, none⟩,
        ⟨.bin .sub (.t 45) (.v (.int .i64 1)), some 46, none⟩,
        ⟨.mov (.t 46), some 3, none⟩])
       (.skip)) <|
     .seq (.reg [⟨.mov (.t 0), some 48, none⟩,
       ⟨.mov (.t 1), some 49, none⟩,
       ⟨.mov (.t 2), some 50, none⟩,
       ⟨.mov (.t 4), some 51, none⟩,
       ⟨.call (I.f 788) [(.t 48), (.t 49), (.t 50), (.t 51)], some 52, none⟩,
       ⟨.mov (.t 52), some 47, none⟩,
       ⟨.ext (.t 47) 0, some 53, none⟩,
       ⟨.ext (.t 47) 1, some 54, none⟩,
       ⟨.mov (.t 53), some 13, none⟩,
       ⟨.mov (.t 54), some 14, none⟩]) <|
     .seq (.seq (.reg [⟨.mov (.t 14), some 55, none⟩,
        ⟨.eqT 1 false (.t 55) (.v (.int .i64 2)), some 56, none⟩]) <|
      .cond (.t 56) (.seq (.reg [⟨.mov (.t 0), some 57, none⟩,
         ⟨.mov (.t 1), some 58, none⟩,
         ⟨.mov (.t 2), some 59, none⟩,
         ⟨.mov (.t 4), some 60, none⟩,
         ⟨.call (I.f 789) [(.t 57), (.t 58), (.t 59), (.t 60)], some 61, none⟩]) <|
       .seq (.reg [⟨.mov (.t 2), some 62, none⟩,
         ⟨.bin .sub (.t 62) (.v (.int .i64 1)), some 63, none⟩,
         ⟨.mov (.t 13), some 64, none⟩,
         ⟨.mov (.t 1), some 65, none⟩,
         ⟨.bin .sub (.t 64) (.t 65), some 66, none⟩,
         ⟨.bin .sub (.t 63) (.t 66), some 67, none⟩,
         ⟨.mov (.t 67), some 13, none⟩]) <|
       .reg [⟨.mov (.v (.int .i64 1)), some 14, none⟩])
       (.skip)) <|
     .seq (.seq (.reg [⟨.mov (.t 10), some 68, none⟩,
        ⟨.mov (.t 68), some 69, none⟩,
        ⟨.mov (.t 11), some 70, some (69, true)⟩,
        ⟨.pick (.t 69) (.t 70) (.v (.bool false)), some 71, none⟩,
        ⟨.mov (.t 71), some 72, none⟩,
        ⟨.mov (.t 14), some 73, some (72, true)⟩,
        ⟨.eqT 1 false (.t 73) (.v (.int .i64 1)), some 74, some (72, true)⟩,
        ⟨.pick (.t 72) (.t 74) (.v (.bool false)), some 75, none⟩]) <|
      .cond (.t 75) (.seq (.reg [⟨.mov (.t 0), some 76, none⟩,
         ⟨.mov (.t 1), some 77, none⟩,
         ⟨.mov (.t 2), some 78, none⟩,
         ⟨.mov (.t 4), some 79, none⟩,
         ⟨.call (I.f 790) [(.t 76), (.t 77), (.t 78), (.t 79)], some 80, none⟩]) <|
       .cond (.t 80) (.ret)
        (.skip))
       (.skip)) <|
     .seq (.seq (.drw [⟨.mov (.t 1), some 81, none⟩,
        ⟨.bin .gtr (.t 81) (.v (.int .i64 0)), some 82, none⟩,
        ⟨.mov (.t 82), some 83, none⟩,
        ⟨.mov (.t 4), some 84, some (83, true)⟩,
        ⟨.mov (.t 0), some 85, some (83, true)⟩,
        ⟨.mov (.t 1), some 86, some (83, true)⟩,
        ⟨.bin .sub (.t 86) (.v (.int .i64 1)), some 87, some (83, true)⟩,
        ⟨.ixL 3 (.t 85) (.t 87), some 88, some (83, true)⟩,
        ⟨.ldN 3 (.t 88), some 89, some (83, true)⟩,
        ⟨.mov (.t 0), some 90, some (83, true)⟩,
        ⟨.mov (.t 13), some 91, some (83, true)⟩,
        ⟨.ixL 3 (.t 90) (.t 91), some 92, some (83, true)⟩,
        ⟨.ldN 3 (.t 92), some 93, some (83, true)⟩,
        ⟨.callv (.t 84) [(.t 89), (.t 93)], some 94, some (83, true)⟩,
        ⟨.bin .lss (.t 94) (.v (.int .i64 0)), some 95, some (83, true)⟩,
        ⟨.un .not (.t 95), some 96, some (83, true)⟩,
        ⟨.pick (.t 83) (.t 96) (.v (.bool false)), some 97, none⟩]) <|
      .cond (.t 97) (.seq (.reg [⟨.mov (.t 0), some 98, none⟩,
         ⟨.mov (.t 1), some 99, none⟩,
         ⟨.mov (.t 2), some 100, none⟩,
         ⟨.mov (.t 13), some 101, none⟩,
         ⟨.mov (.t 4), some 102, none⟩,
         ⟨.call (I.f 791) [(.t 98), (.t 99), (.t 100), (.t 101), (.t 102)], some 103, none⟩,
         ⟨.mov (.t 103), some 15, none⟩]) <|
       .seq (.reg [⟨.mov (.t 15), some 104, none⟩,
         ⟨.mov (.t 104), some 1, none⟩]) <|
       .exit 1)
       (.skip)) <|
     .seq (.reg [⟨.mov (.t 0), some 106, none⟩,
       ⟨.mov (.t 1), some 107, none⟩,
       ⟨.mov (.t 2), some 108, none⟩,
       ⟨.mov (.t 13), some 109, none⟩,
       ⟨.mov (.t 4), some 110, none⟩,
       ⟨.call (I.f 792) [(.t 106), (.t 107), (.t 108), (.t 109), (.t 110)], some 111, none⟩,
       ⟨.mov (.t 111), some 105, none⟩,
       ⟨.ext (.t 105) 0, some 112, none⟩,
       ⟨.ext (.t 105) 1, some 113, none⟩,
       ⟨.mov (.t 112), some 16, none⟩,
       ⟨.mov (.t 113), some 17, none⟩]) <|
     .seq (.reg [⟨.mov (.t 17), some 114, none⟩,
       ⟨.mov (.t 114), some 11, none⟩]) <|
     .seq (.reg [⟨.mov (.t 16), some 115, none⟩,
       ⟨.mov (.t 1), some 116, none⟩,
       ⟨.bin .sub (.t 115) (.t 116), some 117, none⟩,
       ⟨.mov (.t 2), some 118, none⟩,
       ⟨.mov (.t 16), some 119, none⟩,
       ⟨.bin .sub (.t 118) (.t 119), some 120, none⟩,
       ⟨.mov (.t 117), some 18, none⟩,
       ⟨.mov (.t 120), some 19, none⟩]) <|
     .seq (.reg [⟨.mov (.t 12), some 121, none⟩,
       ⟨.bin .quo (.t 121) (.v (.int .i64 8)), some 122, none⟩,
       ⟨.mov (.t 122), some 20, none⟩]) <|
     .seq (.reg [⟨.mov (.t 18), some 123, none⟩,
       ⟨.mov (.t 19), some 124, none⟩,
       ⟨.bin .lss (.t 123) (.t 124), some 125, none⟩]) <|
     .cond (.t 125) (.seq (.reg [⟨.mov (.t 18), some 126, none⟩,
        ⟨.mov (.t 20), some 127, none⟩,
        ⟨.bin .geq (.t 126) (.t 127), some 128, none⟩,
        ⟨.mov (.t 128), some 10, none⟩]) <|
      .seq (.reg [⟨.mov (.t 0), some 129, none⟩,
        ⟨.mov (.t 1), some 130, none⟩,
        ⟨.mov (.t 16), some 131, none⟩,
        ⟨.mov (.t 3), some 132, none⟩,
        ⟨.mov (.t 4), some 133, none⟩,
        ⟨.call (I.f 693) [(.t 129), (.t 130), (.t 131), (.t 132), (.t 133)], some 134, none⟩]) <|
      .reg [⟨.mov (.t 16), some 135, none⟩,
       ⟨.bin .add (.t 135) (.v (.int .i64 1)), some 136, none⟩,
       ⟨.mov (.t 136), some 1, none⟩])
      (.seq (.reg [⟨.mov (.t 19), some 137, none⟩,
        ⟨.mov (.t 20), some 138, none⟩,
        ⟨.bin .geq (.t 137) (.t 138), some 139, none⟩,
        ⟨.mov (.t 139), some 10, none⟩]) <|
      .seq (.reg [⟨.mov (.t 0), some 140, none⟩,
        ⟨.mov (.t 16), some 141, none⟩,
        ⟨.bin .add (.t 141) (.v (.int .i64 1)), some 142, none⟩,
        ⟨.mov (.t 2), some 143, none⟩,
        ⟨.mov (.t 3), some 144, none⟩,
        ⟨.mov (.t 4), some 145, none⟩,
        ⟨.call (I.f 693) [(.t 140), (.t 142), (.t 143), (.t 144), (.t 145)], some 146, none⟩]) <|
      .reg [⟨.mov (.t 16), some 147, none⟩,
       ⟨.mov (.t 147), some 2, none⟩])
-- 693 nt 148 res [] params [[]api.Step, int, int, int, func(api.Step, api.Step) int]
/-- slices.Grow[[]int,int] -/
def c697 (I : Ids) : IC :=
  .seq (.reg [⟨.mov (.v (.slice none 0 (.ex 0))), some 4, none⟩]) <|
  .seq (.seq (.reg [⟨.mov (.t 1), some 5, none⟩,
     ⟨.bin .lss (.t 5) (.v (.int .i64 0)), some 6, none⟩]) <|
   .cond (.t 6) (.reg [⟨.ifc (I.t 9) (.v (.str [99, 97, 110, 110, 111, 116, 32, 98, 101, 32, 110, 101, 103, 97, 116, 105, 118, 101])), some 7, none⟩,
     ⟨.pan (.t 7), none, none⟩])
    (.skip)) <|
  .seq (.seq (.reg [⟨.mov (.t 1), some 8, none⟩,
     ⟨.mov (.t 0), some 9, none⟩,
     ⟨.raw (.call ⟨(.builtin .cap), #[(.tmp 9)], #[I.t 69]⟩), some 10, none⟩,
     ⟨.mov (.t 0), some 11, none⟩,
     ⟨.lenL (.t 11), some 12, none⟩,
     ⟨.bin .sub (.t 10) (.t 12), some 13, none⟩,
     ⟨.bin .sub (.t 8) (.t 13), some 14, none⟩,
     ⟨.mov (.t 14), some 1, none⟩]) <|
   .seq (.reg [⟨.mov (.t 1), some 15, none⟩,
     ⟨.bin .gtr (.t 15) (.v (.int .i64 0)), some 16, none⟩]) <|
   .cond (.t 16) (.reg [⟨.mov (.t 0), some 17, none⟩,
     ⟨.mov (.t 0), some 18, none⟩,
     ⟨.raw (.call ⟨(.builtin .cap), #[(.tmp 18)], #[I.t 69]⟩), some 19, none⟩,
     ⟨.slL (I.t 3) 1 (.t 17) none (some (.t 19)) none, some 20, none⟩,
     ⟨.mov (.t 1), some 21, none⟩,
     ⟨.raw (.call ⟨(.builtin .append), #[(.tmp 20), (.tmp 21)], #[I.t 69, I.t 3]⟩), some 22, none⟩,
     ⟨.mov (.t 0), some 23, none⟩,
     ⟨.lenL (.t 23), some 24, none⟩,
     ⟨.slL (I.t 3) 1 (.t 22) none (some (.t 24)) none, some 25, none⟩,
     ⟨.mov (.t 25), some 0, none⟩])
    (.skip)) <|
  .seq (.reg [⟨.mov (.t 0), some 26, none⟩,
    ⟨.mov (.t 26), some 4, none⟩]) <|
  .ret
-- 697 nt 27 res [.tmp 4] params [[]int, int]
/-- slices.Chunk[[]int,int] -/
def c702 (I : Ids) : IC :=
  .seq (.reg [⟨.box (I.t 69) (.t 0), some 2, none⟩,
    ⟨.box (I.t 3) (.t 1), some 3, none⟩,
    ⟨.mov (.v .nilFunc), some 4, none⟩]) <|
  .seq (.seq (.reg [⟨.ld1 (.t 3), some 5, none⟩,
     ⟨.bin .lss (.t 5) (.v (.int .i64 1)), some 6, none⟩]) <|
   .cond (.t 6) (.reg [⟨.ifc (I.t 9) (.v (.str [99, 97, 110, 110, 111, 116, 32, 98, 101, 32, 108, 101, 115, 115, 32, 116, 104, 97, 110, 32, 49])), some 7, none⟩,
     ⟨.pan (.t 7), none, none⟩])
    (.skip)) <|
  .seq (.reg [⟨.mkF (I.f 794) [] [(.t 2), (.t 3)], some 8, none⟩,
    ⟨.mov (.t 8), some 4, none⟩]) <|
  .ret
-- 702 nt 9 res [.tmp 4] params [[]int, int]
/-- slices.insertionSortCmpFunc[dovetail/api.Step] -/
def c785 (I : Ids) : IC :=
  .seq (.reg [⟨.mov (.t 1), some 10, none⟩,
    ⟨.bin .add (.t 10) (.v (.int .i64 1)), some 11, none⟩,
    ⟨.mov (.t 11), some 8, none⟩]) <|
  .block 0 <|
   .loop <|
    .seq (.seq (.reg [⟨.mov (.t 8), some 12, none⟩,
       ⟨.mov (.t 2), some 13, none⟩,
       ⟨.bin .lss (.t 12) (.t 13), some 14, none⟩]) <|
     .cond (.t 14) (.skip)
      (.exit 0)) <|
    .seq (.block 1 <|
      .seq (.reg [⟨.mov (.t 8), some 17, none⟩,
        ⟨.mov (.t 17), some 9, none⟩]) <|
      .block 2 <|
       .loop <|
        .seq (.seq (.drw [⟨.mov (.t 9), some 18, none⟩,
           ⟨.mov (.t 1), some 19, none⟩,
           ⟨.bin .gtr (.t 18) (.t 19), some 20, none⟩,
           ⟨.mov (.t 20), some 21, none⟩,
           ⟨.mov (.t 3), some 22, some (21, true)⟩,
           ⟨.mov (.t 0), some 23, some (21, true)⟩,
           ⟨.mov (.t 9), some 24, some (21, true)⟩,
           ⟨.ixL 3 (.t 23) (.t 24), some 25, some (21, true)⟩,
           ⟨.ldN 3 (.t 25), some 26, some (21, true)⟩,
           ⟨.mov (.t 0), some 27, some (21, true)⟩,
           ⟨.mov (.t 9), some 28, some (21, true)⟩,
           ⟨.bin .sub (.t 28) (.v (.int .i64 1)), some 29, some (21, true)⟩,
           ⟨.ixL 3 (.t 27) (.t 29), some 30, some (21, true)⟩,
           ⟨.ldN 3 (.t 30), some 31, some (21, true)⟩,
           ⟨.callv (.t 22) [(.t 26), (.t 31)], some 32, some (21, true)⟩,
           ⟨.bin .lss (.t 32) (.v (.int .i64 0)), some 33, some (21, true)⟩,
           ⟨.pick (.t 21) (.t 33) (.v (.bool false)), some 34, none⟩]) <|
         .cond (.t 34) (.skip)
          (.exit 2)) <|
        .seq (.block 3 <|
          .drw [⟨.mov (.t 0), some 37, none⟩,
           ⟨.mov (.t 9), some 38, none⟩,
           ⟨.mov (.t 0), some 39, none⟩,
           ⟨.mov (.t 9), some 40, none⟩,
           ⟨.bin .sub (.t 40) (.v (.int .i64 1)), some 41, none⟩,
           ⟨.mov (.t 0), some 42, none⟩,
           ⟨.mov (.t 9), some 43, none⟩,
           ⟨.bin .sub (.t 43) (.v (.int .i64 1)), some 44, none⟩,
           ⟨.ixL 3 (.t 42) (.t 44), some 45, none⟩,
           ⟨.ldN 3 (.t 45), some 46, none⟩,
           ⟨.mov (.t 0), some 47, none⟩,
           ⟨.mov (.t 9), some 48, none⟩,
           ⟨.ixL 3 (.t 47) (.t 48), some 49, none⟩,
           ⟨.ldN 3 (.t 49), some 50, none⟩,
           ⟨.ixL 3 (.t 37) (.t 38), some 51, none⟩,
           ⟨.sto 3 (.t 51) (.t 46), none, none⟩,
           ⟨.ixL 3 (.t 39) (.t 41), some 52, none⟩,
           ⟨.sto 3 (.t 52) (.t 50), none, none⟩]) <|
        .reg [⟨.mov (.t 9), some 35, none⟩,
         ⟨.bin .sub (.t 35) (.v (.int .i64 1)), some 36, none⟩,
         ⟨.mov (.t 36), some 9, none⟩]) <|
    .reg [⟨.mov (.t 8), some 15, none⟩,
     ⟨.bin .add (.t 15) (.v (.int .i64 1)), some 16, none⟩,
     ⟨.mov (.t 16), some 8, none⟩]
-- 785 nt 53 res [] params [[]api.Step, int, int, func(api.Step, api.Step) int]
/-- slices.Chunk[[]int,int]$1 -/
def c794 (I : Ids) : IC :=
  .seq (.reg [⟨.mov (.v (.int .i64 0)), some 4, none⟩]) <|
  .block 0 <|
   .loop <|
    .seq (.seq (.reg [⟨.mov (.t 4), some 6, none⟩,
       ⟨.ld1 (.t 1), some 7, none⟩,
       ⟨.lenL (.t 7), some 8, none⟩,
       ⟨.bin .lss (.t 6) (.t 8), some 9, none⟩]) <|
     .cond (.t 9) (.skip)
      (.exit 0)) <|
    .seq (.block 1 <|
      .seq (.drw [⟨.ld1 (.t 2), some 13, none⟩,
        ⟨.ld1 (.t 1), some 14, none⟩,
        ⟨.mov (.t 4), some 15, none⟩,
        ⟨.slL (I.t 3) 1 (.t 14) (some (.t 15)) none none, some 16, none⟩,
        ⟨.lenL (.t 16), some 17, none⟩,
        ⟨.mx false [(.t 13), (.t 17)], some 18, none⟩,
        ⟨.mov (.t 18), some 5, none⟩]) <|
      .seq (.reg [⟨.mov (.t 0), some 19, none⟩,
        ⟨.ld1 (.t 1), some 20, none⟩,
        ⟨.mov (.t 4), some 21, none⟩,
        ⟨.mov (.t 4), some 22, none⟩,
        ⟨.mov (.t 5), some 23, none⟩,
        ⟨.bin .add (.t 22) (.t 23), some 24, none⟩,
        ⟨.mov (.t 4), some 25, none⟩,
        ⟨.mov (.t 5), some 26, none⟩,
        ⟨.bin .add (.t 25) (.t 26), some 27, none⟩,
        ⟨.slL (I.t 3) 1 (.t 20) (some (.t 21)) (some (.t 24)) (some (.t 27)), some 28, none⟩,
        ⟨.callv (.t 19) [(.t 28)], some 29, none⟩,
        ⟨.un .not (.t 29), some 30, none⟩]) <|
      .cond (.t 30) (.ret)
       (.skip)) <|
    .reg [⟨.mov (.t 4), some 10, none⟩,
     ⟨.ld1 (.t 2), some 11, none⟩,
     ⟨.bin .add (.t 10) (.t 11), some 12, none⟩,
     ⟨.mov (.t 12), some 4, none⟩]
-- 794 nt 31 res [] params [func([]int) bool]
end Go.Vm
