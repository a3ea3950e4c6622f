/- The code of functions, looked up; printed. -/
import Derived.Test.YtmkhdddeikoceaaGreatDoorWpUtil
set_option linter.unusedVariables false
set_option linter.unusedSimpArgs false
namespace Go.Vm
set_option maxRecDepth 100000
/-- (*dovetail/tables.Tables).Terms -/
def c103 (I : Ids) : IC :=
  .seq (.reg [⟨.mov (.v (.int .i64 0)), some 2, none⟩]) <|
  .seq (.seq (.reg [⟨.mov (.t 0), some 3, none⟩,
     ⟨.isN 0 false (.t 3), some 4, none⟩]) <|
   .cond (.t 4) (.seq (.reg [⟨.mov (.v (.int .i64 0)), some 2, none⟩]) <|
    .ret)
    (.skip)) <|
  .seq (.reg [⟨.mov (.t 0), some 5, none⟩,
    ⟨.nilCheck (.t 5), some 6, none⟩,
    ⟨.fad 0 (.t 6), some 7, none⟩,
    ⟨.fad 1 (.t 7), some 8, none⟩,
    ⟨.fad 0 (.t 8), some 9, none⟩,
    ⟨.ld1 (.t 9), some 10, none⟩,
    ⟨.lenL (.t 10), some 11, none⟩,
    ⟨.mov (.t 11), some 2, none⟩]) <|
  .ret
-- 103 nt 12 res [.tmp 2] params [*tables.Tables]
/-- (*dovetail/tables.Tables).Relation -/
def c104 (I : Ids) : IC :=
  .seq (.reg [⟨.mov (.v (.int .i64 0)), some 6, none⟩]) <|
  .seq (.seq (.reg [⟨.mov (.t 0), some 7, none⟩,
     ⟨.isN 0 false (.t 7), some 8, none⟩]) <|
   .cond (.t 8) (.seq (.reg [⟨.mov (.v (.int .i64 0)), some 6, none⟩]) <|
    .ret)
    (.skip)) <|
  .seq (.reg [⟨.mov (.t 0), some 9, none⟩,
    ⟨.nilCheck (.t 9), some 10, none⟩,
    ⟨.fad 0 (.t 10), some 11, none⟩,
    ⟨.fad 8 (.t 11), some 12, none⟩,
    ⟨.ld1 (.t 12), some 13, none⟩,
    ⟨.mov (.t 1), some 14, none⟩,
    ⟨.mov (.t 2), some 15, none⟩,
    ⟨.call (I.f 339) [(.t 13), (.t 14), (.t 15)], some 16, none⟩,
    ⟨.mov (.t 16), some 6, none⟩]) <|
  .ret
-- 104 nt 17 res [.tmp 6] params [*tables.Tables, int, int]
/-- dovetail/parse.Parse -/
def c132 (I : Ids) : IC :=
  .seq (.reg [⟨.box (I.t 50) (.t 0), some 2, none⟩,
    ⟨.alc (newBlk [(.int .i64 0), (.slice none 0 (.ex 0)), (.slice none 0 (.ex 0))] (I.t 132)), some 4, none⟩,
    ⟨.mov (.v .nilIface), some 5, none⟩]) <|
  .seq (.block 0 <|
    .seq (.reg [⟨.ld1 (.t 2), some 7, none⟩,
      ⟨.isN 0 false (.t 7), some 8, none⟩,
      ⟨.mov (.t 8), some 6, none⟩]) <|
    .cond (.t 6) (.seq (.drv [⟨⟨.bld [(.int .i64 0), (.slice none 0 (.ex 0)), (.slice none 0 (.ex 0))] [], some 9, none⟩, 0, [], [], []⟩,
       ⟨⟨.ld1 (.v (.ptr (some (I.g 1, 0)))), some 10, none⟩, 1, [], [], []⟩,
       ⟨⟨.sto 3 (.t 4) (.t 9), none, none⟩, 3, [], [1], []⟩,
       ⟨⟨.mov (.t 10), some 5, none⟩, 0, [], [], []⟩]) <|
     .ret)
     (.seq (.reg [⟨.mov (.t 1), some 12, none⟩,
       ⟨.lenL (.t 12), some 13, none⟩,
       ⟨.bin .gtr (.t 13) (.v (.int .i64 65536)), some 14, none⟩,
       ⟨.mov (.t 14), some 11, none⟩]) <|
     .cond (.t 11) (.seq (.drv [⟨⟨.bld [(.int .i64 0), (.slice none 0 (.ex 0)), (.slice none 0 (.ex 0))] [], some 15, none⟩, 0, [], [], []⟩,
        ⟨⟨.ld1 (.v (.ptr (some (I.g 0, 0)))), some 16, none⟩, 1, [], [], []⟩,
        ⟨⟨.sto 3 (.t 4) (.t 15), none, none⟩, 3, [], [1], []⟩,
        ⟨⟨.mov (.t 16), some 5, none⟩, 0, [], [], []⟩]) <|
      .ret)
      (.seq (.reg [⟨.mov (.t 1), some 18, none⟩,
        ⟨.mkF (I.f 364) [] [(.t 2)], some 19, none⟩,
        ⟨.call (I.f 363) [(.t 18), (.t 19)], some 20, none⟩,
        ⟨.mov (.t 20), some 17, none⟩]) <|
      .cond (.t 17) (.seq (.drv [⟨⟨.bld [(.int .i64 0), (.slice none 0 (.ex 0)), (.slice none 0 (.ex 0))] [], some 21, none⟩, 0, [], [], []⟩,
         ⟨⟨.ld1 (.v (.ptr (some (I.g 1, 0)))), some 22, none⟩, 1, [], [], []⟩,
         ⟨⟨.sto 3 (.t 4) (.t 21), none, none⟩, 3, [], [1], []⟩,
         ⟨⟨.mov (.t 22), some 5, none⟩, 0, [], [], []⟩]) <|
       .ret)
       (.skip)))) <|
  .seq (.reg [⟨.ld1 (.t 2), some 23, none⟩,
    ⟨.mov (.t 1), some 24, none⟩,
    ⟨.call (I.f 365) [(.t 23), (.t 24)], some 25, none⟩,
    ⟨.ext (.t 25) 0, some 26, none⟩,
    ⟨.ext (.t 25) 1, some 27, none⟩,
    ⟨.sto 3 (.t 4) (.t 26), none, none⟩,
    ⟨.mov (.t 27), some 5, none⟩]) <|
  .ret
-- 132 nt 28 res [.cell 4 (I.t 132), .tmp 5] params [*tables.Tables, []int]
/-- (*dovetail/stack.Stack).Shift -/
def c176 (I : Ids) : IC :=
  .seq (.reg [⟨.mov (.v .nilIface), some 4, none⟩]) <|
  .seq (.block 0 <|
    .seq (.reg [⟨.mov (.t 0), some 6, none⟩,
      ⟨.isN 0 false (.t 6), some 7, none⟩,
      ⟨.mov (.t 7), some 8, none⟩,
      ⟨.mov (.t 0), some 9, some (8, false)⟩,
      ⟨.nilCheck (.t 9), some 10, some (8, false)⟩,
      ⟨.fad 4 (.t 10), some 11, some (8, false)⟩,
      ⟨.ld1 (.t 11), some 12, some (8, false)⟩,
      ⟨.pick (.t 8) (.v (.bool true)) (.t 12), some 13, none⟩,
      ⟨.mov (.t 13), some 14, none⟩,
      ⟨.mov (.t 1), some 15, some (14, false)⟩,
      ⟨.bin .lss (.t 15) (.v (.int .i64 0)), some 16, some (14, false)⟩,
      ⟨.pick (.t 14) (.v (.bool true)) (.t 16), some 17, none⟩,
      ⟨.mov (.t 17), some 18, none⟩,
      ⟨.mov (.t 1), some 19, some (18, false)⟩,
      ⟨.mov (.t 0), some 20, some (18, false)⟩,
      ⟨.nilCheck (.t 20), some 21, some (18, false)⟩,
      ⟨.fad 0 (.t 21), some 22, some (18, false)⟩,
      ⟨.ld1 (.t 22), some 23, some (18, false)⟩,
      ⟨.call (I.f 103) [(.t 23)], some 24, some (18, false)⟩,
      ⟨.bin .geq (.t 19) (.t 24), some 25, some (18, false)⟩,
      ⟨.pick (.t 18) (.v (.bool true)) (.t 25), some 26, none⟩,
      ⟨.mov (.t 26), some 5, none⟩]) <|
    .cond (.t 5) (.seq (.reg [⟨.ld1 (.v (.ptr (some (I.g 1, 0)))), some 27, none⟩,
       ⟨.mov (.t 27), some 4, none⟩]) <|
     .ret)
     (.seq (.reg [⟨.mov (.t 0), some 29, none⟩,
       ⟨.nilCheck (.t 29), some 30, none⟩,
       ⟨.fad 5 (.t 30), some 31, none⟩,
       ⟨.ld1 (.t 31), some 32, none⟩,
       ⟨.mov (.t 32), some 28, none⟩]) <|
     .cond (.t 28) (.seq (.reg [⟨.ld1 (.v (.ptr (some (I.g 7, 0)))), some 33, none⟩,
        ⟨.mov (.t 33), some 4, none⟩]) <|
      .ret)
      (.seq (.reg [⟨.mov (.t 0), some 35, none⟩,
        ⟨.nilCheck (.t 35), some 36, none⟩,
        ⟨.fad 2 (.t 36), some 37, none⟩,
        ⟨.ld1 (.t 37), some 38, none⟩,
        ⟨.eqT 1 false (.t 38) (.v (.int .i64 65536)), some 39, none⟩,
        ⟨.mov (.t 39), some 34, none⟩]) <|
      .cond (.t 34) (.seq (.reg [⟨.ld1 (.v (.ptr (some (I.g 0, 0)))), some 40, none⟩,
         ⟨.mov (.t 40), some 4, none⟩]) <|
       .ret)
       (.seq (.reg [⟨.mov (.t 0), some 42, none⟩,
         ⟨.mov (.t 1), some 43, none⟩,
         ⟨.call (I.f 404) [(.t 42), (.t 43)], some 44, none⟩,
         ⟨.un .not (.t 44), some 45, none⟩,
         ⟨.mov (.t 45), some 41, none⟩]) <|
       .cond (.t 41) (.seq (.reg [⟨.ld1 (.v (.ptr (some (I.g 7, 0)))), some 46, none⟩,
          ⟨.mov (.t 46), some 4, none⟩]) <|
        .ret)
        (.skip))))) <|
  .seq (.reg [⟨.mov (.v .nilIface), some 4, none⟩]) <|
  .ret
-- 176 nt 47 res [.tmp 4] params [*stack.Stack, int]
/-- (*dovetail/stack.Stack).Made -/
def c177 (I : Ids) : IC :=
  .seq (.reg [⟨.mov (.v (.slice none 0 (.ex 0))), some 2, none⟩]) <|
  .seq (.seq (.reg [⟨.mov (.t 0), some 3, none⟩,
     ⟨.isN 0 false (.t 3), some 4, none⟩]) <|
   .cond (.t 4) (.seq (.reg [⟨.mov (.v (.slice none 0 (.ex 0))), some 2, none⟩]) <|
    .ret)
    (.skip)) <|
  .seq (.reg [⟨.mov (.t 0), some 5, none⟩,
    ⟨.nilCheck (.t 5), some 6, none⟩,
    ⟨.fad 9 (.t 6), some 7, none⟩,
    ⟨.ld1 (.t 7), some 8, none⟩,
    ⟨.call (I.f 393) [(.t 8)], some 9, none⟩,
    ⟨.call (I.f 358) [(.t 9)], some 10, none⟩,
    ⟨.mov (.t 10), some 2, none⟩]) <|
  .ret
-- 177 nt 11 res [.tmp 2] params [*stack.Stack]
/-- dovetail/stack.Whole -/
def c184 (I : Ids) : IC :=
  .seq (.reg [⟨.mov (.v (.ptr none)), some 2, none⟩]) <|
  .seq (.seq (.reg [⟨.mov (.t 0), some 3, none⟩,
     ⟨.isN 0 false (.t 3), some 4, none⟩]) <|
   .cond (.t 4) (.seq (.reg [⟨.mov (.v (.ptr none)), some 2, none⟩]) <|
    .ret)
    (.skip)) <|
  .seq (.reg [⟨.mov (.t 0), some 5, none⟩,
    ⟨.bld [(.ptr none), (.int .i64 0), (.int .i64 0), (.bool false), (.bool false), (.bool false), (.slice none 0 (.ex 0)), (.slice none 0 (.ex 0)), (.slice none 0 (.ex 0)), (.slice none 0 (.ex 0))] [(0, 1, (.t 5)), (3, 1, (.v (.bool true)))], some 6, none⟩,
    ⟨.box (I.t 491) (.t 6), some 7, none⟩,
    ⟨.mov (.t 7), some 2, none⟩]) <|
  .ret
-- 184 nt 8 res [.tmp 2] params [*tables.Tables]
/-- (*dovetail/stack.Stack).End -/
def c185 (I : Ids) : IC :=
  .seq (.reg [⟨.mov (.v (.slice none 0 (.ex 0))), some 2, none⟩,
    ⟨.mov (.v .nilIface), some 3, none⟩]) <|
  .seq (.seq (.reg [⟨.mov (.t 0), some 4, none⟩,
     ⟨.isN 0 false (.t 4), some 5, none⟩,
     ⟨.mov (.t 5), some 6, none⟩,
     ⟨.mov (.t 0), some 7, some (6, false)⟩,
     ⟨.nilCheck (.t 7), some 8, some (6, false)⟩,
     ⟨.fad 3 (.t 8), some 9, some (6, false)⟩,
     ⟨.ld1 (.t 9), some 10, some (6, false)⟩,
     ⟨.un .not (.t 10), some 11, some (6, false)⟩,
     ⟨.pick (.t 6) (.v (.bool true)) (.t 11), some 12, none⟩,
     ⟨.mov (.t 12), some 13, none⟩,
     ⟨.mov (.t 0), some 14, some (13, false)⟩,
     ⟨.nilCheck (.t 14), some 15, some (13, false)⟩,
     ⟨.fad 4 (.t 15), some 16, some (13, false)⟩,
     ⟨.ld1 (.t 16), some 17, some (13, false)⟩,
     ⟨.pick (.t 13) (.v (.bool true)) (.t 17), some 18, none⟩]) <|
   .cond (.t 18) (.seq (.drw [⟨.ld1 (.v (.ptr (some (I.g 1, 0)))), some 19, none⟩,
      ⟨.mov (.v (.slice none 0 (.ex 0))), some 2, none⟩,
      ⟨.mov (.t 19), some 3, none⟩]) <|
    .ret)
    (.skip)) <|
  .seq (.reg [⟨.mov (.t 0), some 20, none⟩,
    ⟨.nilCheck (.t 20), some 21, none⟩,
    ⟨.fad 4 (.t 21), some 22, none⟩,
    ⟨.sto 1 (.t 22) (.v (.bool true)), none, none⟩]) <|
  .seq (.seq (.drw [⟨.mov (.t 0), some 23, none⟩,
     ⟨.nilCheck (.t 23), some 24, none⟩,
     ⟨.fad 5 (.t 24), some 25, none⟩,
     ⟨.ld1 (.t 25), some 26, none⟩,
     ⟨.mov (.t 26), some 27, none⟩,
     ⟨.mov (.t 0), some 28, some (27, false)⟩,
     ⟨.mov (.t 0), some 29, some (27, false)⟩,
     ⟨.nilCheck (.t 29), some 30, some (27, false)⟩,
     ⟨.fad 0 (.t 30), some 31, some (27, false)⟩,
     ⟨.ld1 (.t 31), some 32, some (27, false)⟩,
     ⟨.call (I.f 103) [(.t 32)], some 33, some (27, false)⟩,
     ⟨.call (I.f 406) [(.t 28), (.t 33)], some 34, some (27, false)⟩,
     ⟨.un .not (.t 34), some 35, some (27, false)⟩,
     ⟨.pick (.t 27) (.v (.bool true)) (.t 35), some 36, none⟩,
     ⟨.mov (.t 36), some 37, none⟩,
     ⟨.mov (.t 0), some 38, some (37, false)⟩,
     ⟨.nilCheck (.t 38), some 39, some (37, false)⟩,
     ⟨.fad 6 (.t 39), some 40, some (37, false)⟩,
     ⟨.ld1 (.t 40), some 41, some (37, false)⟩,
     ⟨.lenL (.t 41), some 42, some (37, false)⟩,
     ⟨.eqT 1 true (.t 42) (.v (.int .i64 1)), some 43, some (37, false)⟩,
     ⟨.pick (.t 37) (.v (.bool true)) (.t 43), some 44, none⟩,
     ⟨.mov (.t 44), some 45, none⟩,
     ⟨.mov (.t 0), some 46, some (45, false)⟩,
     ⟨.nilCheck (.t 46), some 47, some (45, false)⟩,
     ⟨.fad 0 (.t 47), some 48, some (45, false)⟩,
     ⟨.ld1 (.t 48), some 49, some (45, false)⟩,
     ⟨.mov (.t 0), some 50, some (45, false)⟩,
     ⟨.nilCheck (.t 50), some 51, some (45, false)⟩,
     ⟨.fad 6 (.t 51), some 52, some (45, false)⟩,
     ⟨.ld1 (.t 52), some 53, some (45, false)⟩,
     ⟨.ixL 4 (.t 53) (.v (.int .i64 0)), some 54, some (45, false)⟩,
     ⟨.fad 1 (.t 54), some 55, some (45, false)⟩,
     ⟨.ld1 (.t 55), some 56, some (45, false)⟩,
     ⟨.call (I.f 117) [(.t 49), (.t 56)], some 57, some (45, false)⟩,
     ⟨.un .not (.t 57), some 58, some (45, false)⟩,
     ⟨.pick (.t 45) (.v (.bool true)) (.t 58), some 59, none⟩]) <|
   .cond (.t 59) (.seq (.reg [⟨.mov (.t 0), some 60, none⟩,
      ⟨.nilCheck (.t 60), some 61, none⟩,
      ⟨.fad 5 (.t 61), some 62, none⟩,
      ⟨.sto 1 (.t 62) (.v (.bool true)), none, none⟩]) <|
    .seq (.drw [⟨.ld1 (.v (.ptr (some (I.g 7, 0)))), some 63, none⟩,
      ⟨.mov (.v (.slice none 0 (.ex 0))), some 2, none⟩,
      ⟨.mov (.t 63), some 3, none⟩]) <|
    .ret)
    (.skip)) <|
  .seq (.reg [⟨.mov (.t 0), some 64, none⟩,
    ⟨.nilCheck (.t 64), some 65, none⟩,
    ⟨.fad 8 (.t 65), some 66, none⟩,
    ⟨.ld1 (.t 66), some 67, none⟩,
    ⟨.call (I.f 405) [(.t 67)], some 68, none⟩,
    ⟨.mov (.t 68), some 2, none⟩,
    ⟨.mov (.v .nilIface), some 3, none⟩]) <|
  .ret
-- 185 nt 69 res [.tmp 2, .tmp 3] params [*stack.Stack]
/-- (*dovetail/matrix.Matrix).Holds -/
def c227 (I : Ids) : IC :=
  .seq (.reg [⟨.mov (.v (.bool false)), some 8, none⟩]) <|
  .seq (.seq (.reg [⟨.mov (.t 0), some 9, none⟩,
     ⟨.isN 0 false (.t 9), some 10, none⟩,
     ⟨.mov (.t 10), some 11, none⟩,
     ⟨.mov (.t 1), some 12, some (11, false)⟩,
     ⟨.bin .lss (.t 12) (.v (.int .i64 0)), some 13, some (11, false)⟩,
     ⟨.pick (.t 11) (.v (.bool true)) (.t 13), some 14, none⟩,
     ⟨.mov (.t 14), some 15, none⟩,
     ⟨.mov (.t 1), some 16, some (15, false)⟩,
     ⟨.mov (.t 0), some 17, some (15, false)⟩,
     ⟨.nilCheck (.t 17), some 18, some (15, false)⟩,
     ⟨.fad 0 (.t 18), some 19, some (15, false)⟩,
     ⟨.ld1 (.t 19), some 20, some (15, false)⟩,
     ⟨.bin .geq (.t 16) (.t 20), some 21, some (15, false)⟩,
     ⟨.pick (.t 15) (.v (.bool true)) (.t 21), some 22, none⟩,
     ⟨.mov (.t 22), some 23, none⟩,
     ⟨.mov (.t 2), some 24, some (23, false)⟩,
     ⟨.bin .lss (.t 24) (.v (.int .i64 0)), some 25, some (23, false)⟩,
     ⟨.pick (.t 23) (.v (.bool true)) (.t 25), some 26, none⟩,
     ⟨.mov (.t 26), some 27, none⟩,
     ⟨.mov (.t 2), some 28, some (27, false)⟩,
     ⟨.mov (.t 0), some 29, some (27, false)⟩,
     ⟨.nilCheck (.t 29), some 30, some (27, false)⟩,
     ⟨.fad 0 (.t 30), some 31, some (27, false)⟩,
     ⟨.ld1 (.t 31), some 32, some (27, false)⟩,
     ⟨.bin .geq (.t 28) (.t 32), some 33, some (27, false)⟩,
     ⟨.pick (.t 27) (.v (.bool true)) (.t 33), some 34, none⟩,
     ⟨.mov (.t 34), some 35, none⟩,
     ⟨.mov (.t 3), some 36, some (35, false)⟩,
     ⟨.bin .lss (.t 36) (.v (.int .i64 0)), some 37, some (35, false)⟩,
     ⟨.pick (.t 35) (.v (.bool true)) (.t 37), some 38, none⟩,
     ⟨.mov (.t 38), some 39, none⟩,
     ⟨.mov (.t 3), some 40, some (39, false)⟩,
     ⟨.bin .gtr (.t 40) (.v (.int .i64 3)), some 41, some (39, false)⟩,
     ⟨.pick (.t 39) (.v (.bool true)) (.t 41), some 42, none⟩]) <|
   .cond (.t 42) (.seq (.reg [⟨.mov (.v (.bool false)), some 8, none⟩]) <|
    .ret)
    (.skip)) <|
  .seq (.seq (.reg [⟨.mov (.t 3), some 43, none⟩,
     ⟨.eqT 1 false (.t 43) (.v (.int .i64 0)), some 44, none⟩]) <|
   .cond (.t 44) (.seq (.reg [⟨.mov (.t 0), some 45, none⟩,
      ⟨.mov (.t 1), some 46, none⟩,
      ⟨.mov (.t 2), some 47, none⟩,
      ⟨.call (I.f 339) [(.t 45), (.t 46), (.t 47)], some 48, none⟩,
      ⟨.eqT 1 false (.t 48) (.v (.int .i64 0)), some 49, none⟩,
      ⟨.mov (.t 49), some 8, none⟩]) <|
    .ret)
    (.skip)) <|
  .seq (.reg [⟨.mov (.t 0), some 50, none⟩,
    ⟨.mov (.t 3), some 51, none⟩,
    ⟨.mov (.t 1), some 52, none⟩,
    ⟨.nilCheck (.t 50), some 53, none⟩,
    ⟨.fad 1 (.t 53), some 54, none⟩,
    ⟨.ixA 4 61 (.t 54) (.t 51), some 55, none⟩,
    ⟨.ixA 61 1 (.t 55) (.t 52), some 56, none⟩,
    ⟨.ld1 (.t 56), some 57, none⟩,
    ⟨.mov (.t 2), some 58, none⟩,
    ⟨.bin .shr (.t 57) (.t 58), some 59, none⟩,
    ⟨.bin .and (.t 59) (.v (.int .u64 1)), some 60, none⟩,
    ⟨.eqT 1 false (.t 60) (.v (.int .u64 1)), some 61, none⟩,
    ⟨.mov (.t 61), some 8, none⟩]) <|
  .ret
-- 227 nt 62 res [.tmp 8] params [*matrix.Matrix, int, int, int]
/-- (*dovetail/matrix.Matrix).At -/
def c339 (I : Ids) : IC :=
  .seq (.reg [⟨.mov (.v (.int .i64 0)), some 6, none⟩]) <|
  .seq (.seq (.reg [⟨.mov (.v (.int .i64 1)), some 7, none⟩]) <|
   .block 0 <|
    .loop <|
     .seq (.seq (.reg [⟨.mov (.t 7), some 8, none⟩,
        ⟨.bin .leq (.t 8) (.v (.int .i64 3)), some 9, none⟩]) <|
      .cond (.t 9) (.skip)
       (.exit 0)) <|
     .seq (.block 1 <|
       .seq (.reg [⟨.mov (.t 0), some 12, none⟩,
         ⟨.mov (.t 1), some 13, none⟩,
         ⟨.mov (.t 2), some 14, none⟩,
         ⟨.mov (.t 7), some 15, none⟩,
         ⟨.call (I.f 227) [(.t 12), (.t 13), (.t 14), (.t 15)], some 16, none⟩]) <|
       .cond (.t 16) (.seq (.reg [⟨.mov (.t 7), some 17, none⟩,
          ⟨.mov (.t 17), some 6, none⟩]) <|
        .ret)
        (.skip)) <|
     .reg [⟨.mov (.t 7), some 10, none⟩,
      ⟨.bin .add (.t 10) (.v (.int .i64 1)), some 11, none⟩,
      ⟨.mov (.t 11), some 7, none⟩]) <|
  .seq (.reg [⟨.mov (.v (.int .i64 0)), some 6, none⟩]) <|
  .ret
-- 339 nt 18 res [.tmp 6] params [*matrix.Matrix, int, int]
/-- dovetail/parse.Parse$1 -/
def c364 (I : Ids) : IC :=
  .seq (.reg [⟨.mov (.v (.bool false)), some 3, none⟩]) <|
  .seq (.reg [⟨.mov (.t 0), some 4, none⟩,
    ⟨.bin .lss (.t 4) (.v (.int .i64 0)), some 5, none⟩,
    ⟨.mov (.t 5), some 6, none⟩,
    ⟨.mov (.t 0), some 7, some (6, false)⟩,
    ⟨.ld1 (.t 1), some 8, some (6, false)⟩,
    ⟨.call (I.f 103) [(.t 8)], some 9, some (6, false)⟩,
    ⟨.bin .geq (.t 7) (.t 9), some 10, some (6, false)⟩,
    ⟨.pick (.t 6) (.v (.bool true)) (.t 10), some 11, none⟩,
    ⟨.mov (.t 11), some 3, none⟩]) <|
  .ret
-- 364 nt 12 res [.tmp 3] params [int]
/-- dovetail/parse.run -/
def c365 (I : Ids) : IC :=
  .seq (.reg [⟨.alc (newBlk [(.int .i64 0), (.slice none 0 (.ex 0)), (.slice none 0 (.ex 0))] (I.t 132)), some 4, none⟩,
    ⟨.alc (newBlk [.nilIface] (I.t 38)), some 5, none⟩]) <|
  .seq (.reg [⟨.mov (.t 0), some 9, none⟩,
    ⟨.call (I.f 184) [(.t 9)], some 10, none⟩,
    ⟨.alc (newBlk [(.ptr none)] (I.t 205)), some 6, none⟩,
    ⟨.sto 1 (.t 6) (.t 10), none, none⟩]) <|
  .seq (.reg [⟨.mkF (I.f 528) [] [(.t 6), (.t 4), (.t 5)], some 11, none⟩,
    ⟨.raw (.defer ⟨(.value (.tmp 11)), #[], #[]⟩), none, none⟩]) <|
  .seq (.seq (.reg [⟨.mov (.t 1), some 12, none⟩,
     ⟨.lenL (.t 12), some 13, none⟩,
     ⟨.mov (.v (.int .i64 0)), some 14, none⟩]) <|
   .block 0 <|
    .loop <|
     .seq (.reg [⟨.bin .lss (.t 14) (.t 13), some 15, none⟩]) <|
     .seq (.cond (.t 15) (.skip)
       (.exit 0)) <|
     .seq (.block 1 <|
       .seq (.reg [⟨.ixL 1 (.t 12) (.t 14), some 16, none⟩,
         ⟨.ld1 (.t 16), some 17, none⟩,
         ⟨.mov (.t 17), some 8, none⟩]) <|
       .seq (.seq (.reg [⟨.ld1 (.t 6), some 18, none⟩,
          ⟨.mov (.t 8), some 19, none⟩,
          ⟨.call (I.f 176) [(.t 18), (.t 19)], some 20, none⟩,
          ⟨.sto 1 (.t 5) (.t 20), none, none⟩]) <|
        .seq (.reg [⟨.ld1 (.t 5), some 21, none⟩,
          ⟨.isN 1 true (.t 21), some 22, none⟩]) <|
        .cond (.t 22) (.seq (.drv [⟨⟨.ldN 3 (.t 4), some 23, none⟩, 1, [], [], []⟩,
           ⟨⟨.ld1 (.t 5), some 24, none⟩, 1, [], [], []⟩,
           ⟨⟨.sto 3 (.t 4) (.t 23), none, none⟩, 3, [], [1], []⟩,
           ⟨⟨.sto 1 (.t 5) (.t 24), none, none⟩, 3, [], [], []⟩]) <|
         .ret)
         (.skip)) <|
       .reg [⟨.fad 0 (.t 4), some 25, none⟩,
        ⟨.ld1 (.t 25), some 26, none⟩,
        ⟨.bin .add (.t 26) (.v (.int .i64 1)), some 27, none⟩,
        ⟨.fad 0 (.t 4), some 28, none⟩,
        ⟨.sto 1 (.t 28) (.t 27), none, none⟩]) <|
     .reg [⟨.bin .add (.t 14) (.v (.int .i64 1)), some 29, none⟩,
      ⟨.mov (.t 29), some 14, none⟩]) <|
  .seq (.reg [⟨.ld1 (.t 6), some 31, none⟩,
    ⟨.call (I.f 185) [(.t 31)], some 32, none⟩,
    ⟨.mov (.t 32), some 30, none⟩,
    ⟨.ext (.t 30) 0, some 33, none⟩,
    ⟨.ext (.t 30) 1, some 34, none⟩,
    ⟨.fad 2 (.t 4), some 35, none⟩,
    ⟨.sto 1 (.t 35) (.t 33), none, none⟩,
    ⟨.sto 1 (.t 5) (.t 34), none, none⟩]) <|
  .seq (.drv [⟨⟨.ldN 3 (.t 4), some 36, none⟩, 1, [], [], []⟩,
    ⟨⟨.ld1 (.t 5), some 37, none⟩, 1, [], [], []⟩,
    ⟨⟨.sto 3 (.t 4) (.t 36), none, none⟩, 3, [], [1], []⟩,
    ⟨⟨.sto 1 (.t 5) (.t 37), none, none⟩, 3, [], [], []⟩]) <|
  .ret
-- 365 nt 38 res [.cell 4 (I.t 132), .cell 5 (I.t 38)] params [*tables.Tables, []int]
/-- (*dovetail/stack.Stack).lay -/
def c404 (I : Ids) : IC :=
  .seq (.reg [⟨.mov (.v (.bool false)), some 4, none⟩]) <|
  .seq (.seq (.reg [⟨.mov (.t 0), some 5, none⟩,
     ⟨.mov (.t 1), some 6, none⟩,
     ⟨.call (I.f 406) [(.t 5), (.t 6)], some 7, none⟩,
     ⟨.un .not (.t 7), some 8, none⟩]) <|
   .cond (.t 8) (.seq (.reg [⟨.mov (.v (.bool false)), some 4, none⟩]) <|
    .ret)
    (.skip)) <|
  .seq (.drw [⟨.mov (.t 0), some 9, none⟩,
    ⟨.mov (.t 0), some 10, none⟩,
    ⟨.nilCheck (.t 10), some 11, none⟩,
    ⟨.fad 7 (.t 11), some 12, none⟩,
    ⟨.ld1 (.t 12), some 13, none⟩,
    ⟨.mov (.t 0), some 14, none⟩,
    ⟨.nilCheck (.t 14), some 15, none⟩,
    ⟨.fad 6 (.t 15), some 16, none⟩,
    ⟨.ld1 (.t 16), some 17, none⟩,
    ⟨.lenL (.t 17), some 18, none⟩,
    ⟨.bSl (I.t 3) 1 1 [(.int .i64 0)] [(0, (.t 18))], some 19, none⟩,
    ⟨.app (I.t 3) 1 (.t 13) (.t 19), some 20, none⟩,
    ⟨.nilCheck (.t 9), some 21, none⟩,
    ⟨.fad 7 (.t 21), some 22, none⟩,
    ⟨.sto 1 (.t 22) (.t 20), none, none⟩]) <|
  .seq (.drw [⟨.mov (.t 0), some 23, none⟩,
    ⟨.mov (.t 0), some 24, none⟩,
    ⟨.nilCheck (.t 24), some 25, none⟩,
    ⟨.fad 6 (.t 25), some 26, none⟩,
    ⟨.ld1 (.t 26), some 27, none⟩,
    ⟨.mov (.t 1), some 28, none⟩,
    ⟨.mov (.t 0), some 29, none⟩,
    ⟨.nilCheck (.t 29), some 30, none⟩,
    ⟨.fad 2 (.t 30), some 31, none⟩,
    ⟨.ld1 (.t 31), some 32, none⟩,
    ⟨.mov (.t 0), some 33, none⟩,
    ⟨.nilCheck (.t 33), some 34, none⟩,
    ⟨.fad 2 (.t 34), some 35, none⟩,
    ⟨.ld1 (.t 35), some 36, none⟩,
    ⟨.bin .add (.t 36) (.v (.int .i64 1)), some 37, none⟩,
    ⟨.bld [(.int .i64 0), (.int .i64 0), (.int .i64 0), (.int .i64 0)] [(0, 1, (.t 28)), (1, 1, (.v (.int .i64 (-1)))), (2, 1, (.t 32)), (3, 1, (.t 37))], some 38, none⟩,
    ⟨.bSl (I.t 197) 4 1 [(.int .i64 0), (.int .i64 0), (.int .i64 0), (.int .i64 0)] [(0, (.t 38))], some 39, none⟩,
    ⟨.app (I.t 197) 4 (.t 27) (.t 39), some 40, none⟩,
    ⟨.nilCheck (.t 23), some 41, none⟩,
    ⟨.fad 6 (.t 41), some 42, none⟩,
    ⟨.sto 1 (.t 42) (.t 40), none, none⟩]) <|
  .seq (.reg [⟨.mov (.t 0), some 43, none⟩,
    ⟨.nilCheck (.t 43), some 44, none⟩,
    ⟨.fad 2 (.t 44), some 45, none⟩,
    ⟨.ld1 (.t 45), some 46, none⟩,
    ⟨.bin .add (.t 46) (.v (.int .i64 1)), some 47, none⟩,
    ⟨.nilCheck (.t 43), some 48, none⟩,
    ⟨.fad 2 (.t 48), some 49, none⟩,
    ⟨.sto 1 (.t 49) (.t 47), none, none⟩]) <|
  .seq (.reg [⟨.mov (.v (.bool true)), some 4, none⟩]) <|
  .ret
-- 404 nt 50 res [.tmp 4] params [*stack.Stack, int]
/-- (*dovetail/stack.Stack).ready -/
def c406 (I : Ids) : IC :=
  .seq (.reg [⟨.mov (.v (.bool false)), some 4, none⟩]) <|
  .block 0 <|
   .loop <|
    .block 1 <|
     .seq (.reg [⟨.mov (.t 0), some 10, none⟩,
       ⟨.call (I.f 546) [(.t 10), (.v (.int .i64 0))], some 11, none⟩,
       ⟨.mov (.t 11), some 9, none⟩,
       ⟨.ext (.t 9) 0, some 12, none⟩,
       ⟨.ext (.t 9) 1, some 13, none⟩,
       ⟨.mov (.t 12), some 5, none⟩,
       ⟨.mov (.t 13), some 6, none⟩]) <|
     .seq (.seq (.reg [⟨.mov (.t 6), some 14, none⟩,
        ⟨.un .not (.t 14), some 15, none⟩]) <|
      .cond (.t 15) (.seq (.reg [⟨.mov (.v (.bool true)), some 4, none⟩]) <|
       .ret)
       (.skip)) <|
     .seq (.reg [⟨.mov (.t 0), some 16, none⟩,
       ⟨.nilCheck (.t 16), some 17, none⟩,
       ⟨.fad 0 (.t 17), some 18, none⟩,
       ⟨.ld1 (.t 18), some 19, none⟩,
       ⟨.mov (.t 5), some 20, none⟩,
       ⟨.mov (.t 1), some 21, none⟩,
       ⟨.call (I.f 104) [(.t 19), (.t 20), (.t 21)], some 22, none⟩]) <|
     .block 2 <|
      .seq (.block 5 <|
        .seq (.block 4 <|
          .seq (.block 3 <|
            .seq (.seq (.seq (.reg [⟨.eqT 1 false (.t 22) (.v (.int .i64 0)), some 24, none⟩,
                ⟨.mov (.t 24), some 23, none⟩]) <|
              .cond (.t 23) (.exit 3)
               (.skip)) <|
             .seq (.reg [⟨.eqT 1 false (.t 22) (.v (.int .i64 3)), some 26, none⟩,
               ⟨.mov (.t 26), some 25, none⟩]) <|
             .cond (.t 25) (.exit 4)
              (.skip)) <|
            .exit 5) <|
          .seq (.seq (.reg [⟨.mov (.t 0), some 27, none⟩,
             ⟨.mov (.t 5), some 28, none⟩,
             ⟨.mov (.t 0), some 29, none⟩,
             ⟨.nilCheck (.t 29), some 30, none⟩,
             ⟨.fad 0 (.t 30), some 31, none⟩,
             ⟨.ld1 (.t 31), some 32, none⟩,
             ⟨.call (I.f 103) [(.t 32)], some 33, none⟩,
             ⟨.eqT 1 true (.t 28) (.t 33), some 34, none⟩,
             ⟨.mov (.t 34), some 35, none⟩,
             ⟨.mov (.t 1), some 36, some (35, false)⟩,
             ⟨.mov (.t 0), some 37, some (35, false)⟩,
             ⟨.nilCheck (.t 37), some 38, some (35, false)⟩,
             ⟨.fad 0 (.t 38), some 39, some (35, false)⟩,
             ⟨.ld1 (.t 39), some 40, some (35, false)⟩,
             ⟨.call (I.f 103) [(.t 40)], some 41, some (35, false)⟩,
             ⟨.eqT 1 true (.t 36) (.t 41), some 42, some (35, false)⟩,
             ⟨.pick (.t 35) (.v (.bool true)) (.t 42), some 43, none⟩,
             ⟨.nilCheck (.t 27), some 44, none⟩,
             ⟨.fad 5 (.t 44), some 45, none⟩,
             ⟨.sto 1 (.t 45) (.t 43), none, none⟩]) <|
           .seq (.reg [⟨.mov (.t 0), some 46, none⟩,
             ⟨.nilCheck (.t 46), some 47, none⟩,
             ⟨.fad 5 (.t 47), some 48, none⟩,
             ⟨.ld1 (.t 48), some 49, none⟩,
             ⟨.un .not (.t 49), some 50, none⟩,
             ⟨.mov (.t 50), some 4, none⟩]) <|
           .ret) <|
          .exit 2) <|
        .seq (.reg [⟨.mov (.t 0), some 52, none⟩,
          ⟨.call (I.f 547) [(.t 52)], some 53, none⟩,
          ⟨.mov (.t 53), some 51, none⟩,
          ⟨.ext (.t 51) 0, some 54, none⟩,
          ⟨.ext (.t 51) 1, some 55, none⟩,
          ⟨.mov (.t 54), some 7, none⟩,
          ⟨.mov (.t 55), some 8, none⟩]) <|
        .seq (.reg [⟨.mov (.t 8), some 56, none⟩]) <|
        .cond (.t 56) (.seq (.reg [⟨.mov (.t 0), some 57, none⟩,
           ⟨.mov (.t 0), some 58, none⟩,
           ⟨.mov (.t 7), some 59, none⟩,
           ⟨.call (I.f 548) [(.t 58), (.t 59)], some 60, none⟩,
           ⟨.un .not (.t 60), some 61, none⟩,
           ⟨.nilCheck (.t 57), some 62, none⟩,
           ⟨.fad 5 (.t 62), some 63, none⟩,
           ⟨.sto 1 (.t 63) (.t 61), none, none⟩]) <|
         .seq (.seq (.reg [⟨.mov (.t 0), some 64, none⟩,
            ⟨.nilCheck (.t 64), some 65, none⟩,
            ⟨.fad 5 (.t 65), some 66, none⟩,
            ⟨.ld1 (.t 66), some 67, none⟩]) <|
          .cond (.t 67) (.seq (.reg [⟨.mov (.v (.bool false)), some 4, none⟩]) <|
           .ret)
           (.skip)) <|
         .exit 1)
         (.skip)) <|
      .seq (.seq (.reg [⟨.mov (.v (.bool true)), some 4, none⟩]) <|
       .ret) <|
      .exit 2
-- 406 nt 68 res [.tmp 4] params [*stack.Stack, int]
/-- dovetail/parse.run$1 -/
def c528 (I : Ids) : IC :=
  .seq (.reg [⟨.ld1 (.t 0), some 3, none⟩,
    ⟨.call (I.f 177) [(.t 3)], some 4, none⟩,
    ⟨.fad 1 (.t 1), some 5, none⟩,
    ⟨.sto 1 (.t 5) (.t 4), none, none⟩]) <|
  .seq (.reg [⟨.ld1 (.t 2), some 6, none⟩,
    ⟨.isN 1 true (.t 6), some 7, none⟩]) <|
  .cond (.t 7) (.reg [⟨.fad 0 (.t 1), some 8, none⟩,
    ⟨.ld1 (.t 8), some 9, none⟩,
    ⟨.ld1 (.t 2), some 10, none⟩,
    ⟨.bld [(.int .i64 0), .nilIface] [(0, 1, (.t 9)), (1, 1, (.t 10))], some 11, none⟩,
    ⟨.box (I.t 382) (.t 11), some 12, none⟩,
    ⟨.ifc (I.t 379) (.t 12), some 13, none⟩,
    ⟨.sto 1 (.t 2) (.t 13), none, none⟩])
   (.skip)
-- 528 nt 14 res [] params []
/-- (*dovetail/stack.Stack).term -/
def c546 (I : Ids) : IC :=
  .seq (.reg [⟨.mov (.v (.int .i64 0)), some 4, none⟩,
    ⟨.mov (.v (.bool false)), some 5, none⟩]) <|
  .seq (.reg [⟨.mov (.t 0), some 7, none⟩,
    ⟨.nilCheck (.t 7), some 8, none⟩,
    ⟨.fad 7 (.t 8), some 9, none⟩,
    ⟨.ld1 (.t 9), some 10, none⟩,
    ⟨.lenL (.t 10), some 11, none⟩,
    ⟨.bin .sub (.t 11) (.v (.int .i64 1)), some 12, none⟩,
    ⟨.mov (.t 1), some 13, none⟩,
    ⟨.bin .sub (.t 12) (.t 13), some 14, none⟩,
    ⟨.mov (.t 14), some 6, none⟩]) <|
  .seq (.seq (.reg [⟨.mov (.t 6), some 15, none⟩,
     ⟨.bin .geq (.t 15) (.v (.int .i64 0)), some 16, none⟩]) <|
   .cond (.t 16) (.seq (.drw [⟨.mov (.t 0), some 17, none⟩,
      ⟨.nilCheck (.t 17), some 18, none⟩,
      ⟨.fad 6 (.t 18), some 19, none⟩,
      ⟨.ld1 (.t 19), some 20, none⟩,
      ⟨.mov (.t 0), some 21, none⟩,
      ⟨.nilCheck (.t 21), some 22, none⟩,
      ⟨.fad 7 (.t 22), some 23, none⟩,
      ⟨.ld1 (.t 23), some 24, none⟩,
      ⟨.mov (.t 6), some 25, none⟩,
      ⟨.ixL 1 (.t 24) (.t 25), some 26, none⟩,
      ⟨.ld1 (.t 26), some 27, none⟩,
      ⟨.ixL 4 (.t 20) (.t 27), some 28, none⟩,
      ⟨.fad 0 (.t 28), some 29, none⟩,
      ⟨.ld1 (.t 29), some 30, none⟩,
      ⟨.mov (.t 30), some 4, none⟩,
      ⟨.mov (.v (.bool true)), some 5, none⟩]) <|
    .ret)
    (.skip)) <|
  .seq (.drw [⟨.mov (.t 0), some 31, none⟩,
    ⟨.nilCheck (.t 31), some 32, none⟩,
    ⟨.fad 0 (.t 32), some 33, none⟩,
    ⟨.ld1 (.t 33), some 34, none⟩,
    ⟨.call (I.f 103) [(.t 34)], some 35, none⟩,
    ⟨.mov (.t 6), some 36, none⟩,
    ⟨.eqT 1 false (.t 36) (.v (.int .i64 (-1))), some 37, none⟩,
    ⟨.mov (.t 37), some 38, none⟩,
    ⟨.mov (.t 0), some 39, some (38, true)⟩,
    ⟨.nilCheck (.t 39), some 40, some (38, true)⟩,
    ⟨.fad 3 (.t 40), some 41, some (38, true)⟩,
    ⟨.ld1 (.t 41), some 42, some (38, true)⟩,
    ⟨.pick (.t 38) (.t 42) (.v (.bool false)), some 43, none⟩,
    ⟨.mov (.t 35), some 4, none⟩,
    ⟨.mov (.t 43), some 5, none⟩]) <|
  .ret
-- 546 nt 44 res [.tmp 4, .tmp 5] params [*stack.Stack, int]
end Go.Vm
