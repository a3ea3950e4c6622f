/- The code of functions, looked up; printed. -/
import Derived.Test.YthebkalnpmkkpaaGreatDoorWpUtil
set_option linter.unusedVariables false
set_option linter.unusedSimpArgs false
namespace Go.Vm
set_option maxRecDepth 100000
-- 20 nt 134 res [.tmp 6] params [api.Grammar, int, int]
/-- dovetail/backmap.Chain -/
def c138 (I : Ids) : IC :=
  .seq (.reg [⟨.box (I.t 33) (.t 0), some 3, none⟩,
    ⟨.box (I.t 3) (.t 1), some 4, none⟩,
    ⟨.mov (.v (.slice none 0 (.ex 0))), some 6, none⟩,
    ⟨.mov (.v (.bool false)), some 7, none⟩]) <|
  .seq (.reg [⟨.fad 1 (.t 3), some 17, none⟩,
    ⟨.ld1 (.t 17), some 18, none⟩,
    ⟨.lenL (.t 18), some 19, none⟩,
    ⟨.mov (.t 19), some 8, none⟩]) <|
  .seq (.seq (.reg [⟨.ldN 4 (.t 3), some 20, none⟩,
     ⟨.call (I.f 324) [(.t 20)], some 21, none⟩,
     ⟨.isN 1 true (.t 21), some 22, none⟩,
     ⟨.mov (.t 22), some 23, none⟩,
     ⟨.ld1 (.t 4), some 24, some (23, false)⟩,
     ⟨.bin .lss (.t 24) (.v (.int .i64 0)), some 25, some (23, false)⟩,
     ⟨.pick (.t 23) (.v (.bool true)) (.t 25), some 26, none⟩,
     ⟨.mov (.t 26), some 27, none⟩,
     ⟨.ld1 (.t 4), some 28, some (27, false)⟩,
     ⟨.mov (.t 8), some 29, some (27, false)⟩,
     ⟨.bin .geq (.t 28) (.t 29), some 30, some (27, false)⟩,
     ⟨.pick (.t 27) (.v (.bool true)) (.t 30), some 31, none⟩,
     ⟨.mov (.t 31), some 32, none⟩,
     ⟨.mov (.t 2), some 33, some (32, false)⟩,
     ⟨.bin .lss (.t 33) (.v (.int .i64 0)), some 34, some (32, false)⟩,
     ⟨.pick (.t 32) (.v (.bool true)) (.t 34), some 35, none⟩,
     ⟨.mov (.t 35), some 36, none⟩,
     ⟨.mov (.t 2), some 37, some (36, false)⟩,
     ⟨.mov (.t 8), some 38, some (36, false)⟩,
     ⟨.bin .geq (.t 37) (.t 38), some 39, some (36, false)⟩,
     ⟨.pick (.t 36) (.v (.bool true)) (.t 39), some 40, none⟩]) <|
   .cond (.t 40) (.seq (.reg [⟨.mov (.v (.slice none 0 (.ex 0))), some 6, none⟩,
      ⟨.mov (.v (.bool false)), some 7, none⟩]) <|
    .ret)
    (.skip)) <|
  .seq (.reg [⟨.mov (.t 8), some 41, none⟩,
    ⟨.mkS (I.t 3) 1 8 [(.int .i64 0)] (.t 41) (.t 41), some 42, none⟩,
    ⟨.alc (newBlk [(.slice none 0 (.ex 0))] (I.t 69)), some 9, none⟩,
    ⟨.sto 1 (.t 9) (.t 42), none, none⟩]) <|
  .seq (.reg [⟨.ld1 (.t 9), some 43, none⟩,
    ⟨.mov (.t 2), some 44, none⟩,
    ⟨.ixL 1 (.t 43) (.t 44), some 45, none⟩,
    ⟨.sto 1 (.t 45) (.v (.int .i64 1)), none, none⟩]) <|
  .seq (.seq (.reg [⟨.mov (.v (.bool true)), some 10, none⟩]) <|
   .block 0 <|
    .loop <|
     .seq (.seq (.reg [⟨.mov (.t 10), some 46, none⟩]) <|
      .cond (.t 46) (.skip)
       (.exit 0)) <|
     .block 1 <|
      .seq (.reg [⟨.mov (.v (.bool false)), some 10, none⟩]) <|
      .seq (.reg [⟨.fad 3 (.t 3), some 47, none⟩,
        ⟨.ld1 (.t 47), some 48, none⟩,
        ⟨.lenL (.t 48), some 49, none⟩,
        ⟨.mov (.v (.int .i64 0)), some 50, none⟩]) <|
      .block 2 <|
       .loop <|
        .seq (.reg [⟨.bin .lss (.t 50) (.t 49), some 51, none⟩]) <|
        .seq (.cond (.t 51) (.skip)
          (.exit 2)) <|
        .seq (.block 3 <|
          .seq (.reg [⟨.ixL 2 (.t 48) (.t 50), some 52, none⟩,
            ⟨.ldN 2 (.t 52), some 53, none⟩,
            ⟨.alc (newBlk [(.int .i64 0), (.slice none 0 (.ex 0))] (I.t 101)), some 12, none⟩,
            ⟨.sto 2 (.t 12) (.t 53), none, none⟩]) <|
          .seq (.reg [⟨.ldN 2 (.t 12), some 55, none⟩,
            ⟨.call (I.f 142) [(.t 55)], some 56, none⟩,
            ⟨.mov (.t 56), some 54, none⟩,
            ⟨.ext (.t 54) 0, some 57, none⟩,
            ⟨.ext (.t 54) 1, some 58, none⟩,
            ⟨.mov (.t 57), some 13, none⟩,
            ⟨.mov (.t 58), some 14, none⟩]) <|
          .seq (.drw [⟨.mov (.t 14), some 59, none⟩,
            ⟨.mov (.t 59), some 60, none⟩,
            ⟨.ld1 (.t 9), some 61, some (60, true)⟩,
            ⟨.mov (.t 13), some 62, some (60, true)⟩,
            ⟨.ixL 1 (.t 61) (.t 62), some 63, some (60, true)⟩,
            ⟨.ld1 (.t 63), some 64, some (60, true)⟩,
            ⟨.bin .gtr (.t 64) (.v (.int .i64 0)), some 65, some (60, true)⟩,
            ⟨.pick (.t 60) (.t 65) (.v (.bool false)), some 66, none⟩,
            ⟨.mov (.t 66), some 67, none⟩,
            ⟨.ld1 (.t 9), some 68, some (67, true)⟩,
            ⟨.fad 0 (.t 12), some 69, some (67, true)⟩,
            ⟨.ld1 (.t 69), some 70, some (67, true)⟩,
            ⟨.ixL 1 (.t 68) (.t 70), some 71, some (67, true)⟩,
            ⟨.ld1 (.t 71), some 72, some (67, true)⟩,
            ⟨.eqT 1 false (.t 72) (.v (.int .i64 0)), some 73, some (67, true)⟩,
            ⟨.mov (.t 73), some 74, some (67, true)⟩,
            ⟨.ld1 (.t 9), some 75, some (74, false)⟩,
            ⟨.fad 0 (.t 12), some 76, some (74, false)⟩,
            ⟨.ld1 (.t 76), some 77, some (74, false)⟩,
            ⟨.ixL 1 (.t 75) (.t 77), some 78, some (74, false)⟩,
            ⟨.ld1 (.t 78), some 79, some (74, false)⟩,
            ⟨.ld1 (.t 9), some 80, some (74, false)⟩,
            ⟨.mov (.t 13), some 81, some (74, false)⟩,
            ⟨.ixL 1 (.t 80) (.t 81), some 82, some (74, false)⟩,
            ⟨.ld1 (.t 82), some 83, some (74, false)⟩,
            ⟨.bin .add (.t 83) (.v (.int .i64 1)), some 84, some (74, false)⟩,
            ⟨.bin .gtr (.t 79) (.t 84), some 85, some (74, false)⟩,
            ⟨.pick (.t 74) (.v (.bool true)) (.t 85), some 86, some (67, true)⟩,
            ⟨.pick (.t 67) (.t 86) (.v (.bool false)), some 87, none⟩]) <|
          .cond (.t 87) (.seq (.drw [⟨.ld1 (.t 9), some 88, none⟩,
             ⟨.fad 0 (.t 12), some 89, none⟩,
             ⟨.ld1 (.t 89), some 90, none⟩,
             ⟨.ld1 (.t 9), some 91, none⟩,
             ⟨.mov (.t 13), some 92, none⟩,
             ⟨.ixL 1 (.t 91) (.t 92), some 93, none⟩,
             ⟨.ld1 (.t 93), some 94, none⟩,
             ⟨.bin .add (.t 94) (.v (.int .i64 1)), some 95, none⟩,
             ⟨.ixL 1 (.t 88) (.t 90), some 96, none⟩,
             ⟨.sto 1 (.t 96) (.t 95), none, none⟩]) <|
           .reg [⟨.mov (.v (.bool true)), some 10, none⟩])
           (.skip)) <|
        .reg [⟨.bin .add (.t 50) (.v (.int .i64 1)), some 97, none⟩,
         ⟨.mov (.t 97), some 50, none⟩]) <|
  .seq (.seq (.reg [⟨.ld1 (.t 9), some 98, none⟩,
     ⟨.ld1 (.t 4), some 99, none⟩,
     ⟨.ixL 1 (.t 98) (.t 99), some 100, none⟩,
     ⟨.ld1 (.t 100), some 101, none⟩,
     ⟨.eqT 1 false (.t 101) (.v (.int .i64 0)), some 102, none⟩]) <|
   .cond (.t 102) (.seq (.reg [⟨.mov (.v (.slice none 0 (.ex 0))), some 6, none⟩,
      ⟨.mov (.v (.bool false)), some 7, none⟩]) <|
    .ret)
    (.skip)) <|
  .seq (.reg [⟨.mov (.v (.slice none 0 (.ex 0))), some 15, none⟩]) <|
  .seq (.block 4 <|
    .loop <|
     .seq (.seq (.reg [⟨.ld1 (.t 4), some 103, none⟩,
        ⟨.mov (.t 2), some 104, none⟩,
        ⟨.eqT 1 true (.t 103) (.t 104), some 105, none⟩]) <|
      .cond (.t 105) (.skip)
       (.exit 4)) <|
     .block 5 <|
      .seq (.reg [⟨.fad 3 (.t 3), some 106, none⟩,
        ⟨.ld1 (.t 106), some 107, none⟩,
        ⟨.mkF (I.f 373) [] [(.t 4), (.t 9)], some 108, none⟩,
        ⟨.call (I.f 372) [(.t 107), (.t 108)], some 109, none⟩,
        ⟨.mov (.t 109), some 16, none⟩]) <|
      .seq (.reg [⟨.mov (.t 15), some 110, none⟩,
        ⟨.mov (.t 16), some 111, none⟩,
        ⟨.bSl (I.t 3) 1 1 [(.int .i64 0)] [(0, (.t 111))], some 112, none⟩,
        ⟨.app (I.t 3) 1 (.t 110) (.t 112), some 113, none⟩,
        ⟨.mov (.t 113), some 15, none⟩]) <|
      .reg [⟨.fad 3 (.t 3), some 115, none⟩,
       ⟨.ld1 (.t 115), some 116, none⟩,
       ⟨.mov (.t 16), some 117, none⟩,
       ⟨.ixL 2 (.t 116) (.t 117), some 118, none⟩,
       ⟨.ldN 2 (.t 118), some 119, none⟩,
       ⟨.call (I.f 142) [(.t 119)], some 120, none⟩,
       ⟨.mov (.t 120), some 114, none⟩,
       ⟨.ext (.t 114) 0, some 121, none⟩,
       ⟨.ext (.t 114) 1, some 122, none⟩,
       ⟨.sto 1 (.t 4) (.t 121), none, none⟩]) <|
  .seq (.reg [⟨.mov (.t 15), some 123, none⟩,
    ⟨.call (I.f 334) [(.t 123)], some 124, none⟩,
    ⟨.mov (.t 124), some 6, none⟩,
    ⟨.mov (.v (.bool true)), some 7, none⟩]) <|
  .ret
-- 138 nt 125 res [.tmp 6, .tmp 7] params [api.Grammar, int, int]
-- 141 nt 68 res [.tmp 2] params [api.Grammar]
/-- dovetail/gram.Renaming -/
def c142 (I : Ids) : IC :=
  .seq (.reg [⟨.box (I.t 101) (.t 0), some 1, none⟩,
    ⟨.mov (.v (.int .i64 0)), some 2, none⟩,
    ⟨.mov (.v (.bool false)), some 3, none⟩]) <|
  .seq (.seq (.reg [⟨.fad 1 (.t 1), some 4, none⟩,
     ⟨.ld1 (.t 4), some 5, none⟩,
     ⟨.lenL (.t 5), some 6, none⟩,
     ⟨.eqT 1 true (.t 6) (.v (.int .i64 1)), some 7, none⟩,
     ⟨.mov (.t 7), some 8, none⟩,
     ⟨.fad 1 (.t 1), some 9, some (8, false)⟩,
     ⟨.ld1 (.t 9), some 10, some (8, false)⟩,
     ⟨.ixL 1 (.t 10) (.v (.int .i64 0)), some 11, some (8, false)⟩,
     ⟨.ld1 (.t 11), some 12, some (8, false)⟩,
     ⟨.bin .geq (.t 12) (.v (.int .i64 0)), some 13, some (8, false)⟩,
     ⟨.pick (.t 8) (.v (.bool true)) (.t 13), some 14, none⟩]) <|
   .cond (.t 14) (.seq (.reg [⟨.mov (.v (.int .i64 0)), some 2, none⟩,
      ⟨.mov (.v (.bool false)), some 3, none⟩]) <|
    .ret)
    (.skip)) <|
  .seq (.reg [⟨.fad 1 (.t 1), some 15, none⟩,
    ⟨.ld1 (.t 15), some 16, none⟩,
    ⟨.ixL 1 (.t 16) (.v (.int .i64 0)), some 17, none⟩,
    ⟨.ld1 (.t 17), some 18, none⟩,
    ⟨.bin .sub (.v (.int .i64 (-1))) (.t 18), some 19, none⟩,
    ⟨.mov (.t 19), some 2, none⟩,
    ⟨.mov (.v (.bool true)), some 3, none⟩]) <|
  .ret
-- 142 nt 20 res [.tmp 2, .tmp 3] params [api.Rule]
/-- dovetail/gram.Check -/
def c324 (I : Ids) : IC :=
  .seq (.reg [⟨.box (I.t 33) (.t 0), some 1, none⟩,
    ⟨.mov (.v .nilIface), some 2, none⟩]) <|
  .seq (.seq (.reg [⟨.fad 0 (.t 1), some 6, none⟩,
     ⟨.ld1 (.t 6), some 7, none⟩,
     ⟨.lenL (.t 7), some 8, none⟩,
     ⟨.bin .gtr (.t 8) (.v (.int .i64 60)), some 9, none⟩,
     ⟨.mov (.t 9), some 10, none⟩,
     ⟨.fad 1 (.t 1), some 11, some (10, false)⟩,
     ⟨.ld1 (.t 11), some 12, some (10, false)⟩,
     ⟨.lenL (.t 12), some 13, some (10, false)⟩,
     ⟨.fad 0 (.t 1), some 14, some (10, false)⟩,
     ⟨.ld1 (.t 14), some 15, some (10, false)⟩,
     ⟨.lenL (.t 15), some 16, some (10, false)⟩,
     ⟨.bin .sub (.v (.int .i64 60)) (.t 16), some 17, some (10, false)⟩,
     ⟨.bin .gtr (.t 13) (.t 17), some 18, some (10, false)⟩,
     ⟨.pick (.t 10) (.v (.bool true)) (.t 18), some 19, none⟩,
     ⟨.mov (.t 19), some 20, none⟩,
     ⟨.fad 3 (.t 1), some 21, some (20, false)⟩,
     ⟨.ld1 (.t 21), some 22, some (20, false)⟩,
     ⟨.lenL (.t 22), some 23, some (20, false)⟩,
     ⟨.bin .gtr (.t 23) (.v (.int .i64 120)), some 24, some (20, false)⟩,
     ⟨.pick (.t 20) (.v (.bool true)) (.t 24), some 25, none⟩]) <|
   .cond (.t 25) (.seq (.reg [⟨.ld1 (.v (.ptr (some (I.g 3, 0)))), some 26, none⟩,
      ⟨.mov (.t 26), some 2, none⟩]) <|
    .ret)
    (.skip)) <|
  .seq (.seq (.reg [⟨.fad 0 (.t 1), some 27, none⟩,
     ⟨.ld1 (.t 27), some 28, none⟩,
     ⟨.call (I.f 502) [(.t 28)], some 29, none⟩,
     ⟨.un .not (.t 29), some 30, none⟩,
     ⟨.mov (.t 30), some 31, none⟩,
     ⟨.fad 1 (.t 1), some 32, some (31, false)⟩,
     ⟨.ld1 (.t 32), some 33, some (31, false)⟩,
     ⟨.call (I.f 502) [(.t 33)], some 34, some (31, false)⟩,
     ⟨.un .not (.t 34), some 35, some (31, false)⟩,
     ⟨.pick (.t 31) (.v (.bool true)) (.t 35), some 36, none⟩]) <|
   .cond (.t 36) (.seq (.reg [⟨.ld1 (.v (.ptr (some (I.g 10, 0)))), some 37, none⟩,
      ⟨.mov (.t 37), some 2, none⟩]) <|
    .ret)
    (.skip)) <|
  .seq (.seq (.reg [⟨.fad 2 (.t 1), some 38, none⟩,
     ⟨.ld1 (.t 38), some 39, none⟩,
     ⟨.bin .lss (.t 39) (.v (.int .i64 0)), some 40, none⟩,
     ⟨.mov (.t 40), some 41, none⟩,
     ⟨.fad 2 (.t 1), some 42, some (41, false)⟩,
     ⟨.ld1 (.t 42), some 43, some (41, false)⟩,
     ⟨.fad 1 (.t 1), some 44, some (41, false)⟩,
     ⟨.ld1 (.t 44), some 45, some (41, false)⟩,
     ⟨.lenL (.t 45), some 46, some (41, false)⟩,
     ⟨.bin .geq (.t 43) (.t 46), some 47, some (41, false)⟩,
     ⟨.pick (.t 41) (.v (.bool true)) (.t 47), some 48, none⟩]) <|
   .cond (.t 48) (.seq (.reg [⟨.ld1 (.v (.ptr (some (I.g 1, 0)))), some 49, none⟩,
      ⟨.mov (.t 49), some 2, none⟩]) <|
    .ret)
    (.skip)) <|
  .seq (.seq (.reg [⟨.fad 3 (.t 1), some 50, none⟩,
     ⟨.ld1 (.t 50), some 51, none⟩,
     ⟨.lenL (.t 51), some 52, none⟩,
     ⟨.mov (.v (.int .i64 0)), some 53, none⟩]) <|
   .block 0 <|
    .loop <|
     .seq (.reg [⟨.bin .lss (.t 53) (.t 52), some 54, none⟩]) <|
     .seq (.cond (.t 54) (.skip)
       (.exit 0)) <|
     .seq (.block 1 <|
       .seq (.reg [⟨.mov (.t 53), some 55, none⟩,
         ⟨.ixL 2 (.t 51) (.t 53), some 56, none⟩,
         ⟨.ldN 2 (.t 56), some 57, none⟩,
         ⟨.alc (newBlk [(.int .i64 0), (.slice none 0 (.ex 0))] (I.t 101)), some 4, none⟩,
         ⟨.mov (.t 55), some 3, none⟩,
         ⟨.sto 2 (.t 4) (.t 57), none, none⟩]) <|
       .seq (.reg [⟨.ldN 4 (.t 1), some 58, none⟩,
         ⟨.ldN 2 (.t 4), some 59, none⟩,
         ⟨.call (I.f 503) [(.t 58), (.t 59)], some 60, none⟩,
         ⟨.mov (.t 60), some 5, none⟩]) <|
       .seq (.reg [⟨.mov (.t 5), some 61, none⟩,
         ⟨.isN 1 true (.t 61), some 62, none⟩]) <|
       .cond (.t 62) (.seq (.reg [⟨.mov (.t 3), some 63, none⟩,
          ⟨.mov (.t 5), some 64, none⟩,
          ⟨.bld [(.int .i64 0), .nilIface] [(0, 1, (.t 63)), (1, 1, (.t 64))], some 65, none⟩,
          ⟨.box (I.t 386) (.t 65), some 66, none⟩,
          ⟨.ifc (I.t 383) (.t 66), some 67, none⟩,
          ⟨.mov (.t 67), some 2, none⟩]) <|
        .ret)
        (.skip)) <|
     .reg [⟨.bin .add (.t 53) (.v (.int .i64 1)), some 68, none⟩,
      ⟨.mov (.t 68), some 53, none⟩]) <|
  .seq (.reg [⟨.mov (.v .nilIface), some 2, none⟩]) <|
  .ret
-- 324 nt 69 res [.tmp 2] params [api.Grammar]
/-- slices.Clip[[]int,int] -/
def c334 (I : Ids) : IC :=
  .seq (.reg [⟨.mov (.v (.slice none 0 (.ex 0))), some 2, none⟩]) <|
  .seq (.reg [⟨.mov (.t 0), some 3, none⟩,
    ⟨.mov (.t 0), some 4, none⟩,
    ⟨.lenL (.t 4), some 5, none⟩,
    ⟨.mov (.t 0), some 6, none⟩,
    ⟨.lenL (.t 6), some 7, none⟩,
    ⟨.slL (I.t 3) 1 (.t 3) none (some (.t 5)) (some (.t 7)), some 8, none⟩,
    ⟨.mov (.t 8), some 2, none⟩]) <|
  .ret
-- 334 nt 9 res [.tmp 2] params [[]int]
/-- slices.ContainsFunc[[]int,int] -/
def c363 (I : Ids) : IC :=
  .seq (.reg [⟨.mov (.v (.bool false)), some 4, none⟩]) <|
  .seq (.reg [⟨.mov (.t 0), some 5, none⟩,
    ⟨.mov (.t 1), some 6, none⟩,
    ⟨.call (I.f 527) [(.t 5), (.t 6)], some 7, none⟩,
    ⟨.bin .geq (.t 7) (.v (.int .i64 0)), some 8, none⟩,
    ⟨.mov (.t 8), some 4, none⟩]) <|
  .ret
-- 363 nt 9 res [.tmp 4] params [[]int, func(int) bool]
/-- slices.IndexFunc[[]dovetail/api.Rule,dovetail/api.Rule] -/
def c372 (I : Ids) : IC :=
  .seq (.reg [⟨.mov (.v (.int .i64 0)), some 4, none⟩]) <|
  .seq (.seq (.reg [⟨.mov (.t 0), some 6, none⟩,
     ⟨.lenL (.t 6), some 7, none⟩,
     ⟨.mov (.v (.int .i64 0)), some 8, none⟩]) <|
   .block 0 <|
    .loop <|
     .seq (.reg [⟨.bin .lss (.t 8) (.t 7), some 9, none⟩]) <|
     .seq (.cond (.t 9) (.skip)
       (.exit 0)) <|
     .seq (.block 1 <|
       .seq (.reg [⟨.mov (.t 8), some 10, none⟩,
         ⟨.mov (.t 10), some 5, none⟩]) <|
       .seq (.reg [⟨.mov (.t 1), some 11, none⟩,
         ⟨.mov (.t 0), some 12, none⟩,
         ⟨.mov (.t 5), some 13, none⟩,
         ⟨.ixL 2 (.t 12) (.t 13), some 14, none⟩,
         ⟨.ldN 2 (.t 14), some 15, none⟩,
         ⟨.callv (.t 11) [(.t 15)], some 16, none⟩]) <|
       .cond (.t 16) (.seq (.reg [⟨.mov (.t 5), some 17, none⟩,
          ⟨.mov (.t 17), some 4, none⟩]) <|
        .ret)
        (.skip)) <|
     .reg [⟨.bin .add (.t 8) (.v (.int .i64 1)), some 18, none⟩,
      ⟨.mov (.t 18), some 8, none⟩]) <|
  .seq (.reg [⟨.mov (.v (.int .i64 (-1))), some 4, none⟩]) <|
  .ret
-- 372 nt 19 res [.tmp 4] params [[]api.Rule, func(api.Rule) bool]
/-- dovetail/backmap.Chain$1 -/
def c373 (I : Ids) : IC :=
  .seq (.reg [⟨.box (I.t 101) (.t 0), some 3, none⟩,
    ⟨.mov (.v (.bool false)), some 4, none⟩]) <|
  .seq (.reg [⟨.ldN 2 (.t 3), some 8, none⟩,
    ⟨.call (I.f 142) [(.t 8)], some 9, none⟩,
    ⟨.mov (.t 9), some 7, none⟩,
    ⟨.ext (.t 7) 0, some 10, none⟩,
    ⟨.ext (.t 7) 1, some 11, none⟩,
    ⟨.mov (.t 10), some 5, none⟩,
    ⟨.mov (.t 11), some 6, none⟩]) <|
  .seq (.drw [⟨.mov (.t 6), some 12, none⟩,
    ⟨.mov (.t 12), some 13, none⟩,
    ⟨.fad 0 (.t 3), some 14, some (13, true)⟩,
    ⟨.ld1 (.t 14), some 15, some (13, true)⟩,
    ⟨.ld1 (.t 1), some 16, some (13, true)⟩,
    ⟨.eqT 1 false (.t 15) (.t 16), some 17, some (13, true)⟩,
    ⟨.pick (.t 13) (.t 17) (.v (.bool false)), some 18, none⟩,
    ⟨.mov (.t 18), some 19, none⟩,
    ⟨.ld1 (.t 2), some 20, some (19, true)⟩,
    ⟨.mov (.t 5), some 21, some (19, true)⟩,
    ⟨.ixL 1 (.t 20) (.t 21), some 22, some (19, true)⟩,
    ⟨.ld1 (.t 22), some 23, some (19, true)⟩,
    ⟨.ld1 (.t 2), some 24, some (19, true)⟩,
    ⟨.ld1 (.t 1), some 25, some (19, true)⟩,
    ⟨.ixL 1 (.t 24) (.t 25), some 26, some (19, true)⟩,
    ⟨.ld1 (.t 26), some 27, some (19, true)⟩,
    ⟨.bin .sub (.t 27) (.v (.int .i64 1)), some 28, some (19, true)⟩,
    ⟨.eqT 1 false (.t 23) (.t 28), some 29, some (19, true)⟩,
    ⟨.pick (.t 19) (.t 29) (.v (.bool false)), some 30, none⟩,
    ⟨.mov (.t 30), some 4, none⟩]) <|
  .ret
-- 373 nt 31 res [.tmp 4] params [api.Rule]
/-- dovetail/gram.names -/
def c502 (I : Ids) : IC :=
  .seq (.reg [⟨.mov (.v (.bool false)), some 2, none⟩]) <|
  .seq (.seq (.reg [⟨.mov (.t 0), some 4, none⟩,
     ⟨.lenL (.t 4), some 5, none⟩,
     ⟨.mov (.v (.int .i64 0)), some 6, none⟩]) <|
   .block 0 <|
    .loop <|
     .seq (.reg [⟨.bin .lss (.t 6) (.t 5), some 7, none⟩]) <|
     .seq (.cond (.t 7) (.skip)
       (.exit 0)) <|
     .seq (.block 1 <|
       .seq (.reg [⟨.mov (.t 6), some 8, none⟩,
         ⟨.mov (.t 8), some 3, none⟩]) <|
       .seq (.reg [⟨.mov (.t 0), some 9, none⟩,
         ⟨.mov (.t 3), some 10, none⟩,
         ⟨.call (I.f 649) [(.t 9), (.t 10)], some 11, none⟩]) <|
       .cond (.t 11) (.seq (.reg [⟨.mov (.v (.bool false)), some 2, none⟩]) <|
        .ret)
        (.skip)) <|
     .reg [⟨.bin .add (.t 6) (.v (.int .i64 1)), some 12, none⟩,
      ⟨.mov (.t 12), some 6, none⟩]) <|
  .seq (.reg [⟨.mov (.v (.bool true)), some 2, none⟩]) <|
  .ret
-- 502 nt 13 res [.tmp 2] params [[]string]
/-- dovetail/gram.rule -/
def c503 (I : Ids) : IC :=
  .seq (.reg [⟨.box (I.t 33) (.t 0), some 2, none⟩,
    ⟨.box (I.t 101) (.t 1), some 3, none⟩,
    ⟨.mov (.v .nilIface), some 4, none⟩]) <|
  .seq (.seq (.reg [⟨.fad 1 (.t 3), some 5, none⟩,
     ⟨.ld1 (.t 5), some 6, none⟩,
     ⟨.lenL (.t 6), some 7, none⟩,
     ⟨.bin .gtr (.t 7) (.v (.int .i64 32)), some 8, none⟩]) <|
   .cond (.t 8) (.seq (.reg [⟨.ld1 (.v (.ptr (some (I.g 3, 0)))), some 9, none⟩,
      ⟨.mov (.t 9), some 4, none⟩]) <|
    .ret)
    (.skip)) <|
  .seq (.seq (.reg [⟨.fad 0 (.t 3), some 10, none⟩,
     ⟨.ld1 (.t 10), some 11, none⟩,
     ⟨.bin .lss (.t 11) (.v (.int .i64 0)), some 12, none⟩,
     ⟨.mov (.t 12), some 13, none⟩,
     ⟨.fad 0 (.t 3), some 14, some (13, false)⟩,
     ⟨.ld1 (.t 14), some 15, some (13, false)⟩,
     ⟨.fad 1 (.t 2), some 16, some (13, false)⟩,
     ⟨.ld1 (.t 16), some 17, some (13, false)⟩,
     ⟨.lenL (.t 17), some 18, some (13, false)⟩,
     ⟨.bin .geq (.t 15) (.t 18), some 19, some (13, false)⟩,
     ⟨.pick (.t 13) (.v (.bool true)) (.t 19), some 20, none⟩,
     ⟨.mov (.t 20), some 21, none⟩,
     ⟨.fad 1 (.t 3), some 22, some (21, false)⟩,
     ⟨.ld1 (.t 22), some 23, some (21, false)⟩,
     ⟨.mkF (I.f 650) [] [(.t 2)], some 24, some (21, false)⟩,
     ⟨.call (I.f 363) [(.t 23), (.t 24)], some 25, some (21, false)⟩,
     ⟨.pick (.t 21) (.v (.bool true)) (.t 25), some 26, none⟩]) <|
   .cond (.t 26) (.seq (.reg [⟨.ld1 (.v (.ptr (some (I.g 1, 0)))), some 27, none⟩,
      ⟨.mov (.t 27), some 4, none⟩]) <|
    .ret)
    (.skip)) <|
  .seq (.reg [⟨.mov (.v .nilIface), some 4, none⟩]) <|
  .ret
-- 503 nt 28 res [.tmp 4] params [api.Grammar, api.Rule]
/-- slices.IndexFunc[[]int,int] -/
def c527 (I : Ids) : IC :=
  .seq (.reg [⟨.mov (.v (.int .i64 0)), some 4, none⟩]) <|
  .seq (.seq (.reg [⟨.mov (.t 0), some 6, none⟩,
     ⟨.lenL (.t 6), some 7, none⟩,
     ⟨.mov (.v (.int .i64 0)), some 8, none⟩]) <|
   .block 0 <|
    .loop <|
     .seq (.reg [⟨.bin .lss (.t 8) (.t 7), some 9, none⟩]) <|
     .seq (.cond (.t 9) (.skip)
       (.exit 0)) <|
     .seq (.block 1 <|
       .seq (.reg [⟨.mov (.t 8), some 10, none⟩,
         ⟨.mov (.t 10), some 5, none⟩]) <|
       .seq (.reg [⟨.mov (.t 1), some 11, none⟩,
         ⟨.mov (.t 0), some 12, none⟩,
         ⟨.mov (.t 5), some 13, none⟩,
         ⟨.ixL 1 (.t 12) (.t 13), some 14, none⟩,
         ⟨.ld1 (.t 14), some 15, none⟩,
         ⟨.callv (.t 11) [(.t 15)], some 16, none⟩]) <|
       .cond (.t 16) (.seq (.reg [⟨.mov (.t 5), some 17, none⟩,
          ⟨.mov (.t 17), some 4, none⟩]) <|
        .ret)
        (.skip)) <|
     .reg [⟨.bin .add (.t 8) (.v (.int .i64 1)), some 18, none⟩,
      ⟨.mov (.t 18), some 8, none⟩]) <|
  .seq (.reg [⟨.mov (.v (.int .i64 (-1))), some 4, none⟩]) <|
  .ret
-- 527 nt 19 res [.tmp 4] params [[]int, func(int) bool]
/-- dovetail/gram.nameFault -/
def c649 (I : Ids) : IC :=
  .seq (.reg [⟨.mov (.v (.bool false)), some 4, none⟩]) <|
  .seq (.seq (.reg [⟨.mov (.t 0), some 6, none⟩,
     ⟨.mov (.t 1), some 7, none⟩,
     ⟨.ixL 1 (.t 6) (.t 7), some 8, none⟩,
     ⟨.ld1 (.t 8), some 9, none⟩,
     ⟨.lenS (.t 9), some 10, none⟩,
     ⟨.mov (.t 10), some 5, none⟩]) <|
   .block 0 <|
    .seq (.block 3 <|
      .block 2 <|
       .block 1 <|
        .seq (.seq (.seq (.reg [⟨.mov (.t 5), some 12, none⟩,
            ⟨.eqT 1 false (.t 12) (.v (.int .i64 0)), some 13, none⟩,
            ⟨.mov (.t 13), some 11, none⟩]) <|
          .cond (.t 11) (.exit 1)
           (.skip)) <|
         .seq (.seq (.reg [⟨.mov (.t 5), some 15, none⟩,
            ⟨.bin .gtr (.t 15) (.v (.int .i64 32)), some 16, none⟩,
            ⟨.mov (.t 16), some 14, none⟩]) <|
          .cond (.t 14) (.exit 2)
           (.skip)) <|
         .seq (.drw [⟨.mov (.t 0), some 18, none⟩,
           ⟨.mov (.t 1), some 19, none⟩,
           ⟨.slL (I.t 9) 1 (.t 18) none (some (.t 19)) none, some 20, none⟩,
           ⟨.mov (.t 0), some 21, none⟩,
           ⟨.mov (.t 1), some 22, none⟩,
           ⟨.ixL 1 (.t 21) (.t 22), some 23, none⟩,
           ⟨.ld1 (.t 23), some 24, none⟩,
           ⟨.call (I.f 764) [(.t 20), (.t 24)], some 25, none⟩,
           ⟨.mov (.t 25), some 17, none⟩]) <|
         .cond (.t 17) (.exit 3)
          (.skip)) <|
        .exit 0) <|
    .seq (.seq (.reg [⟨.mov (.v (.bool true)), some 4, none⟩]) <|
     .ret) <|
    .exit 0) <|
  .seq (.reg [⟨.mov (.v (.bool false)), some 4, none⟩]) <|
  .ret
-- 649 nt 26 res [.tmp 4] params [[]string, int]
/-- dovetail/gram.rule$1 -/
def c650 (I : Ids) : IC :=
  .seq (.reg [⟨.mov (.v (.bool false)), some 3, none⟩]) <|
  .seq (.reg [⟨.mov (.t 0), some 4, none⟩,
    ⟨.fad 0 (.t 1), some 5, none⟩,
    ⟨.ld1 (.t 5), some 6, none⟩,
    ⟨.lenL (.t 6), some 7, none⟩,
    ⟨.bin .geq (.t 4) (.t 7), some 8, none⟩,
    ⟨.mov (.t 8), some 9, none⟩,
    ⟨.mov (.t 0), some 10, some (9, false)⟩,
    ⟨.fad 1 (.t 1), some 11, some (9, false)⟩,
    ⟨.ld1 (.t 11), some 12, some (9, false)⟩,
    ⟨.lenL (.t 12), some 13, some (9, false)⟩,
    ⟨.un .neg (.t 13), some 14, some (9, false)⟩,
    ⟨.bin .lss (.t 10) (.t 14), some 15, some (9, false)⟩,
    ⟨.pick (.t 9) (.v (.bool true)) (.t 15), some 16, none⟩,
    ⟨.mov (.t 16), some 3, none⟩]) <|
  .ret
-- 650 nt 17 res [.tmp 3] params [int]
/-- slices.Index[[]string,string] -/
def c696 (I : Ids) : IC :=
  .seq (.reg [⟨.mov (.v (.int .i64 0)), some 4, none⟩]) <|
  .seq (.seq (.reg [⟨.mov (.t 0), some 6, none⟩,
     ⟨.lenL (.t 6), some 7, none⟩,
     ⟨.mov (.v (.int .i64 0)), some 8, none⟩]) <|
   .block 0 <|
    .loop <|
     .seq (.reg [⟨.bin .lss (.t 8) (.t 7), some 9, none⟩]) <|
     .seq (.cond (.t 9) (.skip)
       (.exit 0)) <|
     .seq (.block 1 <|
       .seq (.reg [⟨.mov (.t 8), some 10, none⟩,
         ⟨.mov (.t 10), some 5, none⟩]) <|
       .seq (.reg [⟨.mov (.t 1), some 11, none⟩,
         ⟨.mov (.t 0), some 12, none⟩,
         ⟨.mov (.t 5), some 13, none⟩,
         ⟨.ixL 1 (.t 12) (.t 13), some 14, none⟩,
         ⟨.ld1 (.t 14), some 15, none⟩,
         ⟨.eqT 2 false (.t 11) (.t 15), some 16, none⟩]) <|
       .cond (.t 16) (.seq (.reg [⟨.mov (.t 5), some 17, none⟩,
          ⟨.mov (.t 17), some 4, none⟩]) <|
        .ret)
        (.skip)) <|
     .reg [⟨.bin .add (.t 8) (.v (.int .i64 1)), some 18, none⟩,
      ⟨.mov (.t 18), some 8, none⟩]) <|
  .seq (.reg [⟨.mov (.v (.int .i64 (-1))), some 4, none⟩]) <|
  .ret
-- 696 nt 19 res [.tmp 4] params [[]string, string]
/-- slices.Contains[[]string,string] -/
def c764 (I : Ids) : IC :=
  .seq (.reg [⟨.mov (.v (.bool false)), some 4, none⟩]) <|
  .seq (.reg [⟨.mov (.t 0), some 5, none⟩,
    ⟨.mov (.t 1), some 6, none⟩,
    ⟨.call (I.f 696) [(.t 5), (.t 6)], some 7, none⟩,
    ⟨.bin .geq (.t 7) (.v (.int .i64 0)), some 8, none⟩,
    ⟨.mov (.t 8), some 4, none⟩]) <|
  .ret
-- 764 nt 9 res [.tmp 4] params [[]string, string]
end Go.Vm
