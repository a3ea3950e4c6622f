/- The code of functions, looked up; printed. -/
import Derived.Test.YthebkalnpmkkpaaGreatDoorWpUtil
set_option linter.unusedVariables false
set_option linter.unusedSimpArgs false
namespace Go.Vm
set_option maxRecDepth 100000
/-- dovetail/dovetaillaw19.BackmapChains -/
def c19 (I : Ids) : IC :=
  .seq (.reg [⟨.box (I.t 33) (.t 0), some 3, none⟩,
    ⟨.mov (.v (.bool false)), some 6, none⟩]) <|
  .seq (.reg [⟨.ldN 4 (.t 3), some 14, none⟩,
    ⟨.call (I.f 65) [(.t 14)], some 15, none⟩,
    ⟨.alc (newBlk [(.slice none 0 (.ex 0)), (.slice none 0 (.ex 0)), (.int .i64 0), (.slice none 0 (.ex 0))] (I.t 33)), some 7, none⟩,
    ⟨.sto 4 (.t 7) (.t 15), none, none⟩]) <|
  .seq (.reg [⟨.ldN 4 (.t 7), some 17, none⟩,
    ⟨.mov (.t 1), some 18, none⟩,
    ⟨.mov (.t 2), some 19, none⟩,
    ⟨.call (I.f 138) [(.t 17), (.t 18), (.t 19)], some 20, none⟩,
    ⟨.mov (.t 20), some 16, none⟩,
    ⟨.ext (.t 16) 0, some 21, none⟩,
    ⟨.ext (.t 16) 1, some 22, none⟩,
    ⟨.mov (.t 21), some 8, none⟩,
    ⟨.mov (.t 22), some 9, none⟩]) <|
  .seq (.reg [⟨.ldN 4 (.t 7), some 24, none⟩,
    ⟨.mov (.t 1), some 25, none⟩,
    ⟨.mov (.t 2), some 26, none⟩,
    ⟨.call (I.f 138) [(.t 24), (.t 25), (.t 26)], some 27, none⟩,
    ⟨.mov (.t 27), some 23, none⟩,
    ⟨.ext (.t 23) 0, some 28, none⟩,
    ⟨.ext (.t 23) 1, some 29, none⟩,
    ⟨.mov (.t 28), some 10, none⟩,
    ⟨.mov (.t 29), some 11, none⟩]) <|
  .seq (.reg [⟨.ldN 4 (.t 3), some 31, none⟩,
    ⟨.mov (.t 1), some 32, none⟩,
    ⟨.mov (.t 2), some 33, none⟩,
    ⟨.call (I.f 139) [(.t 31), (.t 32), (.t 33)], some 34, none⟩,
    ⟨.mov (.t 34), some 30, none⟩,
    ⟨.ext (.t 30) 0, some 35, none⟩,
    ⟨.ext (.t 30) 1, some 36, none⟩,
    ⟨.mov (.t 35), some 12, none⟩,
    ⟨.mov (.t 36), some 13, none⟩]) <|
  .seq (.reg [⟨.mov (.t 9), some 37, none⟩,
    ⟨.mov (.t 13), some 38, none⟩,
    ⟨.eqT 0 false (.t 37) (.t 38), some 39, none⟩,
    ⟨.mov (.t 39), some 40, none⟩,
    ⟨.mov (.t 8), some 41, some (40, true)⟩,
    ⟨.mov (.t 12), some 42, some (40, true)⟩,
    ⟨.call (I.f 118) [(.t 41), (.t 42)], some 43, some (40, true)⟩,
    ⟨.pick (.t 40) (.t 43) (.v (.bool false)), some 44, none⟩,
    ⟨.mov (.t 44), some 45, none⟩,
    ⟨.mov (.t 10), some 46, some (45, true)⟩,
    ⟨.mov (.t 12), some 47, some (45, true)⟩,
    ⟨.call (I.f 118) [(.t 46), (.t 47)], some 48, some (45, true)⟩,
    ⟨.pick (.t 45) (.t 48) (.v (.bool false)), some 49, none⟩,
    ⟨.mov (.t 49), some 50, none⟩,
    ⟨.ldN 4 (.t 7), some 51, some (50, true)⟩,
    ⟨.ldN 4 (.t 3), some 52, some (50, true)⟩,
    ⟨.call (I.f 70) [(.t 51), (.t 52)], some 53, some (50, true)⟩,
    ⟨.pick (.t 50) (.t 53) (.v (.bool false)), some 54, none⟩,
    ⟨.mov (.t 54), some 55, none⟩,
    ⟨.mov (.t 8), some 56, some (55, true)⟩,
    ⟨.mov (.t 10), some 57, some (55, true)⟩,
    ⟨.bSl (I.t 69) 1 2 [(.slice none 0 (.ex 0))] [(0, (.t 56)), (1, (.t 57))], some 58, some (55, true)⟩,
    ⟨.call (I.f 140) [(.t 58)], some 59, some (55, true)⟩,
    ⟨.pick (.t 55) (.t 59) (.v (.bool false)), some 60, none⟩,
    ⟨.mov (.t 60), some 61, none⟩,
    ⟨.call (I.f 124) [], some 62, some (61, true)⟩,
    ⟨.pick (.t 61) (.t 62) (.v (.bool false)), some 63, none⟩,
    ⟨.mov (.t 63), some 6, none⟩]) <|
  .ret
-- 19 nt 64 res [.tmp 6] params [api.Grammar, int, int]
/-- dovetail/dovetailref19.Chain -/
def c139 (I : Ids) : IC :=
  .seq (.reg [⟨.box (I.t 33) (.t 0), some 3, none⟩,
    ⟨.mov (.v (.slice none 0 (.ex 0))), some 6, none⟩,
    ⟨.mov (.v (.bool false)), some 7, none⟩]) <|
  .seq (.reg [⟨.ldN 4 (.t 3), some 23, none⟩,
    ⟨.call (I.f 374) [(.t 23)], some 24, none⟩,
    ⟨.mov (.t 24), some 22, none⟩,
    ⟨.ext (.t 22) 0, some 25, none⟩,
    ⟨.ext (.t 22) 1, some 26, none⟩,
    ⟨.mov (.t 25), some 8, none⟩,
    ⟨.mov (.t 26), some 9, none⟩]) <|
  .seq (.reg [⟨.fad 1 (.t 3), some 27, none⟩,
    ⟨.ld1 (.t 27), some 28, none⟩,
    ⟨.lenL (.t 28), some 29, none⟩,
    ⟨.mov (.t 29), some 10, none⟩]) <|
  .seq (.seq (.reg [⟨.mov (.t 8), some 30, none⟩,
     ⟨.eqT 1 true (.t 30) (.v (.int .i64 0)), some 31, none⟩,
     ⟨.mov (.t 31), some 32, none⟩,
     ⟨.mov (.t 1), some 33, some (32, false)⟩,
     ⟨.bin .lss (.t 33) (.v (.int .i64 0)), some 34, some (32, false)⟩,
     ⟨.pick (.t 32) (.v (.bool true)) (.t 34), some 35, none⟩,
     ⟨.mov (.t 35), some 36, none⟩,
     ⟨.mov (.t 1), some 37, some (36, false)⟩,
     ⟨.mov (.t 10), some 38, some (36, false)⟩,
     ⟨.bin .geq (.t 37) (.t 38), some 39, some (36, false)⟩,
     ⟨.pick (.t 36) (.v (.bool true)) (.t 39), some 40, none⟩,
     ⟨.mov (.t 40), some 41, none⟩,
     ⟨.mov (.t 2), some 42, some (41, false)⟩,
     ⟨.bin .lss (.t 42) (.v (.int .i64 0)), some 43, some (41, false)⟩,
     ⟨.pick (.t 41) (.v (.bool true)) (.t 43), some 44, none⟩,
     ⟨.mov (.t 44), some 45, none⟩,
     ⟨.mov (.t 2), some 46, some (45, false)⟩,
     ⟨.mov (.t 10), some 47, some (45, false)⟩,
     ⟨.bin .geq (.t 46) (.t 47), some 48, some (45, false)⟩,
     ⟨.pick (.t 45) (.v (.bool true)) (.t 48), some 49, none⟩]) <|
   .cond (.t 49) (.seq (.reg [⟨.mov (.v (.slice none 0 (.ex 0))), some 6, none⟩,
      ⟨.mov (.v (.bool false)), some 7, none⟩]) <|
    .ret)
    (.skip)) <|
  .seq (.reg [⟨.mov (.t 10), some 50, none⟩,
    ⟨.mkS (I.t 4) 1 1 [(.bool false)] (.t 50) (.t 50), some 51, none⟩,
    ⟨.mov (.t 51), some 11, none⟩]) <|
  .seq (.reg [⟨.mov (.t 11), some 52, none⟩,
    ⟨.mov (.t 1), some 53, none⟩,
    ⟨.ixL 1 (.t 52) (.t 53), some 54, none⟩,
    ⟨.sto 1 (.t 54) (.v (.bool true)), none, none⟩]) <|
  .seq (.reg [⟨.mov (.t 1), some 55, none⟩,
    ⟨.bSl (I.t 3) 1 1 [(.int .i64 0)] [(0, (.t 55))], some 56, none⟩,
    ⟨.mov (.t 56), some 12, none⟩]) <|
  .seq (.reg [⟨.bSl (I.t 69) 1 1 [(.slice none 0 (.ex 0))] [(0, (.v (.slice none 0 (.ex 0))))], some 57, none⟩,
    ⟨.mov (.t 57), some 13, none⟩]) <|
  .seq (.block 0 <|
    .loop <|
     .seq (.seq (.reg [⟨.mov (.t 12), some 58, none⟩,
        ⟨.lenL (.t 58), some 59, none⟩,
        ⟨.bin .gtr (.t 59) (.v (.int .i64 0)), some 60, none⟩]) <|
      .cond (.t 60) (.skip)
       (.exit 0)) <|
     .block 1 <|
      .seq (.reg [⟨.mov (.v (.slice none 0 (.ex 0))), some 14, none⟩]) <|
      .seq (.reg [⟨.mov (.v (.slice none 0 (.ex 0))), some 15, none⟩]) <|
      .seq (.seq (.reg [⟨.mov (.v (.int .i64 0)), some 16, none⟩]) <|
       .block 2 <|
        .loop <|
         .seq (.seq (.reg [⟨.mov (.t 16), some 61, none⟩,
            ⟨.mov (.t 12), some 62, none⟩,
            ⟨.lenL (.t 62), some 63, none⟩,
            ⟨.bin .lss (.t 61) (.t 63), some 64, none⟩]) <|
          .cond (.t 64) (.skip)
           (.exit 2)) <|
         .seq (.block 3 <|
           .seq (.reg [⟨.mov (.t 12), some 67, none⟩,
             ⟨.mov (.t 16), some 68, none⟩,
             ⟨.ixL 1 (.t 67) (.t 68), some 69, none⟩,
             ⟨.ld1 (.t 69), some 70, none⟩,
             ⟨.mov (.t 2), some 71, none⟩,
             ⟨.eqT 1 false (.t 70) (.t 71), some 72, none⟩]) <|
           .cond (.t 72) (.seq (.reg [⟨.mov (.t 13), some 73, none⟩,
              ⟨.mov (.t 16), some 74, none⟩,
              ⟨.ixL 1 (.t 73) (.t 74), some 75, none⟩,
              ⟨.ld1 (.t 75), some 76, none⟩,
              ⟨.mov (.t 76), some 6, none⟩,
              ⟨.mov (.v (.bool true)), some 7, none⟩]) <|
            .ret)
            (.skip)) <|
         .reg [⟨.mov (.t 16), some 65, none⟩,
          ⟨.bin .add (.t 65) (.v (.int .i64 1)), some 66, none⟩,
          ⟨.mov (.t 66), some 16, none⟩]) <|
      .seq (.seq (.reg [⟨.mov (.v (.int .i64 0)), some 17, none⟩]) <|
       .block 4 <|
        .loop <|
         .seq (.seq (.reg [⟨.mov (.t 17), some 77, none⟩,
            ⟨.mov (.t 12), some 78, none⟩,
            ⟨.lenL (.t 78), some 79, none⟩,
            ⟨.bin .lss (.t 77) (.t 79), some 80, none⟩]) <|
          .cond (.t 80) (.skip)
           (.exit 4)) <|
         .seq (.block 5 <|
           .seq (.reg [⟨.mov (.v (.int .i64 0)), some 18, none⟩]) <|
           .block 6 <|
            .loop <|
             .seq (.seq (.reg [⟨.mov (.t 18), some 83, none⟩,
                ⟨.fad 3 (.t 3), some 84, none⟩,
                ⟨.ld1 (.t 84), some 85, none⟩,
                ⟨.lenL (.t 85), some 86, none⟩,
                ⟨.bin .lss (.t 83) (.t 86), some 87, none⟩]) <|
              .cond (.t 87) (.skip)
               (.exit 6)) <|
             .seq (.block 7 <|
               .seq (.reg [⟨.fad 3 (.t 3), some 91, none⟩,
                 ⟨.ld1 (.t 91), some 92, none⟩,
                 ⟨.mov (.t 18), some 93, none⟩,
                 ⟨.ixL 2 (.t 92) (.t 93), some 94, none⟩,
                 ⟨.ldN 2 (.t 94), some 95, none⟩,
                 ⟨.call (I.f 375) [(.t 95)], some 96, none⟩,
                 ⟨.mov (.t 96), some 90, none⟩,
                 ⟨.ext (.t 90) 0, some 97, none⟩,
                 ⟨.ext (.t 90) 1, some 98, none⟩,
                 ⟨.mov (.t 97), some 19, none⟩,
                 ⟨.mov (.t 98), some 20, none⟩]) <|
               .seq (.drw [⟨.mov (.t 20), some 99, none⟩,
                 ⟨.mov (.t 99), some 100, none⟩,
                 ⟨.fad 3 (.t 3), some 101, some (100, true)⟩,
                 ⟨.ld1 (.t 101), some 102, some (100, true)⟩,
                 ⟨.mov (.t 18), some 103, some (100, true)⟩,
                 ⟨.ixL 2 (.t 102) (.t 103), some 104, some (100, true)⟩,
                 ⟨.fad 0 (.t 104), some 105, some (100, true)⟩,
                 ⟨.ld1 (.t 105), some 106, some (100, true)⟩,
                 ⟨.mov (.t 12), some 107, some (100, true)⟩,
                 ⟨.mov (.t 17), some 108, some (100, true)⟩,
                 ⟨.ixL 1 (.t 107) (.t 108), some 109, some (100, true)⟩,
                 ⟨.ld1 (.t 109), some 110, some (100, true)⟩,
                 ⟨.eqT 1 false (.t 106) (.t 110), some 111, some (100, true)⟩,
                 ⟨.pick (.t 100) (.t 111) (.v (.bool false)), some 112, none⟩,
                 ⟨.mov (.t 112), some 113, none⟩,
                 ⟨.mov (.t 11), some 114, some (113, true)⟩,
                 ⟨.mov (.t 19), some 115, some (113, true)⟩,
                 ⟨.ixL 1 (.t 114) (.t 115), some 116, some (113, true)⟩,
                 ⟨.ld1 (.t 116), some 117, some (113, true)⟩,
                 ⟨.un .not (.t 117), some 118, some (113, true)⟩,
                 ⟨.pick (.t 113) (.t 118) (.v (.bool false)), some 119, none⟩]) <|
               .cond (.t 119) (.seq (.reg [⟨.mov (.t 11), some 120, none⟩,
                  ⟨.mov (.t 19), some 121, none⟩,
                  ⟨.ixL 1 (.t 120) (.t 121), some 122, none⟩,
                  ⟨.sto 1 (.t 122) (.v (.bool true)), none, none⟩]) <|
                .seq (.reg [⟨.mov (.v (.slice none 0 (.ex 0))), some 21, none⟩]) <|
                .seq (.reg [⟨.mov (.t 21), some 123, none⟩,
                  ⟨.mov (.t 13), some 124, none⟩,
                  ⟨.mov (.t 17), some 125, none⟩,
                  ⟨.ixL 1 (.t 124) (.t 125), some 126, none⟩,
                  ⟨.ld1 (.t 126), some 127, none⟩,
                  ⟨.app (I.t 3) 1 (.t 123) (.t 127), some 128, none⟩,
                  ⟨.mov (.t 128), some 21, none⟩]) <|
                .seq (.reg [⟨.mov (.t 21), some 129, none⟩,
                  ⟨.mov (.t 18), some 130, none⟩,
                  ⟨.bSl (I.t 3) 1 1 [(.int .i64 0)] [(0, (.t 130))], some 131, none⟩,
                  ⟨.app (I.t 3) 1 (.t 129) (.t 131), some 132, none⟩,
                  ⟨.mov (.t 132), some 21, none⟩]) <|
                .seq (.reg [⟨.mov (.t 14), some 133, none⟩,
                  ⟨.mov (.t 19), some 134, none⟩,
                  ⟨.bSl (I.t 3) 1 1 [(.int .i64 0)] [(0, (.t 134))], some 135, none⟩,
                  ⟨.app (I.t 3) 1 (.t 133) (.t 135), some 136, none⟩,
                  ⟨.mov (.t 136), some 14, none⟩]) <|
                .reg [⟨.mov (.t 15), some 137, none⟩,
                 ⟨.mov (.t 21), some 138, none⟩,
                 ⟨.bSl (I.t 69) 1 1 [(.slice none 0 (.ex 0))] [(0, (.t 138))], some 139, none⟩,
                 ⟨.app (I.t 69) 1 (.t 137) (.t 139), some 140, none⟩,
                 ⟨.mov (.t 140), some 15, none⟩])
                (.skip)) <|
             .reg [⟨.mov (.t 18), some 88, none⟩,
              ⟨.bin .add (.t 88) (.v (.int .i64 1)), some 89, none⟩,
              ⟨.mov (.t 89), some 18, none⟩]) <|
         .reg [⟨.mov (.t 17), some 81, none⟩,
          ⟨.bin .add (.t 81) (.v (.int .i64 1)), some 82, none⟩,
          ⟨.mov (.t 82), some 17, none⟩]) <|
      .seq (.reg [⟨.mov (.t 14), some 141, none⟩,
        ⟨.mov (.t 141), some 12, none⟩]) <|
      .reg [⟨.mov (.t 15), some 142, none⟩,
       ⟨.mov (.t 142), some 13, none⟩]) <|
  .seq (.reg [⟨.mov (.v (.slice none 0 (.ex 0))), some 6, none⟩,
    ⟨.mov (.v (.bool false)), some 7, none⟩]) <|
  .ret
-- 139 nt 143 res [.tmp 6, .tmp 7] params [api.Grammar, int, int]
/-- dovetail/dovetailref03.Check -/
def c374 (I : Ids) : IC :=
  .seq (.reg [⟨.box (I.t 33) (.t 0), some 1, none⟩,
    ⟨.mov (.v (.int .i64 0)), some 2, none⟩,
    ⟨.mov (.v (.int .i64 0)), some 3, none⟩]) <|
  .seq (.reg [⟨.fad 0 (.t 1), some 9, none⟩,
    ⟨.ld1 (.t 9), some 10, none⟩,
    ⟨.lenL (.t 10), some 11, none⟩,
    ⟨.mov (.t 11), some 4, none⟩]) <|
  .seq (.reg [⟨.fad 1 (.t 1), some 12, none⟩,
    ⟨.ld1 (.t 12), some 13, none⟩,
    ⟨.lenL (.t 13), some 14, none⟩,
    ⟨.mov (.t 14), some 5, none⟩]) <|
  .seq (.seq (.reg [⟨.mov (.t 4), some 15, none⟩,
     ⟨.bin .gtr (.t 15) (.v (.int .i64 60)), some 16, none⟩,
     ⟨.mov (.t 16), some 17, none⟩,
     ⟨.mov (.t 5), some 18, some (17, false)⟩,
     ⟨.bin .gtr (.t 18) (.v (.int .i64 60)), some 19, some (17, false)⟩,
     ⟨.pick (.t 17) (.v (.bool true)) (.t 19), some 20, none⟩,
     ⟨.mov (.t 20), some 21, none⟩,
     ⟨.mov (.t 4), some 22, some (21, false)⟩,
     ⟨.mov (.t 5), some 23, some (21, false)⟩,
     ⟨.bin .add (.t 22) (.t 23), some 24, some (21, false)⟩,
     ⟨.bin .gtr (.t 24) (.v (.int .i64 60)), some 25, some (21, false)⟩,
     ⟨.pick (.t 21) (.v (.bool true)) (.t 25), some 26, none⟩,
     ⟨.mov (.t 26), some 27, none⟩,
     ⟨.fad 3 (.t 1), some 28, some (27, false)⟩,
     ⟨.ld1 (.t 28), some 29, some (27, false)⟩,
     ⟨.lenL (.t 29), some 30, some (27, false)⟩,
     ⟨.bin .gtr (.t 30) (.v (.int .i64 120)), some 31, some (27, false)⟩,
     ⟨.pick (.t 27) (.v (.bool true)) (.t 31), some 32, none⟩]) <|
   .cond (.t 32) (.seq (.reg [⟨.mov (.v (.int .i64 3)), some 2, none⟩,
      ⟨.mov (.v (.int .i64 (-1))), some 3, none⟩]) <|
    .ret)
    (.skip)) <|
  .seq (.seq (.reg [⟨.fad 0 (.t 1), some 33, none⟩,
     ⟨.ld1 (.t 33), some 34, none⟩,
     ⟨.call (I.f 531) [(.t 34)], some 35, none⟩,
     ⟨.un .not (.t 35), some 36, none⟩,
     ⟨.mov (.t 36), some 37, none⟩,
     ⟨.fad 1 (.t 1), some 38, some (37, false)⟩,
     ⟨.ld1 (.t 38), some 39, some (37, false)⟩,
     ⟨.call (I.f 531) [(.t 39)], some 40, some (37, false)⟩,
     ⟨.un .not (.t 40), some 41, some (37, false)⟩,
     ⟨.pick (.t 37) (.v (.bool true)) (.t 41), some 42, none⟩]) <|
   .cond (.t 42) (.seq (.reg [⟨.mov (.v (.int .i64 10)), some 2, none⟩,
      ⟨.mov (.v (.int .i64 (-1))), some 3, none⟩]) <|
    .ret)
    (.skip)) <|
  .seq (.seq (.reg [⟨.mov (.t 5), some 43, none⟩,
     ⟨.eqT 1 false (.t 43) (.v (.int .i64 0)), some 44, none⟩,
     ⟨.mov (.t 44), some 45, none⟩,
     ⟨.fad 2 (.t 1), some 46, some (45, false)⟩,
     ⟨.ld1 (.t 46), some 47, some (45, false)⟩,
     ⟨.bin .lss (.t 47) (.v (.int .i64 0)), some 48, some (45, false)⟩,
     ⟨.pick (.t 45) (.v (.bool true)) (.t 48), some 49, none⟩,
     ⟨.mov (.t 49), some 50, none⟩,
     ⟨.fad 2 (.t 1), some 51, some (50, false)⟩,
     ⟨.ld1 (.t 51), some 52, some (50, false)⟩,
     ⟨.mov (.t 5), some 53, some (50, false)⟩,
     ⟨.bin .geq (.t 52) (.t 53), some 54, some (50, false)⟩,
     ⟨.pick (.t 50) (.v (.bool true)) (.t 54), some 55, none⟩]) <|
   .cond (.t 55) (.seq (.reg [⟨.mov (.v (.int .i64 1)), some 2, none⟩,
      ⟨.mov (.v (.int .i64 (-1))), some 3, none⟩]) <|
    .ret)
    (.skip)) <|
  .seq (.seq (.reg [⟨.mov (.v (.int .i64 0)), some 6, none⟩]) <|
   .block 0 <|
    .loop <|
     .seq (.seq (.reg [⟨.mov (.t 6), some 56, none⟩,
        ⟨.fad 3 (.t 1), some 57, none⟩,
        ⟨.ld1 (.t 57), some 58, none⟩,
        ⟨.lenL (.t 58), some 59, none⟩,
        ⟨.bin .lss (.t 56) (.t 59), some 60, none⟩]) <|
      .cond (.t 60) (.skip)
       (.exit 0)) <|
     .seq (.block 1 <|
       .seq (.reg [⟨.fad 3 (.t 1), some 63, none⟩,
         ⟨.ld1 (.t 63), some 64, none⟩,
         ⟨.mov (.t 6), some 65, none⟩,
         ⟨.ixL 2 (.t 64) (.t 65), some 66, none⟩,
         ⟨.ldN 2 (.t 66), some 67, none⟩,
         ⟨.alc (newBlk [(.int .i64 0), (.slice none 0 (.ex 0))] (I.t 101)), some 7, none⟩,
         ⟨.sto 2 (.t 7) (.t 67), none, none⟩]) <|
       .seq (.seq (.reg [⟨.fad 1 (.t 7), some 68, none⟩,
          ⟨.ld1 (.t 68), some 69, none⟩,
          ⟨.lenL (.t 69), some 70, none⟩,
          ⟨.bin .gtr (.t 70) (.v (.int .i64 32)), some 71, none⟩]) <|
        .cond (.t 71) (.seq (.reg [⟨.mov (.t 6), some 72, none⟩,
           ⟨.mov (.v (.int .i64 3)), some 2, none⟩,
           ⟨.mov (.t 72), some 3, none⟩]) <|
         .ret)
         (.skip)) <|
       .seq (.seq (.reg [⟨.fad 0 (.t 7), some 73, none⟩,
          ⟨.ld1 (.t 73), some 74, none⟩,
          ⟨.bin .lss (.t 74) (.v (.int .i64 0)), some 75, none⟩,
          ⟨.mov (.t 75), some 76, none⟩,
          ⟨.fad 0 (.t 7), some 77, some (76, false)⟩,
          ⟨.ld1 (.t 77), some 78, some (76, false)⟩,
          ⟨.mov (.t 5), some 79, some (76, false)⟩,
          ⟨.bin .geq (.t 78) (.t 79), some 80, some (76, false)⟩,
          ⟨.pick (.t 76) (.v (.bool true)) (.t 80), some 81, none⟩]) <|
        .cond (.t 81) (.seq (.reg [⟨.mov (.t 6), some 82, none⟩,
           ⟨.mov (.v (.int .i64 1)), some 2, none⟩,
           ⟨.mov (.t 82), some 3, none⟩]) <|
         .ret)
         (.skip)) <|
       .seq (.reg [⟨.mov (.v (.int .i64 0)), some 8, none⟩]) <|
       .block 2 <|
        .loop <|
         .seq (.seq (.reg [⟨.mov (.t 8), some 83, none⟩,
            ⟨.fad 1 (.t 7), some 84, none⟩,
            ⟨.ld1 (.t 84), some 85, none⟩,
            ⟨.lenL (.t 85), some 86, none⟩,
            ⟨.bin .lss (.t 83) (.t 86), some 87, none⟩]) <|
          .cond (.t 87) (.skip)
           (.exit 2)) <|
         .seq (.block 3 <|
           .seq (.reg [⟨.fad 1 (.t 7), some 90, none⟩,
             ⟨.ld1 (.t 90), some 91, none⟩,
             ⟨.mov (.t 8), some 92, none⟩,
             ⟨.ixL 1 (.t 91) (.t 92), some 93, none⟩,
             ⟨.ld1 (.t 93), some 94, none⟩,
             ⟨.mov (.t 4), some 95, none⟩,
             ⟨.bin .geq (.t 94) (.t 95), some 96, none⟩,
             ⟨.mov (.t 96), some 97, none⟩,
             ⟨.fad 1 (.t 7), some 98, some (97, false)⟩,
             ⟨.ld1 (.t 98), some 99, some (97, false)⟩,
             ⟨.mov (.t 8), some 100, some (97, false)⟩,
             ⟨.ixL 1 (.t 99) (.t 100), some 101, some (97, false)⟩,
             ⟨.ld1 (.t 101), some 102, some (97, false)⟩,
             ⟨.mov (.t 5), some 103, some (97, false)⟩,
             ⟨.un .neg (.t 103), some 104, some (97, false)⟩,
             ⟨.bin .lss (.t 102) (.t 104), some 105, some (97, false)⟩,
             ⟨.pick (.t 97) (.v (.bool true)) (.t 105), some 106, none⟩]) <|
           .cond (.t 106) (.seq (.reg [⟨.mov (.t 6), some 107, none⟩,
              ⟨.mov (.v (.int .i64 1)), some 2, none⟩,
              ⟨.mov (.t 107), some 3, none⟩]) <|
            .ret)
            (.skip)) <|
         .reg [⟨.mov (.t 8), some 88, none⟩,
          ⟨.bin .add (.t 88) (.v (.int .i64 1)), some 89, none⟩,
          ⟨.mov (.t 89), some 8, none⟩]) <|
     .reg [⟨.mov (.t 6), some 61, none⟩,
      ⟨.bin .add (.t 61) (.v (.int .i64 1)), some 62, none⟩,
      ⟨.mov (.t 62), some 6, none⟩]) <|
  .seq (.reg [⟨.mov (.v (.int .i64 0)), some 2, none⟩,
    ⟨.mov (.v (.int .i64 (-1))), some 3, none⟩]) <|
  .ret
-- 374 nt 108 res [.tmp 2, .tmp 3] params [api.Grammar]
/-- dovetail/dovetailref03.Renaming -/
def c375 (I : Ids) : IC :=
  .seq (.reg [⟨.box (I.t 101) (.t 0), some 1, none⟩,
    ⟨.mov (.v (.int .i64 0)), some 2, none⟩,
    ⟨.mov (.v (.bool false)), some 3, none⟩]) <|
  .seq (.seq (.reg [⟨.fad 1 (.t 1), some 4, none⟩,
     ⟨.ld1 (.t 4), some 5, none⟩,
     ⟨.lenL (.t 5), some 6, none⟩,
     ⟨.eqT 1 false (.t 6) (.v (.int .i64 1)), some 7, none⟩,
     ⟨.mov (.t 7), some 8, none⟩,
     ⟨.fad 1 (.t 1), some 9, some (8, true)⟩,
     ⟨.ld1 (.t 9), some 10, some (8, true)⟩,
     ⟨.ixL 1 (.t 10) (.v (.int .i64 0)), some 11, some (8, true)⟩,
     ⟨.ld1 (.t 11), some 12, some (8, true)⟩,
     ⟨.bin .lss (.t 12) (.v (.int .i64 0)), some 13, some (8, true)⟩,
     ⟨.pick (.t 8) (.t 13) (.v (.bool false)), some 14, none⟩]) <|
   .cond (.t 14) (.seq (.reg [⟨.fad 1 (.t 1), some 15, none⟩,
      ⟨.ld1 (.t 15), some 16, none⟩,
      ⟨.ixL 1 (.t 16) (.v (.int .i64 0)), some 17, none⟩,
      ⟨.ld1 (.t 17), some 18, none⟩,
      ⟨.bin .sub (.v (.int .i64 (-1))) (.t 18), some 19, none⟩,
      ⟨.mov (.t 19), some 2, none⟩,
      ⟨.mov (.v (.bool true)), some 3, none⟩]) <|
    .ret)
    (.skip)) <|
  .seq (.reg [⟨.mov (.v (.int .i64 0)), some 2, none⟩,
    ⟨.mov (.v (.bool false)), some 3, none⟩]) <|
  .ret
-- 375 nt 20 res [.tmp 2, .tmp 3] params [api.Rule]
/-- dovetail/dovetailref03.named -/
def c531 (I : Ids) : IC :=
  .seq (.reg [⟨.mov (.v (.bool false)), some 2, none⟩]) <|
  .seq (.seq (.reg [⟨.mov (.v (.int .i64 0)), some 3, none⟩]) <|
   .block 0 <|
    .loop <|
     .seq (.seq (.reg [⟨.mov (.t 3), some 5, none⟩,
        ⟨.mov (.t 0), some 6, none⟩,
        ⟨.lenL (.t 6), some 7, none⟩,
        ⟨.bin .lss (.t 5) (.t 7), some 8, none⟩]) <|
      .cond (.t 8) (.skip)
       (.exit 0)) <|
     .seq (.block 1 <|
       .seq (.seq (.reg [⟨.mov (.t 0), some 11, none⟩,
          ⟨.mov (.t 3), some 12, none⟩,
          ⟨.ixL 1 (.t 11) (.t 12), some 13, none⟩,
          ⟨.ld1 (.t 13), some 14, none⟩,
          ⟨.lenS (.t 14), some 15, none⟩,
          ⟨.eqT 1 false (.t 15) (.v (.int .i64 0)), some 16, none⟩,
          ⟨.mov (.t 16), some 17, none⟩,
          ⟨.mov (.t 0), some 18, some (17, false)⟩,
          ⟨.mov (.t 3), some 19, some (17, false)⟩,
          ⟨.ixL 1 (.t 18) (.t 19), some 20, some (17, false)⟩,
          ⟨.ld1 (.t 20), some 21, some (17, false)⟩,
          ⟨.lenS (.t 21), some 22, some (17, false)⟩,
          ⟨.bin .gtr (.t 22) (.v (.int .i64 32)), some 23, some (17, false)⟩,
          ⟨.pick (.t 17) (.v (.bool true)) (.t 23), some 24, none⟩]) <|
        .cond (.t 24) (.seq (.reg [⟨.mov (.v (.bool false)), some 2, none⟩]) <|
         .ret)
         (.skip)) <|
       .seq (.reg [⟨.mov (.v (.int .i64 0)), some 4, none⟩]) <|
       .block 2 <|
        .loop <|
         .seq (.seq (.reg [⟨.mov (.t 4), some 25, none⟩,
            ⟨.mov (.t 3), some 26, none⟩,
            ⟨.bin .lss (.t 25) (.t 26), some 27, none⟩]) <|
          .cond (.t 27) (.skip)
           (.exit 2)) <|
         .seq (.block 3 <|
           .seq (.drw [⟨.mov (.t 0), some 30, none⟩,
             ⟨.mov (.t 4), some 31, none⟩,
             ⟨.ixL 1 (.t 30) (.t 31), some 32, none⟩,
             ⟨.ld1 (.t 32), some 33, none⟩,
             ⟨.mov (.t 0), some 34, none⟩,
             ⟨.mov (.t 3), some 35, none⟩,
             ⟨.ixL 1 (.t 34) (.t 35), some 36, none⟩,
             ⟨.ld1 (.t 36), some 37, none⟩,
             ⟨.eqT 2 false (.t 33) (.t 37), some 38, none⟩]) <|
           .cond (.t 38) (.seq (.reg [⟨.mov (.v (.bool false)), some 2, none⟩]) <|
            .ret)
            (.skip)) <|
         .reg [⟨.mov (.t 4), some 28, none⟩,
          ⟨.bin .add (.t 28) (.v (.int .i64 1)), some 29, none⟩,
          ⟨.mov (.t 29), some 4, none⟩]) <|
     .reg [⟨.mov (.t 3), some 9, none⟩,
      ⟨.bin .add (.t 9) (.v (.int .i64 1)), some 10, none⟩,
      ⟨.mov (.t 10), some 3, none⟩]) <|
  .seq (.reg [⟨.mov (.v (.bool true)), some 2, none⟩]) <|
  .ret
-- 531 nt 39 res [.tmp 2] params [[]string]
end Go.Vm
/- The code of functions, looked up; printed. -/
namespace Go.Vm
set_option maxRecDepth 100000
/-- dovetail/dovetailkit.LentGrammar -/
def c65 (I : Ids) : IC :=
  .seq (.reg [⟨.box (I.t 33) (.t 0), some 1, none⟩,
    ⟨.alc (newBlk [(.slice none 0 (.ex 0)), (.slice none 0 (.ex 0)), (.int .i64 0), (.slice none 0 (.ex 0))] (I.t 33)), some 2, none⟩]) <|
  .seq (.drv [⟨⟨.fad 0 (.t 1), some 3, none⟩, 0, [], [], []⟩,
    ⟨⟨.ld1 (.t 3), some 4, none⟩, 1, [], [], []⟩,
    ⟨⟨.call (I.f 260) [(.t 4)], some 5, none⟩, 3, [], [], []⟩,
    ⟨⟨.fad 1 (.t 1), some 6, none⟩, 0, [], [], []⟩,
    ⟨⟨.ld1 (.t 6), some 7, none⟩, 1, [2], [], [(.t 6)]⟩,
    ⟨⟨.call (I.f 260) [(.t 7)], some 8, none⟩, 3, [], [], []⟩,
    ⟨⟨.fad 2 (.t 1), some 9, none⟩, 0, [], [], []⟩,
    ⟨⟨.ld1 (.t 9), some 10, none⟩, 1, [2, 5], [], [(.t 9)]⟩,
    ⟨⟨.fad 3 (.t 1), some 11, none⟩, 0, [], [], []⟩,
    ⟨⟨.ld1 (.t 11), some 12, none⟩, 1, [2, 5], [], [(.t 11)]⟩,
    ⟨⟨.call (I.f 261) [(.t 12)], some 13, none⟩, 3, [], [7], []⟩,
    ⟨⟨.bld [(.slice none 0 (.ex 0)), (.slice none 0 (.ex 0)), (.int .i64 0), (.slice none 0 (.ex 0))] [(0, 1, (.t 5)), (1, 1, (.t 8)), (2, 1, (.t 10)), (3, 1, (.t 13))], some 14, none⟩, 0, [], [], []⟩,
    ⟨⟨.sto 4 (.t 2) (.t 14), none, none⟩, 3, [], [], []⟩]) <|
  .ret
-- 65 nt 15 res [.cell 2 (I.t 33)] params [api.Grammar]
/-- dovetail/dovetailkit.KeptGrammar -/
def c70 (I : Ids) : IC :=
  .seq (.reg [⟨.box (I.t 33) (.t 0), some 2, none⟩,
    ⟨.box (I.t 33) (.t 1), some 3, none⟩,
    ⟨.mov (.v (.bool false)), some 4, none⟩]) <|
  .seq (.reg [⟨.fad 0 (.t 2), some 5, none⟩,
    ⟨.ld1 (.t 5), some 6, none⟩,
    ⟨.fad 0 (.t 3), some 7, none⟩,
    ⟨.ld1 (.t 7), some 8, none⟩,
    ⟨.call (I.f 273) [(.t 6), (.t 8)], some 9, none⟩,
    ⟨.mov (.t 9), some 10, none⟩,
    ⟨.fad 1 (.t 2), some 11, some (10, true)⟩,
    ⟨.ld1 (.t 11), some 12, some (10, true)⟩,
    ⟨.fad 1 (.t 3), some 13, some (10, true)⟩,
    ⟨.ld1 (.t 13), some 14, some (10, true)⟩,
    ⟨.call (I.f 273) [(.t 12), (.t 14)], some 15, some (10, true)⟩,
    ⟨.pick (.t 10) (.t 15) (.v (.bool false)), some 16, none⟩,
    ⟨.mov (.t 16), some 17, none⟩,
    ⟨.fad 2 (.t 2), some 18, some (17, true)⟩,
    ⟨.ld1 (.t 18), some 19, some (17, true)⟩,
    ⟨.fad 2 (.t 3), some 20, some (17, true)⟩,
    ⟨.ld1 (.t 20), some 21, some (17, true)⟩,
    ⟨.eqT 1 false (.t 19) (.t 21), some 22, some (17, true)⟩,
    ⟨.pick (.t 17) (.t 22) (.v (.bool false)), some 23, none⟩,
    ⟨.mov (.t 23), some 24, none⟩,
    ⟨.fad 3 (.t 2), some 25, some (24, true)⟩,
    ⟨.ld1 (.t 25), some 26, some (24, true)⟩,
    ⟨.fad 3 (.t 3), some 27, some (24, true)⟩,
    ⟨.ld1 (.t 27), some 28, some (24, true)⟩,
    ⟨.call (I.f 274) [(.t 26), (.t 28)], some 29, some (24, true)⟩,
    ⟨.pick (.t 24) (.t 29) (.v (.bool false)), some 30, none⟩,
    ⟨.mov (.t 30), some 4, none⟩]) <|
  .ret
-- 70 nt 31 res [.tmp 4] params [api.Grammar, api.Grammar]
/-- dovetail/dovetailkit.LentInts -/
def c108 (I : Ids) : IC :=
  .seq (.reg [⟨.mov (.v (.slice none 0 (.ex 0))), some 2, none⟩]) <|
  .seq (.reg [⟨.mov (.v (.slice none 0 (.ex 0))), some 3, none⟩]) <|
  .seq (.reg [⟨.mov (.t 3), some 4, none⟩,
    ⟨.mov (.t 0), some 5, none⟩,
    ⟨.app (I.t 3) 1 (.t 4) (.t 5), some 6, none⟩,
    ⟨.mov (.t 6), some 3, none⟩]) <|
  .seq (.reg [⟨.mov (.t 3), some 7, none⟩,
    ⟨.bSl (I.t 3) 1 1 [(.int .i64 0)] [(0, (.v (.int .i64 (-7171))))], some 8, none⟩,
    ⟨.app (I.t 3) 1 (.t 7) (.t 8), some 9, none⟩,
    ⟨.mov (.t 9), some 3, none⟩]) <|
  .seq (.reg [⟨.mov (.t 3), some 10, none⟩,
    ⟨.mov (.t 0), some 11, none⟩,
    ⟨.lenL (.t 11), some 12, none⟩,
    ⟨.slL (I.t 3) 1 (.t 10) none (some (.t 12)) none, some 13, none⟩,
    ⟨.mov (.t 13), some 2, none⟩]) <|
  .ret
-- 108 nt 14 res [.tmp 2] params [[]int]
/-- dovetail/dovetailkit.KeptInts -/
def c111 (I : Ids) : IC :=
  .seq (.reg [⟨.mov (.v (.bool false)), some 4, none⟩]) <|
  .seq (.reg [⟨.mov (.t 0), some 5, none⟩,
    ⟨.mov (.t 1), some 6, none⟩,
    ⟨.call (I.f 118) [(.t 5), (.t 6)], some 7, none⟩,
    ⟨.mov (.t 7), some 8, none⟩,
    ⟨.mov (.t 0), some 9, some (8, true)⟩,
    ⟨.mov (.t 0), some 10, some (8, true)⟩,
    ⟨.lenL (.t 10), some 11, some (8, true)⟩,
    ⟨.bin .add (.t 11) (.v (.int .i64 1)), some 12, some (8, true)⟩,
    ⟨.slL (I.t 3) 1 (.t 9) none (some (.t 12)) none, some 13, some (8, true)⟩,
    ⟨.mov (.t 0), some 14, some (8, true)⟩,
    ⟨.lenL (.t 14), some 15, some (8, true)⟩,
    ⟨.ixL 1 (.t 13) (.t 15), some 16, some (8, true)⟩,
    ⟨.ld1 (.t 16), some 17, some (8, true)⟩,
    ⟨.eqT 1 false (.t 17) (.v (.int .i64 (-7171))), some 18, some (8, true)⟩,
    ⟨.pick (.t 8) (.t 18) (.v (.bool false)), some 19, none⟩,
    ⟨.mov (.t 19), some 4, none⟩]) <|
  .ret
-- 111 nt 20 res [.tmp 4] params [[]int, []int]
/-- dovetail/dovetailkit.Ints -/
def c118 (I : Ids) : IC :=
  .seq (.reg [⟨.mov (.v (.bool false)), some 4, none⟩]) <|
  .seq (.seq (.reg [⟨.mov (.t 0), some 6, none⟩,
     ⟨.lenL (.t 6), some 7, none⟩,
     ⟨.mov (.t 1), some 8, none⟩,
     ⟨.lenL (.t 8), some 9, none⟩,
     ⟨.eqT 1 true (.t 7) (.t 9), some 10, none⟩]) <|
   .cond (.t 10) (.seq (.reg [⟨.mov (.v (.bool false)), some 4, none⟩]) <|
    .ret)
    (.skip)) <|
  .seq (.seq (.reg [⟨.mov (.v (.int .i64 0)), some 5, none⟩]) <|
   .block 0 <|
    .loop <|
     .seq (.seq (.reg [⟨.mov (.t 5), some 11, none⟩,
        ⟨.mov (.t 0), some 12, none⟩,
        ⟨.lenL (.t 12), some 13, none⟩,
        ⟨.bin .lss (.t 11) (.t 13), some 14, none⟩]) <|
      .cond (.t 14) (.skip)
       (.exit 0)) <|
     .seq (.block 1 <|
       .seq (.drw [⟨.mov (.t 0), some 17, none⟩,
         ⟨.mov (.t 5), some 18, none⟩,
         ⟨.ixL 1 (.t 17) (.t 18), some 19, none⟩,
         ⟨.ld1 (.t 19), some 20, none⟩,
         ⟨.mov (.t 1), some 21, none⟩,
         ⟨.mov (.t 5), some 22, none⟩,
         ⟨.ixL 1 (.t 21) (.t 22), some 23, none⟩,
         ⟨.ld1 (.t 23), some 24, none⟩,
         ⟨.eqT 1 true (.t 20) (.t 24), some 25, none⟩]) <|
       .cond (.t 25) (.seq (.reg [⟨.mov (.v (.bool false)), some 4, none⟩]) <|
        .ret)
        (.skip)) <|
     .reg [⟨.mov (.t 5), some 15, none⟩,
      ⟨.bin .add (.t 15) (.v (.int .i64 1)), some 16, none⟩,
      ⟨.mov (.t 16), some 5, none⟩]) <|
  .seq (.reg [⟨.mov (.v (.bool true)), some 4, none⟩]) <|
  .ret
-- 118 nt 26 res [.tmp 4] params [[]int, []int]
/-- dovetail/dovetailkit.ApartInts -/
def c140 (I : Ids) : IC :=
  .seq (.reg [⟨.mov (.v (.bool false)), some 2, none⟩]) <|
  .seq (.seq (.reg [⟨.mov (.v (.int .i64 0)), some 3, none⟩]) <|
   .block 0 <|
    .loop <|
     .seq (.seq (.reg [⟨.mov (.t 3), some 13, none⟩,
        ⟨.mov (.t 0), some 14, none⟩,
        ⟨.lenL (.t 14), some 15, none⟩,
        ⟨.bin .lss (.t 13) (.t 15), some 16, none⟩]) <|
      .cond (.t 16) (.skip)
       (.exit 0)) <|
     .seq (.block 1 <|
       .seq (.reg [⟨.mov (.v (.int .i64 0)), some 4, none⟩]) <|
       .block 2 <|
        .loop <|
         .seq (.seq (.reg [⟨.mov (.t 4), some 19, none⟩,
            ⟨.mov (.t 0), some 20, none⟩,
            ⟨.mov (.t 3), some 21, none⟩,
            ⟨.ixL 1 (.t 20) (.t 21), some 22, none⟩,
            ⟨.ld1 (.t 22), some 23, none⟩,
            ⟨.lenL (.t 23), some 24, none⟩,
            ⟨.bin .lss (.t 19) (.t 24), some 25, none⟩]) <|
          .cond (.t 25) (.skip)
           (.exit 2)) <|
         .seq (.block 3 <|
           .reg [⟨.mov (.t 0), some 28, none⟩,
            ⟨.mov (.t 3), some 29, none⟩,
            ⟨.ixL 1 (.t 28) (.t 29), some 30, none⟩,
            ⟨.ld1 (.t 30), some 31, none⟩,
            ⟨.mov (.t 4), some 32, none⟩,
            ⟨.mov (.t 3), some 33, none⟩,
            ⟨.bin .mul (.v (.int .i64 1000)) (.t 33), some 34, none⟩,
            ⟨.mov (.t 4), some 35, none⟩,
            ⟨.bin .add (.t 34) (.t 35), some 36, none⟩,
            ⟨.ixL 1 (.t 31) (.t 32), some 37, none⟩,
            ⟨.sto 1 (.t 37) (.t 36), none, none⟩]) <|
         .reg [⟨.mov (.t 4), some 26, none⟩,
          ⟨.bin .add (.t 26) (.v (.int .i64 1)), some 27, none⟩,
          ⟨.mov (.t 27), some 4, none⟩]) <|
     .reg [⟨.mov (.t 3), some 17, none⟩,
      ⟨.bin .add (.t 17) (.v (.int .i64 1)), some 18, none⟩,
      ⟨.mov (.t 18), some 3, none⟩]) <|
  .seq (.reg [⟨.mov (.v (.slice none 0 (.ex 0))), some 5, none⟩]) <|
  .seq (.seq (.reg [⟨.mov (.v (.int .i64 0)), some 6, none⟩]) <|
   .block 4 <|
    .loop <|
     .seq (.seq (.reg [⟨.mov (.t 6), some 38, none⟩,
        ⟨.mov (.t 0), some 39, none⟩,
        ⟨.lenL (.t 39), some 40, none⟩,
        ⟨.bin .lss (.t 38) (.t 40), some 41, none⟩]) <|
      .cond (.t 41) (.skip)
       (.exit 4)) <|
     .seq (.block 5 <|
       .seq (.reg [⟨.mov (.t 0), some 44, none⟩,
         ⟨.mov (.t 6), some 45, none⟩,
         ⟨.ixL 1 (.t 44) (.t 45), some 46, none⟩,
         ⟨.ld1 (.t 46), some 47, none⟩,
         ⟨.mov (.t 47), some 7, none⟩]) <|
       .seq (.seq (.reg [⟨.mov (.v (.int .i64 0)), some 8, none⟩]) <|
        .block 6 <|
         .loop <|
          .seq (.seq (.reg [⟨.mov (.t 8), some 48, none⟩,
             ⟨.bin .lss (.t 48) (.v (.int .i64 30)), some 49, none⟩]) <|
           .cond (.t 49) (.skip)
            (.exit 6)) <|
          .seq (.block 7 <|
            .reg [⟨.mov (.t 7), some 52, none⟩,
             ⟨.mov (.t 6), some 53, none⟩,
             ⟨.bin .mul (.v (.int .i64 1000)) (.t 53), some 54, none⟩,
             ⟨.bin .add (.v (.int .i64 500000)) (.t 54), some 55, none⟩,
             ⟨.mov (.t 8), some 56, none⟩,
             ⟨.bin .add (.t 55) (.t 56), some 57, none⟩,
             ⟨.bSl (I.t 3) 1 1 [(.int .i64 0)] [(0, (.t 57))], some 58, none⟩,
             ⟨.app (I.t 3) 1 (.t 52) (.t 58), some 59, none⟩,
             ⟨.mov (.t 59), some 7, none⟩]) <|
          .reg [⟨.mov (.t 8), some 50, none⟩,
           ⟨.bin .add (.t 50) (.v (.int .i64 1)), some 51, none⟩,
           ⟨.mov (.t 51), some 8, none⟩]) <|
       .reg [⟨.mov (.t 5), some 60, none⟩,
        ⟨.mov (.t 7), some 61, none⟩,
        ⟨.bSl (I.t 69) 1 1 [(.slice none 0 (.ex 0))] [(0, (.t 61))], some 62, none⟩,
        ⟨.app (I.t 69) 1 (.t 60) (.t 62), some 63, none⟩,
        ⟨.mov (.t 63), some 5, none⟩]) <|
     .reg [⟨.mov (.t 6), some 42, none⟩,
      ⟨.bin .add (.t 42) (.v (.int .i64 1)), some 43, none⟩,
      ⟨.mov (.t 43), some 6, none⟩]) <|
  .seq (.seq (.reg [⟨.mov (.v (.int .i64 0)), some 9, none⟩]) <|
   .block 8 <|
    .loop <|
     .seq (.seq (.reg [⟨.mov (.t 9), some 64, none⟩,
        ⟨.mov (.t 0), some 65, none⟩,
        ⟨.lenL (.t 65), some 66, none⟩,
        ⟨.bin .lss (.t 64) (.t 66), some 67, none⟩]) <|
      .cond (.t 67) (.skip)
       (.exit 8)) <|
     .seq (.block 9 <|
       .seq (.reg [⟨.mov (.t 0), some 70, none⟩,
         ⟨.mov (.t 9), some 71, none⟩,
         ⟨.ixL 1 (.t 70) (.t 71), some 72, none⟩,
         ⟨.ld1 (.t 72), some 73, none⟩,
         ⟨.lenL (.t 73), some 74, none⟩,
         ⟨.mov (.t 74), some 10, none⟩]) <|
       .seq (.seq (.reg [⟨.mov (.v (.int .i64 0)), some 11, none⟩]) <|
        .block 10 <|
         .loop <|
          .seq (.seq (.reg [⟨.mov (.t 11), some 75, none⟩,
             ⟨.mov (.t 10), some 76, none⟩,
             ⟨.bin .lss (.t 75) (.t 76), some 77, none⟩]) <|
           .cond (.t 77) (.skip)
            (.exit 10)) <|
          .seq (.block 11 <|
            .seq (.reg [⟨.mov (.t 0), some 80, none⟩,
              ⟨.mov (.t 9), some 81, none⟩,
              ⟨.ixL 1 (.t 80) (.t 81), some 82, none⟩,
              ⟨.ld1 (.t 82), some 83, none⟩,
              ⟨.mov (.t 11), some 84, none⟩,
              ⟨.ixL 1 (.t 83) (.t 84), some 85, none⟩,
              ⟨.ld1 (.t 85), some 86, none⟩,
              ⟨.mov (.t 9), some 87, none⟩,
              ⟨.bin .mul (.v (.int .i64 1000)) (.t 87), some 88, none⟩,
              ⟨.mov (.t 11), some 89, none⟩,
              ⟨.bin .add (.t 88) (.t 89), some 90, none⟩,
              ⟨.eqT 1 true (.t 86) (.t 90), some 91, none⟩,
              ⟨.mov (.t 91), some 92, none⟩,
              ⟨.mov (.t 5), some 93, some (92, false)⟩,
              ⟨.mov (.t 9), some 94, some (92, false)⟩,
              ⟨.ixL 1 (.t 93) (.t 94), some 95, some (92, false)⟩,
              ⟨.ld1 (.t 95), some 96, some (92, false)⟩,
              ⟨.mov (.t 11), some 97, some (92, false)⟩,
              ⟨.ixL 1 (.t 96) (.t 97), some 98, some (92, false)⟩,
              ⟨.ld1 (.t 98), some 99, some (92, false)⟩,
              ⟨.mov (.t 9), some 100, some (92, false)⟩,
              ⟨.bin .mul (.v (.int .i64 1000)) (.t 100), some 101, some (92, false)⟩,
              ⟨.mov (.t 11), some 102, some (92, false)⟩,
              ⟨.bin .add (.t 101) (.t 102), some 103, some (92, false)⟩,
              ⟨.eqT 1 true (.t 99) (.t 103), some 104, some (92, false)⟩,
              ⟨.pick (.t 92) (.v (.bool true)) (.t 104), some 105, none⟩]) <|
            .cond (.t 105) (.seq (.reg [⟨.mov (.v (.bool false)), some 2, none⟩]) <|
             .ret)
             (.skip)) <|
          .reg [⟨.mov (.t 11), some 78, none⟩,
           ⟨.bin .add (.t 78) (.v (.int .i64 1)), some 79, none⟩,
           ⟨.mov (.t 79), some 11, none⟩]) <|
       .seq (.reg [⟨.mov (.v (.int .i64 0)), some 12, none⟩]) <|
       .block 12 <|
        .loop <|
         .seq (.seq (.reg [⟨.mov (.t 12), some 106, none⟩,
            ⟨.bin .lss (.t 106) (.v (.int .i64 30)), some 107, none⟩]) <|
          .cond (.t 107) (.skip)
           (.exit 12)) <|
         .seq (.block 13 <|
           .seq (.reg [⟨.mov (.t 5), some 110, none⟩,
             ⟨.mov (.t 9), some 111, none⟩,
             ⟨.ixL 1 (.t 110) (.t 111), some 112, none⟩,
             ⟨.ld1 (.t 112), some 113, none⟩,
             ⟨.mov (.t 10), some 114, none⟩,
             ⟨.mov (.t 12), some 115, none⟩,
             ⟨.bin .add (.t 114) (.t 115), some 116, none⟩,
             ⟨.ixL 1 (.t 113) (.t 116), some 117, none⟩,
             ⟨.ld1 (.t 117), some 118, none⟩,
             ⟨.mov (.t 9), some 119, none⟩,
             ⟨.bin .mul (.v (.int .i64 1000)) (.t 119), some 120, none⟩,
             ⟨.bin .add (.v (.int .i64 500000)) (.t 120), some 121, none⟩,
             ⟨.mov (.t 12), some 122, none⟩,
             ⟨.bin .add (.t 121) (.t 122), some 123, none⟩,
             ⟨.eqT 1 true (.t 118) (.t 123), some 124, none⟩]) <|
           .cond (.t 124) (.seq (.reg [⟨.mov (.v (.bool false)), some 2, none⟩]) <|
            .ret)
            (.skip)) <|
         .reg [⟨.mov (.t 12), some 108, none⟩,
          ⟨.bin .add (.t 108) (.v (.int .i64 1)), some 109, none⟩,
          ⟨.mov (.t 109), some 12, none⟩]) <|
     .reg [⟨.mov (.t 9), some 68, none⟩,
      ⟨.bin .add (.t 68) (.v (.int .i64 1)), some 69, none⟩,
      ⟨.mov (.t 69), some 9, none⟩]) <|
  .seq (.reg [⟨.mov (.v (.bool true)), some 2, none⟩]) <|
  .ret
-- 140 nt 125 res [.tmp 2] params [[][]int]
/-- dovetail/dovetailkit.Strings -/
def c251 (I : Ids) : IC :=
  .seq (.reg [⟨.mov (.v (.bool false)), some 4, none⟩]) <|
  .seq (.seq (.reg [⟨.mov (.t 0), some 6, none⟩,
     ⟨.lenL (.t 6), some 7, none⟩,
     ⟨.mov (.t 1), some 8, none⟩,
     ⟨.lenL (.t 8), some 9, none⟩,
     ⟨.eqT 1 true (.t 7) (.t 9), some 10, none⟩]) <|
   .cond (.t 10) (.seq (.reg [⟨.mov (.v (.bool false)), some 4, none⟩]) <|
    .ret)
    (.skip)) <|
  .seq (.seq (.reg [⟨.mov (.v (.int .i64 0)), some 5, none⟩]) <|
   .block 0 <|
    .loop <|
     .seq (.seq (.reg [⟨.mov (.t 5), some 11, none⟩,
        ⟨.mov (.t 0), some 12, none⟩,
        ⟨.lenL (.t 12), some 13, none⟩,
        ⟨.bin .lss (.t 11) (.t 13), some 14, none⟩]) <|
      .cond (.t 14) (.skip)
       (.exit 0)) <|
     .seq (.block 1 <|
       .seq (.drw [⟨.mov (.t 0), some 17, none⟩,
         ⟨.mov (.t 5), some 18, none⟩,
         ⟨.ixL 1 (.t 17) (.t 18), some 19, none⟩,
         ⟨.ld1 (.t 19), some 20, none⟩,
         ⟨.mov (.t 1), some 21, none⟩,
         ⟨.mov (.t 5), some 22, none⟩,
         ⟨.ixL 1 (.t 21) (.t 22), some 23, none⟩,
         ⟨.ld1 (.t 23), some 24, none⟩,
         ⟨.eqT 2 true (.t 20) (.t 24), some 25, none⟩]) <|
       .cond (.t 25) (.seq (.reg [⟨.mov (.v (.bool false)), some 4, none⟩]) <|
        .ret)
        (.skip)) <|
     .reg [⟨.mov (.t 5), some 15, none⟩,
      ⟨.bin .add (.t 15) (.v (.int .i64 1)), some 16, none⟩,
      ⟨.mov (.t 16), some 5, none⟩]) <|
  .seq (.reg [⟨.mov (.v (.bool true)), some 4, none⟩]) <|
  .ret
-- 251 nt 26 res [.tmp 4] params [[]string, []string]
/-- dovetail/dovetailkit.LentStrings -/
def c260 (I : Ids) : IC :=
  .seq (.reg [⟨.mov (.v (.slice none 0 (.ex 0))), some 2, none⟩]) <|
  .seq (.reg [⟨.mov (.v (.slice none 0 (.ex 0))), some 3, none⟩]) <|
  .seq (.reg [⟨.mov (.t 3), some 4, none⟩,
    ⟨.mov (.t 0), some 5, none⟩,
    ⟨.app (I.t 9) 1 (.t 4) (.t 5), some 6, none⟩,
    ⟨.mov (.t 6), some 3, none⟩]) <|
  .seq (.reg [⟨.mov (.t 3), some 7, none⟩,
    ⟨.bSl (I.t 9) 1 1 [(.str [])] [(0, (.v (.str [109, 97, 114, 107])))], some 8, none⟩,
    ⟨.app (I.t 9) 1 (.t 7) (.t 8), some 9, none⟩,
    ⟨.mov (.t 9), some 3, none⟩]) <|
  .seq (.reg [⟨.mov (.t 3), some 10, none⟩,
    ⟨.mov (.t 0), some 11, none⟩,
    ⟨.lenL (.t 11), some 12, none⟩,
    ⟨.slL (I.t 9) 1 (.t 10) none (some (.t 12)) none, some 13, none⟩,
    ⟨.mov (.t 13), some 2, none⟩]) <|
  .ret
-- 260 nt 14 res [.tmp 2] params [[]string]
/-- dovetail/dovetailkit.LentRules -/
def c261 (I : Ids) : IC :=
  .seq (.reg [⟨.mov (.v (.slice none 0 (.ex 0))), some 2, none⟩]) <|
  .seq (.reg [⟨.mov (.v (.slice none 0 (.ex 0))), some 3, none⟩]) <|
  .seq (.seq (.reg [⟨.mov (.v (.int .i64 0)), some 4, none⟩]) <|
   .block 0 <|
    .loop <|
     .seq (.seq (.reg [⟨.mov (.t 4), some 6, none⟩,
        ⟨.mov (.t 0), some 7, none⟩,
        ⟨.lenL (.t 7), some 8, none⟩,
        ⟨.bin .lss (.t 6) (.t 8), some 9, none⟩]) <|
      .cond (.t 9) (.skip)
       (.exit 0)) <|
     .seq (.block 1 <|
       .seq (.reg [⟨.mov (.t 0), some 12, none⟩,
         ⟨.mov (.t 4), some 13, none⟩,
         ⟨.ixL 2 (.t 12) (.t 13), some 14, none⟩,
         ⟨.fad 1 (.t 14), some 15, none⟩,
         ⟨.ld1 (.t 15), some 16, none⟩,
         ⟨.call (I.f 108) [(.t 16)], some 17, none⟩,
         ⟨.mov (.t 17), some 5, none⟩]) <|
       .reg [⟨.mov (.t 3), some 18, none⟩,
        ⟨.mov (.t 0), some 19, none⟩,
        ⟨.mov (.t 4), some 20, none⟩,
        ⟨.ixL 2 (.t 19) (.t 20), some 21, none⟩,
        ⟨.fad 0 (.t 21), some 22, none⟩,
        ⟨.ld1 (.t 22), some 23, none⟩,
        ⟨.mov (.t 5), some 24, none⟩,
        ⟨.bld [(.int .i64 0), (.slice none 0 (.ex 0))] [(0, 1, (.t 23)), (1, 1, (.t 24))], some 25, none⟩,
        ⟨.bSl (I.t 101) 2 1 [(.int .i64 0), (.slice none 0 (.ex 0))] [(0, (.t 25))], some 26, none⟩,
        ⟨.app (I.t 101) 2 (.t 18) (.t 26), some 27, none⟩,
        ⟨.mov (.t 27), some 3, none⟩]) <|
     .reg [⟨.mov (.t 4), some 10, none⟩,
      ⟨.bin .add (.t 10) (.v (.int .i64 1)), some 11, none⟩,
      ⟨.mov (.t 11), some 4, none⟩]) <|
  .seq (.reg [⟨.mov (.t 3), some 28, none⟩,
    ⟨.bld [(.int .i64 0), (.slice none 0 (.ex 0))] [(0, 1, (.v (.int .i64 (-7171))))], some 29, none⟩,
    ⟨.bSl (I.t 101) 2 1 [(.int .i64 0), (.slice none 0 (.ex 0))] [(0, (.t 29))], some 30, none⟩,
    ⟨.app (I.t 101) 2 (.t 28) (.t 30), some 31, none⟩,
    ⟨.mov (.t 31), some 3, none⟩]) <|
  .seq (.reg [⟨.mov (.t 3), some 32, none⟩,
    ⟨.mov (.t 0), some 33, none⟩,
    ⟨.lenL (.t 33), some 34, none⟩,
    ⟨.slL (I.t 101) 2 (.t 32) none (some (.t 34)) none, some 35, none⟩,
    ⟨.mov (.t 35), some 2, none⟩]) <|
  .ret
-- 261 nt 36 res [.tmp 2] params [[]api.Rule]
/-- dovetail/dovetailkit.KeptStrings -/
def c273 (I : Ids) : IC :=
  .seq (.reg [⟨.mov (.v (.bool false)), some 4, none⟩]) <|
  .seq (.reg [⟨.mov (.t 0), some 5, none⟩,
    ⟨.mov (.t 1), some 6, none⟩,
    ⟨.call (I.f 251) [(.t 5), (.t 6)], some 7, none⟩,
    ⟨.mov (.t 7), some 8, none⟩,
    ⟨.mov (.t 0), some 9, some (8, true)⟩,
    ⟨.mov (.t 0), some 10, some (8, true)⟩,
    ⟨.lenL (.t 10), some 11, some (8, true)⟩,
    ⟨.bin .add (.t 11) (.v (.int .i64 1)), some 12, some (8, true)⟩,
    ⟨.slL (I.t 9) 1 (.t 9) none (some (.t 12)) none, some 13, some (8, true)⟩,
    ⟨.mov (.t 0), some 14, some (8, true)⟩,
    ⟨.lenL (.t 14), some 15, some (8, true)⟩,
    ⟨.ixL 1 (.t 13) (.t 15), some 16, some (8, true)⟩,
    ⟨.ld1 (.t 16), some 17, some (8, true)⟩,
    ⟨.eqT 2 false (.t 17) (.v (.str [109, 97, 114, 107])), some 18, some (8, true)⟩,
    ⟨.pick (.t 8) (.t 18) (.v (.bool false)), some 19, none⟩,
    ⟨.mov (.t 19), some 4, none⟩]) <|
  .ret
-- 273 nt 20 res [.tmp 4] params [[]string, []string]
/-- dovetail/dovetailkit.KeptRules -/
def c274 (I : Ids) : IC :=
  .seq (.reg [⟨.mov (.v (.bool false)), some 4, none⟩]) <|
  .seq (.seq (.reg [⟨.mov (.t 0), some 6, none⟩,
     ⟨.lenL (.t 6), some 7, none⟩,
     ⟨.mov (.t 1), some 8, none⟩,
     ⟨.lenL (.t 8), some 9, none⟩,
     ⟨.eqT 1 true (.t 7) (.t 9), some 10, none⟩,
     ⟨.mov (.t 10), some 11, none⟩,
     ⟨.mov (.t 0), some 12, some (11, false)⟩,
     ⟨.mov (.t 0), some 13, some (11, false)⟩,
     ⟨.lenL (.t 13), some 14, some (11, false)⟩,
     ⟨.bin .add (.t 14) (.v (.int .i64 1)), some 15, some (11, false)⟩,
     ⟨.slL (I.t 101) 2 (.t 12) none (some (.t 15)) none, some 16, some (11, false)⟩,
     ⟨.mov (.t 0), some 17, some (11, false)⟩,
     ⟨.lenL (.t 17), some 18, some (11, false)⟩,
     ⟨.ixL 2 (.t 16) (.t 18), some 19, some (11, false)⟩,
     ⟨.fad 0 (.t 19), some 20, some (11, false)⟩,
     ⟨.ld1 (.t 20), some 21, some (11, false)⟩,
     ⟨.eqT 1 true (.t 21) (.v (.int .i64 (-7171))), some 22, some (11, false)⟩,
     ⟨.pick (.t 11) (.v (.bool true)) (.t 22), some 23, none⟩]) <|
   .cond (.t 23) (.seq (.reg [⟨.mov (.v (.bool false)), some 4, none⟩]) <|
    .ret)
    (.skip)) <|
  .seq (.seq (.reg [⟨.mov (.v (.int .i64 0)), some 5, none⟩]) <|
   .block 0 <|
    .loop <|
     .seq (.seq (.reg [⟨.mov (.t 5), some 24, none⟩,
        ⟨.mov (.t 0), some 25, none⟩,
        ⟨.lenL (.t 25), some 26, none⟩,
        ⟨.bin .lss (.t 24) (.t 26), some 27, none⟩]) <|
      .cond (.t 27) (.skip)
       (.exit 0)) <|
     .seq (.block 1 <|
       .seq (.drw [⟨.mov (.t 0), some 30, none⟩,
         ⟨.mov (.t 5), some 31, none⟩,
         ⟨.ixL 2 (.t 30) (.t 31), some 32, none⟩,
         ⟨.fad 0 (.t 32), some 33, none⟩,
         ⟨.ld1 (.t 33), some 34, none⟩,
         ⟨.mov (.t 1), some 35, none⟩,
         ⟨.mov (.t 5), some 36, none⟩,
         ⟨.ixL 2 (.t 35) (.t 36), some 37, none⟩,
         ⟨.fad 0 (.t 37), some 38, none⟩,
         ⟨.ld1 (.t 38), some 39, none⟩,
         ⟨.eqT 1 true (.t 34) (.t 39), some 40, none⟩,
         ⟨.mov (.t 40), some 41, none⟩,
         ⟨.mov (.t 0), some 42, some (41, false)⟩,
         ⟨.mov (.t 5), some 43, some (41, false)⟩,
         ⟨.ixL 2 (.t 42) (.t 43), some 44, some (41, false)⟩,
         ⟨.fad 1 (.t 44), some 45, some (41, false)⟩,
         ⟨.ld1 (.t 45), some 46, some (41, false)⟩,
         ⟨.mov (.t 1), some 47, some (41, false)⟩,
         ⟨.mov (.t 5), some 48, some (41, false)⟩,
         ⟨.ixL 2 (.t 47) (.t 48), some 49, some (41, false)⟩,
         ⟨.fad 1 (.t 49), some 50, some (41, false)⟩,
         ⟨.ld1 (.t 50), some 51, some (41, false)⟩,
         ⟨.call (I.f 111) [(.t 46), (.t 51)], some 52, some (41, false)⟩,
         ⟨.un .not (.t 52), some 53, some (41, false)⟩,
         ⟨.pick (.t 41) (.v (.bool true)) (.t 53), some 54, none⟩]) <|
       .cond (.t 54) (.seq (.reg [⟨.mov (.v (.bool false)), some 4, none⟩]) <|
        .ret)
        (.skip)) <|
     .reg [⟨.mov (.t 5), some 28, none⟩,
      ⟨.bin .add (.t 28) (.v (.int .i64 1)), some 29, none⟩,
      ⟨.mov (.t 29), some 5, none⟩]) <|
  .seq (.reg [⟨.mov (.v (.bool true)), some 4, none⟩]) <|
  .ret
-- 274 nt 55 res [.tmp 4] params [[]api.Rule, []api.Rule]
end Go.Vm
/- The kit's functions over lists of single cells: their code, of which that over ints and over strings is a case. -/
namespace Go.Vm
set_option maxRecDepth 100000
def gL1 (e : Nat) (z mk : V) : IC :=
  .seq (.reg [⟨.mov (.v (.slice none 0 (.ex 0))), some 2, none⟩]) <|
  .seq (.reg [⟨.mov (.v (.slice none 0 (.ex 0))), some 3, none⟩]) <|
  .seq (.reg [⟨.mov (.t 3), some 4, none⟩,
    ⟨.mov (.t 0), some 5, none⟩,
    ⟨.app e 1 (.t 4) (.t 5), some 6, none⟩,
    ⟨.mov (.t 6), some 3, none⟩]) <|
  .seq (.reg [⟨.mov (.t 3), some 7, none⟩,
    ⟨.bSl e 1 1 [z] [(0, (.v mk))], some 8, none⟩,
    ⟨.app e 1 (.t 7) (.t 8), some 9, none⟩,
    ⟨.mov (.t 9), some 3, none⟩]) <|
  .seq (.reg [⟨.mov (.t 3), some 10, none⟩,
    ⟨.mov (.t 0), some 11, none⟩,
    ⟨.lenL (.t 11), some 12, none⟩,
    ⟨.slL e 1 (.t 10) none (some (.t 12)) none, some 13, none⟩,
    ⟨.mov (.t 13), some 2, none⟩]) <|
  .ret
def gK1 (e fq kd : Nat) (mk : V) : IC :=
  .seq (.reg [⟨.mov (.v (.bool false)), some 4, none⟩]) <|
  .seq (.reg [⟨.mov (.t 0), some 5, none⟩,
    ⟨.mov (.t 1), some 6, none⟩,
    ⟨.call fq [(.t 5), (.t 6)], some 7, none⟩,
    ⟨.mov (.t 7), some 8, none⟩,
    ⟨.mov (.t 0), some 9, some (8, true)⟩,
    ⟨.mov (.t 0), some 10, some (8, true)⟩,
    ⟨.lenL (.t 10), some 11, some (8, true)⟩,
    ⟨.bin .add (.t 11) (.v (.int .i64 1)), some 12, some (8, true)⟩,
    ⟨.slL e 1 (.t 9) none (some (.t 12)) none, some 13, some (8, true)⟩,
    ⟨.mov (.t 0), some 14, some (8, true)⟩,
    ⟨.lenL (.t 14), some 15, some (8, true)⟩,
    ⟨.ixL 1 (.t 13) (.t 15), some 16, some (8, true)⟩,
    ⟨.ld1 (.t 16), some 17, some (8, true)⟩,
    ⟨.eqT kd false (.t 17) (.v mk), some 18, some (8, true)⟩,
    ⟨.pick (.t 8) (.t 18) (.v (.bool false)), some 19, none⟩,
    ⟨.mov (.t 19), some 4, none⟩]) <|
  .ret
def gE1 (kd : Nat) : IC :=
  .seq (.reg [⟨.mov (.v (.bool false)), some 4, none⟩]) <|
  .seq (.seq (.reg [⟨.mov (.t 0), some 6, none⟩,
     ⟨.lenL (.t 6), some 7, none⟩,
     ⟨.mov (.t 1), some 8, none⟩,
     ⟨.lenL (.t 8), some 9, none⟩,
     ⟨.eqT 1 true (.t 7) (.t 9), some 10, none⟩]) <|
   .cond (.t 10) (.seq (.reg [⟨.mov (.v (.bool false)), some 4, none⟩]) <|
    .ret)
    (.skip)) <|
  .seq (.seq (.reg [⟨.mov (.v (.int .i64 0)), some 5, none⟩]) <|
   .block 0 <|
    .loop <|
     .seq (.seq (.reg [⟨.mov (.t 5), some 11, none⟩,
        ⟨.mov (.t 0), some 12, none⟩,
        ⟨.lenL (.t 12), some 13, none⟩,
        ⟨.bin .lss (.t 11) (.t 13), some 14, none⟩]) <|
      .cond (.t 14) (.skip)
       (.exit 0)) <|
     .seq (.block 1 <|
       .seq (.drw [⟨.mov (.t 0), some 17, none⟩,
         ⟨.mov (.t 5), some 18, none⟩,
         ⟨.ixL 1 (.t 17) (.t 18), some 19, none⟩,
         ⟨.ld1 (.t 19), some 20, none⟩,
         ⟨.mov (.t 1), some 21, none⟩,
         ⟨.mov (.t 5), some 22, none⟩,
         ⟨.ixL 1 (.t 21) (.t 22), some 23, none⟩,
         ⟨.ld1 (.t 23), some 24, none⟩,
         ⟨.eqT kd true (.t 20) (.t 24), some 25, none⟩]) <|
       .cond (.t 25) (.seq (.reg [⟨.mov (.v (.bool false)), some 4, none⟩]) <|
        .ret)
        (.skip)) <|
     .reg [⟨.mov (.t 5), some 15, none⟩,
      ⟨.bin .add (.t 15) (.v (.int .i64 1)), some 16, none⟩,
      ⟨.mov (.t 16), some 5, none⟩]) <|
  .seq (.reg [⟨.mov (.v (.bool true)), some 4, none⟩]) <|
  .ret
end Go.Vm
/- The loops of kit.ApartInts. -/
namespace Go.Vm
set_option maxRecDepth 100000
def gB1 (I : Ids) : IC :=
   .block 0 <|
    .loop <|
     .seq (.seq (.reg [⟨.mov (.t 3), some 13, none⟩,
        ⟨.mov (.t 0), some 14, none⟩,
        ⟨.lenL (.t 14), some 15, none⟩,
        ⟨.bin .lss (.t 13) (.t 15), some 16, none⟩]) <|
      .cond (.t 16) (.skip)
       (.exit 0)) <|
     .seq (.block 1 <|
       .seq (.reg [⟨.mov (.v (.int .i64 0)), some 4, none⟩]) <|
       .block 2 <|
        .loop <|
         .seq (.seq (.reg [⟨.mov (.t 4), some 19, none⟩,
            ⟨.mov (.t 0), some 20, none⟩,
            ⟨.mov (.t 3), some 21, none⟩,
            ⟨.ixL 1 (.t 20) (.t 21), some 22, none⟩,
            ⟨.ld1 (.t 22), some 23, none⟩,
            ⟨.lenL (.t 23), some 24, none⟩,
            ⟨.bin .lss (.t 19) (.t 24), some 25, none⟩]) <|
          .cond (.t 25) (.skip)
           (.exit 2)) <|
         .seq (.block 3 <|
           .reg [⟨.mov (.t 0), some 28, none⟩,
            ⟨.mov (.t 3), some 29, none⟩,
            ⟨.ixL 1 (.t 28) (.t 29), some 30, none⟩,
            ⟨.ld1 (.t 30), some 31, none⟩,
            ⟨.mov (.t 4), some 32, none⟩,
            ⟨.mov (.t 3), some 33, none⟩,
            ⟨.bin .mul (.v (.int .i64 1000)) (.t 33), some 34, none⟩,
            ⟨.mov (.t 4), some 35, none⟩,
            ⟨.bin .add (.t 34) (.t 35), some 36, none⟩,
            ⟨.ixL 1 (.t 31) (.t 32), some 37, none⟩,
            ⟨.sto 1 (.t 37) (.t 36), none, none⟩]) <|
         .reg [⟨.mov (.t 4), some 26, none⟩,
          ⟨.bin .add (.t 26) (.v (.int .i64 1)), some 27, none⟩,
          ⟨.mov (.t 27), some 4, none⟩]) <|
     .reg [⟨.mov (.t 3), some 17, none⟩,
      ⟨.bin .add (.t 17) (.v (.int .i64 1)), some 18, none⟩,
      ⟨.mov (.t 18), some 3, none⟩]
def gB2 (I : Ids) : IC :=
   .block 4 <|
    .loop <|
     .seq (.seq (.reg [⟨.mov (.t 6), some 38, none⟩,
        ⟨.mov (.t 0), some 39, none⟩,
        ⟨.lenL (.t 39), some 40, none⟩,
        ⟨.bin .lss (.t 38) (.t 40), some 41, none⟩]) <|
      .cond (.t 41) (.skip)
       (.exit 4)) <|
     .seq (.block 5 <|
       .seq (.reg [⟨.mov (.t 0), some 44, none⟩,
         ⟨.mov (.t 6), some 45, none⟩,
         ⟨.ixL 1 (.t 44) (.t 45), some 46, none⟩,
         ⟨.ld1 (.t 46), some 47, none⟩,
         ⟨.mov (.t 47), some 7, none⟩]) <|
       .seq (.seq (.reg [⟨.mov (.v (.int .i64 0)), some 8, none⟩]) <|
        .block 6 <|
         .loop <|
          .seq (.seq (.reg [⟨.mov (.t 8), some 48, none⟩,
             ⟨.bin .lss (.t 48) (.v (.int .i64 30)), some 49, none⟩]) <|
           .cond (.t 49) (.skip)
            (.exit 6)) <|
          .seq (.block 7 <|
            .reg [⟨.mov (.t 7), some 52, none⟩,
             ⟨.mov (.t 6), some 53, none⟩,
             ⟨.bin .mul (.v (.int .i64 1000)) (.t 53), some 54, none⟩,
             ⟨.bin .add (.v (.int .i64 500000)) (.t 54), some 55, none⟩,
             ⟨.mov (.t 8), some 56, none⟩,
             ⟨.bin .add (.t 55) (.t 56), some 57, none⟩,
             ⟨.bSl (I.t 3) 1 1 [(.int .i64 0)] [(0, (.t 57))], some 58, none⟩,
             ⟨.app (I.t 3) 1 (.t 52) (.t 58), some 59, none⟩,
             ⟨.mov (.t 59), some 7, none⟩]) <|
          .reg [⟨.mov (.t 8), some 50, none⟩,
           ⟨.bin .add (.t 50) (.v (.int .i64 1)), some 51, none⟩,
           ⟨.mov (.t 51), some 8, none⟩]) <|
       .reg [⟨.mov (.t 5), some 60, none⟩,
        ⟨.mov (.t 7), some 61, none⟩,
        ⟨.bSl (I.t 69) 1 1 [(.slice none 0 (.ex 0))] [(0, (.t 61))], some 62, none⟩,
        ⟨.app (I.t 69) 1 (.t 60) (.t 62), some 63, none⟩,
        ⟨.mov (.t 63), some 5, none⟩]) <|
     .reg [⟨.mov (.t 6), some 42, none⟩,
      ⟨.bin .add (.t 42) (.v (.int .i64 1)), some 43, none⟩,
      ⟨.mov (.t 43), some 6, none⟩]
def gB3 (I : Ids) : IC :=
   .block 8 <|
    .loop <|
     .seq (.seq (.reg [⟨.mov (.t 9), some 64, none⟩,
        ⟨.mov (.t 0), some 65, none⟩,
        ⟨.lenL (.t 65), some 66, none⟩,
        ⟨.bin .lss (.t 64) (.t 66), some 67, none⟩]) <|
      .cond (.t 67) (.skip)
       (.exit 8)) <|
     .seq (.block 9 <|
       .seq (.reg [⟨.mov (.t 0), some 70, none⟩,
         ⟨.mov (.t 9), some 71, none⟩,
         ⟨.ixL 1 (.t 70) (.t 71), some 72, none⟩,
         ⟨.ld1 (.t 72), some 73, none⟩,
         ⟨.lenL (.t 73), some 74, none⟩,
         ⟨.mov (.t 74), some 10, none⟩]) <|
       .seq (.seq (.reg [⟨.mov (.v (.int .i64 0)), some 11, none⟩]) <|
        .block 10 <|
         .loop <|
          .seq (.seq (.reg [⟨.mov (.t 11), some 75, none⟩,
             ⟨.mov (.t 10), some 76, none⟩,
             ⟨.bin .lss (.t 75) (.t 76), some 77, none⟩]) <|
           .cond (.t 77) (.skip)
            (.exit 10)) <|
          .seq (.block 11 <|
            .seq (.reg [⟨.mov (.t 0), some 80, none⟩,
              ⟨.mov (.t 9), some 81, none⟩,
              ⟨.ixL 1 (.t 80) (.t 81), some 82, none⟩,
              ⟨.ld1 (.t 82), some 83, none⟩,
              ⟨.mov (.t 11), some 84, none⟩,
              ⟨.ixL 1 (.t 83) (.t 84), some 85, none⟩,
              ⟨.ld1 (.t 85), some 86, none⟩,
              ⟨.mov (.t 9), some 87, none⟩,
              ⟨.bin .mul (.v (.int .i64 1000)) (.t 87), some 88, none⟩,
              ⟨.mov (.t 11), some 89, none⟩,
              ⟨.bin .add (.t 88) (.t 89), some 90, none⟩,
              ⟨.eqT 1 true (.t 86) (.t 90), some 91, none⟩,
              ⟨.mov (.t 91), some 92, none⟩,
              ⟨.mov (.t 5), some 93, some (92, false)⟩,
              ⟨.mov (.t 9), some 94, some (92, false)⟩,
              ⟨.ixL 1 (.t 93) (.t 94), some 95, some (92, false)⟩,
              ⟨.ld1 (.t 95), some 96, some (92, false)⟩,
              ⟨.mov (.t 11), some 97, some (92, false)⟩,
              ⟨.ixL 1 (.t 96) (.t 97), some 98, some (92, false)⟩,
              ⟨.ld1 (.t 98), some 99, some (92, false)⟩,
              ⟨.mov (.t 9), some 100, some (92, false)⟩,
              ⟨.bin .mul (.v (.int .i64 1000)) (.t 100), some 101, some (92, false)⟩,
              ⟨.mov (.t 11), some 102, some (92, false)⟩,
              ⟨.bin .add (.t 101) (.t 102), some 103, some (92, false)⟩,
              ⟨.eqT 1 true (.t 99) (.t 103), some 104, some (92, false)⟩,
              ⟨.pick (.t 92) (.v (.bool true)) (.t 104), some 105, none⟩]) <|
            .cond (.t 105) (.seq (.reg [⟨.mov (.v (.bool false)), some 2, none⟩]) <|
             .ret)
             (.skip)) <|
          .reg [⟨.mov (.t 11), some 78, none⟩,
           ⟨.bin .add (.t 78) (.v (.int .i64 1)), some 79, none⟩,
           ⟨.mov (.t 79), some 11, none⟩]) <|
       .seq (.reg [⟨.mov (.v (.int .i64 0)), some 12, none⟩]) <|
       .block 12 <|
        .loop <|
         .seq (.seq (.reg [⟨.mov (.t 12), some 106, none⟩,
            ⟨.bin .lss (.t 106) (.v (.int .i64 30)), some 107, none⟩]) <|
          .cond (.t 107) (.skip)
           (.exit 12)) <|
         .seq (.block 13 <|
           .seq (.reg [⟨.mov (.t 5), some 110, none⟩,
             ⟨.mov (.t 9), some 111, none⟩,
             ⟨.ixL 1 (.t 110) (.t 111), some 112, none⟩,
             ⟨.ld1 (.t 112), some 113, none⟩,
             ⟨.mov (.t 10), some 114, none⟩,
             ⟨.mov (.t 12), some 115, none⟩,
             ⟨.bin .add (.t 114) (.t 115), some 116, none⟩,
             ⟨.ixL 1 (.t 113) (.t 116), some 117, none⟩,
             ⟨.ld1 (.t 117), some 118, none⟩,
             ⟨.mov (.t 9), some 119, none⟩,
             ⟨.bin .mul (.v (.int .i64 1000)) (.t 119), some 120, none⟩,
             ⟨.bin .add (.v (.int .i64 500000)) (.t 120), some 121, none⟩,
             ⟨.mov (.t 12), some 122, none⟩,
             ⟨.bin .add (.t 121) (.t 122), some 123, none⟩,
             ⟨.eqT 1 true (.t 118) (.t 123), some 124, none⟩]) <|
           .cond (.t 124) (.seq (.reg [⟨.mov (.v (.bool false)), some 2, none⟩]) <|
            .ret)
            (.skip)) <|
         .reg [⟨.mov (.t 12), some 108, none⟩,
          ⟨.bin .add (.t 108) (.v (.int .i64 1)), some 109, none⟩,
          ⟨.mov (.t 109), some 12, none⟩]) <|
     .reg [⟨.mov (.t 9), some 68, none⟩,
      ⟨.bin .add (.t 68) (.v (.int .i64 1)), some 69, none⟩,
      ⟨.mov (.t 69), some 9, none⟩]
theorem c140_is (I : Ids) : c140 I = (.seq (.reg [⟨.mov (.v (.bool false)), some 2, none⟩]) <|
  .seq (.seq (.reg [⟨.mov (.v (.int .i64 0)), some 3, none⟩]) (gB1 I)) <|
  .seq (.reg [⟨.mov (.v (.slice none 0 (.ex 0))), some 5, none⟩]) <|
  .seq (.seq (.reg [⟨.mov (.v (.int .i64 0)), some 6, none⟩]) (gB2 I)) <|
  .seq (.seq (.reg [⟨.mov (.v (.int .i64 0)), some 9, none⟩]) (gB3 I)) <|
  .seq (.reg [⟨.mov (.v (.bool true)), some 2, none⟩]) <|
  .ret) := rfl
end Go.Vm
