/- The code of functions, looked up; printed. -/
import Derived.Test.YtaccdnpmoghidaaGreatDoorWpUtil
set_option linter.unusedVariables false
set_option linter.unusedSimpArgs false
namespace Go.Vm
set_option maxRecDepth 100000
/-- dovetail/dovetaillaw20.ChunkMoves -/
def c28 (I : Ids) : IC :=
  .seq (.reg [⟨.box (I.t 177) (.t 0), some 2, none⟩,
    ⟨.mov (.v (.bool false)), some 4, none⟩]) <|
  .seq (.reg [⟨.ldN 4 (.t 2), some 12, none⟩,
    ⟨.call (I.f 161) [(.t 12)], some 13, none⟩,
    ⟨.alc (newBlk [(.int .i64 0), (.int .i64 0), (.slice none 0 (.ex 0)), (.slice none 0 (.ex 0))] (I.t 177)), some 5, none⟩,
    ⟨.sto 4 (.t 5) (.t 13), none, none⟩]) <|
  .seq (.reg [⟨.ldN 4 (.t 5), some 15, none⟩,
    ⟨.mov (.t 1), some 16, none⟩,
    ⟨.call (I.f 162) [(.t 15), (.t 16)], some 17, none⟩,
    ⟨.mov (.t 17), some 14, none⟩,
    ⟨.ext (.t 14) 0, some 18, none⟩,
    ⟨.ext (.t 14) 1, some 19, none⟩,
    ⟨.alc (newBlk [(.int .i64 0), (.int .i64 0), (.slice none 0 (.ex 0)), (.slice none 0 (.ex 0))] (I.t 177)), some 6, none⟩,
    ⟨.sto 4 (.t 6) (.t 18), none, none⟩,
    ⟨.mov (.t 19), some 7, none⟩]) <|
  .seq (.reg [⟨.ldN 4 (.t 5), some 21, none⟩,
    ⟨.mov (.t 1), some 22, none⟩,
    ⟨.call (I.f 162) [(.t 21), (.t 22)], some 23, none⟩,
    ⟨.mov (.t 23), some 20, none⟩,
    ⟨.ext (.t 20) 0, some 24, none⟩,
    ⟨.ext (.t 20) 1, some 25, none⟩,
    ⟨.alc (newBlk [(.int .i64 0), (.int .i64 0), (.slice none 0 (.ex 0)), (.slice none 0 (.ex 0))] (I.t 177)), some 8, none⟩,
    ⟨.sto 4 (.t 8) (.t 24), none, none⟩,
    ⟨.mov (.t 25), some 9, none⟩]) <|
  .seq (.reg [⟨.ldN 4 (.t 2), some 27, none⟩,
    ⟨.mov (.t 1), some 28, none⟩,
    ⟨.call (I.f 163) [(.t 27), (.t 28)], some 29, none⟩,
    ⟨.mov (.t 29), some 26, none⟩,
    ⟨.ext (.t 26) 0, some 30, none⟩,
    ⟨.ext (.t 26) 1, some 31, none⟩,
    ⟨.alc (newBlk [(.int .i64 0), (.int .i64 0), (.slice none 0 (.ex 0)), (.slice none 0 (.ex 0))] (I.t 177)), some 10, none⟩,
    ⟨.sto 4 (.t 10) (.t 30), none, none⟩,
    ⟨.mov (.t 31), some 11, none⟩]) <|
  .seq (.reg [⟨.mov (.t 7), some 32, none⟩,
    ⟨.call (I.f 73) [(.t 32)], some 33, none⟩,
    ⟨.mov (.t 11), some 34, none⟩,
    ⟨.eqT 1 false (.t 33) (.t 34), some 35, none⟩,
    ⟨.mov (.t 35), some 36, none⟩,
    ⟨.ldN 4 (.t 6), some 37, some (36, true)⟩,
    ⟨.ldN 4 (.t 10), some 38, some (36, true)⟩,
    ⟨.call (I.f 159) [(.t 37), (.t 38)], some 39, some (36, true)⟩,
    ⟨.pick (.t 36) (.t 39) (.v (.bool false)), some 40, none⟩,
    ⟨.mov (.t 40), some 41, none⟩,
    ⟨.ldN 4 (.t 8), some 42, some (41, true)⟩,
    ⟨.ldN 4 (.t 10), some 43, some (41, true)⟩,
    ⟨.call (I.f 159) [(.t 42), (.t 43)], some 44, some (41, true)⟩,
    ⟨.pick (.t 41) (.t 44) (.v (.bool false)), some 45, none⟩,
    ⟨.mov (.t 45), some 46, none⟩,
    ⟨.ldN 4 (.t 5), some 47, some (46, true)⟩,
    ⟨.ldN 4 (.t 2), some 48, some (46, true)⟩,
    ⟨.call (I.f 164) [(.t 47), (.t 48)], some 49, some (46, true)⟩,
    ⟨.pick (.t 46) (.t 49) (.v (.bool false)), some 50, none⟩,
    ⟨.mov (.t 50), some 51, none⟩,
    ⟨.ldN 4 (.t 6), some 52, some (51, true)⟩,
    ⟨.ldN 4 (.t 8), some 53, some (51, true)⟩,
    ⟨.bSl (I.t 177) 4 2 [(.int .i64 0), (.int .i64 0), (.slice none 0 (.ex 0)), (.slice none 0 (.ex 0))] [(0, (.t 52)), (1, (.t 53))], some 54, some (51, true)⟩,
    ⟨.call (I.f 160) [(.t 54)], some 55, some (51, true)⟩,
    ⟨.pick (.t 51) (.t 55) (.v (.bool false)), some 56, none⟩,
    ⟨.mov (.t 56), some 57, none⟩,
    ⟨.ldN 4 (.t 5), some 58, some (57, true)⟩,
    ⟨.ldN 4 (.t 2), some 59, some (57, true)⟩,
    ⟨.call (I.f 164) [(.t 58), (.t 59)], some 60, some (57, true)⟩,
    ⟨.pick (.t 57) (.t 60) (.v (.bool false)), some 61, none⟩,
    ⟨.mov (.t 61), some 62, none⟩,
    ⟨.call (I.f 156) [], some 63, some (62, true)⟩,
    ⟨.pick (.t 62) (.t 63) (.v (.bool false)), some 64, none⟩,
    ⟨.mov (.t 64), some 4, none⟩]) <|
  .ret
-- 28 nt 65 res [.tmp 4] params [api.Piece, int]
/-- dovetail/dovetailkit.LentSteps -/
def c66 (I : Ids) : IC :=
  .seq (.reg [⟨.mov (.v (.slice none 0 (.ex 0))), some 2, none⟩]) <|
  .seq (.reg [⟨.mov (.v (.slice none 0 (.ex 0))), some 3, none⟩]) <|
  .seq (.reg [⟨.mov (.t 3), some 4, none⟩,
    ⟨.mov (.t 0), some 5, none⟩,
    ⟨.app (I.t 163) 3 (.t 4) (.t 5), some 6, none⟩,
    ⟨.mov (.t 6), some 3, none⟩]) <|
  .seq (.reg [⟨.mov (.t 3), some 7, none⟩,
    ⟨.bld [(.int .i64 0), (.int .i64 0), (.int .i64 0)] [(0, 1, (.v (.int .i64 (-71))))], some 8, none⟩,
    ⟨.bSl (I.t 163) 3 1 [(.int .i64 0), (.int .i64 0), (.int .i64 0)] [(0, (.t 8))], some 9, none⟩,
    ⟨.app (I.t 163) 3 (.t 7) (.t 9), some 10, none⟩,
    ⟨.mov (.t 10), some 3, none⟩]) <|
  .seq (.reg [⟨.mov (.t 3), some 11, none⟩,
    ⟨.mov (.t 0), some 12, none⟩,
    ⟨.lenL (.t 12), some 13, none⟩,
    ⟨.slL (I.t 163) 3 (.t 11) none (some (.t 13)) none, some 14, none⟩,
    ⟨.mov (.t 14), some 2, none⟩]) <|
  .ret
-- 66 nt 15 res [.tmp 2] params [[]api.Step]
/-- dovetail/dovetailkit.KeptSteps -/
def c71 (I : Ids) : IC :=
  .seq (.reg [⟨.mov (.v (.bool false)), some 4, none⟩]) <|
  .seq (.reg [⟨.mov (.t 0), some 5, none⟩,
    ⟨.mov (.t 1), some 6, none⟩,
    ⟨.call (I.f 127) [(.t 5), (.t 6)], some 7, none⟩,
    ⟨.mov (.t 7), some 8, none⟩,
    ⟨.mov (.t 0), some 9, some (8, true)⟩,
    ⟨.mov (.t 0), some 10, some (8, true)⟩,
    ⟨.lenL (.t 10), some 11, some (8, true)⟩,
    ⟨.bin .add (.t 11) (.v (.int .i64 1)), some 12, some (8, true)⟩,
    ⟨.slL (I.t 163) 3 (.t 9) none (some (.t 12)) none, some 13, some (8, true)⟩,
    ⟨.mov (.t 0), some 14, some (8, true)⟩,
    ⟨.lenL (.t 14), some 15, some (8, true)⟩,
    ⟨.ixL 3 (.t 13) (.t 15), some 16, some (8, true)⟩,
    ⟨.ldN 3 (.t 16), some 17, some (8, true)⟩,
    ⟨.bld [(.int .i64 0), (.int .i64 0), (.int .i64 0)] [(0, 1, (.v (.int .i64 (-71))))], some 18, some (8, true)⟩,
    ⟨.eqA [1, 1, 1] false (.t 17) (.t 18), some 19, some (8, true)⟩,
    ⟨.pick (.t 8) (.t 19) (.v (.bool false)), some 20, none⟩,
    ⟨.mov (.t 20), some 4, none⟩]) <|
  .ret
-- 71 nt 21 res [.tmp 4] params [[]api.Step, []api.Step]
/-- dovetail/dovetailkit.Kind -/
def c73 (I : Ids) : IC :=
  .seq (.reg [⟨.mov (.v (.int .i64 0)), some 2, none⟩]) <|
  .seq (.seq (.reg [⟨.mov (.t 0), some 6, none⟩,
     ⟨.isN 1 false (.t 6), some 7, none⟩]) <|
   .cond (.t 7) (.seq (.reg [⟨.mov (.v (.int .i64 0)), some 2, none⟩]) <|
    .ret)
    (.skip)) <|
  .seq (.reg [⟨.ld1 (.v (.ptr (some (I.g 1, 0)))), some 8, none⟩,
    ⟨.ld1 (.v (.ptr (some (I.g 2, 0)))), some 9, none⟩,
    ⟨.ld1 (.v (.ptr (some (I.g 3, 0)))), some 10, none⟩,
    ⟨.ld1 (.v (.ptr (some (I.g 4, 0)))), some 11, none⟩,
    ⟨.ld1 (.v (.ptr (some (I.g 5, 0)))), some 12, none⟩,
    ⟨.ld1 (.v (.ptr (some (I.g 6, 0)))), some 13, none⟩,
    ⟨.ld1 (.v (.ptr (some (I.g 7, 0)))), some 14, none⟩,
    ⟨.ld1 (.v (.ptr (some (I.g 8, 0)))), some 15, none⟩,
    ⟨.ld1 (.v (.ptr (some (I.g 9, 0)))), some 16, none⟩,
    ⟨.ld1 (.v (.ptr (some (I.g 10, 0)))), some 17, none⟩,
    ⟨.ld1 (.v (.ptr (some (I.g 11, 0)))), some 18, none⟩,
    ⟨.ld1 (.v (.ptr (some (I.g 0, 0)))), some 19, none⟩,
    ⟨.ld1 (.v (.ptr (some (I.g 12, 0)))), some 20, none⟩,
    ⟨.ld1 (.v (.ptr (some (I.g 13, 0)))), some 21, none⟩,
    ⟨.ld1 (.v (.ptr (some (I.g 14, 0)))), some 22, none⟩,
    ⟨.bSl (I.t 38) 1 15 [.nilIface] [(0, (.t 8)), (1, (.t 9)), (2, (.t 10)), (3, (.t 11)), (4, (.t 12)), (5, (.t 13)), (6, (.t 14)), (7, (.t 15)), (8, (.t 16)), (9, (.t 17)), (10, (.t 18)), (11, (.t 19)), (12, (.t 20)), (13, (.t 21)), (14, (.t 22))], some 23, none⟩,
    ⟨.mov (.t 23), some 3, none⟩]) <|
  .seq (.reg [⟨.mov (.v (.int .i64 99)), some 4, none⟩]) <|
  .seq (.seq (.reg [⟨.mov (.v (.int .i64 0)), some 5, none⟩]) <|
   .block 0 <|
    .loop <|
     .seq (.seq (.reg [⟨.mov (.t 5), some 24, none⟩,
        ⟨.mov (.t 3), some 25, none⟩,
        ⟨.lenL (.t 25), some 26, none⟩,
        ⟨.bin .lss (.t 24) (.t 26), some 27, none⟩]) <|
      .cond (.t 27) (.skip)
       (.exit 0)) <|
     .seq (.block 1 <|
       .seq (.reg [⟨.mov (.t 0), some 30, none⟩,
         ⟨.mov (.t 3), some 31, none⟩,
         ⟨.mov (.t 5), some 32, none⟩,
         ⟨.ixL 1 (.t 31) (.t 32), some 33, none⟩,
         ⟨.ld1 (.t 33), some 34, none⟩,
         ⟨.call (I.f 281) [(.t 30), (.t 34)], some 35, none⟩]) <|
       .cond (.t 35) (.seq (.seq (.reg [⟨.mov (.t 4), some 36, none⟩,
           ⟨.eqT 1 true (.t 36) (.v (.int .i64 99)), some 37, none⟩]) <|
         .cond (.t 37) (.seq (.reg [⟨.mov (.v (.int .i64 98)), some 2, none⟩]) <|
          .ret)
          (.skip)) <|
        .reg [⟨.mov (.t 5), some 38, none⟩,
         ⟨.bin .add (.t 38) (.v (.int .i64 1)), some 39, none⟩,
         ⟨.mov (.t 39), some 4, none⟩])
        (.skip)) <|
     .reg [⟨.mov (.t 5), some 28, none⟩,
      ⟨.bin .add (.t 28) (.v (.int .i64 1)), some 29, none⟩,
      ⟨.mov (.t 29), some 5, none⟩]) <|
  .seq (.reg [⟨.mov (.t 4), some 40, none⟩,
    ⟨.mov (.t 40), some 2, none⟩]) <|
  .ret
-- 73 nt 41 res [.tmp 2] params [error]
/-- dovetail/dovetailkit.Steps -/
def c127 (I : Ids) : IC :=
  .seq (.reg [⟨.mov (.v (.bool false)), some 4, none⟩]) <|
  .seq (.seq (.reg [⟨.mov (.t 0), some 6, none⟩,
     ⟨.lenL (.t 6), some 7, none⟩,
     ⟨.mov (.t 1), some 8, none⟩,
     ⟨.lenL (.t 8), some 9, none⟩,
     ⟨.eqT 1 true (.t 7) (.t 9), some 10, none⟩]) <|
   .cond (.t 10) (.seq (.reg [⟨.mov (.v (.bool false)), some 4, none⟩]) <|
    .ret)
    (.skip)) <|
  .seq (.seq (.reg [⟨.mov (.v (.int .i64 0)), some 5, none⟩]) <|
   .block 0 <|
    .loop <|
     .seq (.seq (.reg [⟨.mov (.t 5), some 11, none⟩,
        ⟨.mov (.t 0), some 12, none⟩,
        ⟨.lenL (.t 12), some 13, none⟩,
        ⟨.bin .lss (.t 11) (.t 13), some 14, none⟩]) <|
      .cond (.t 14) (.skip)
       (.exit 0)) <|
     .seq (.block 1 <|
       .seq (.drw [⟨.mov (.t 0), some 17, none⟩,
         ⟨.mov (.t 5), some 18, none⟩,
         ⟨.ixL 3 (.t 17) (.t 18), some 19, none⟩,
         ⟨.ldN 3 (.t 19), some 20, none⟩,
         ⟨.mov (.t 1), some 21, none⟩,
         ⟨.mov (.t 5), some 22, none⟩,
         ⟨.ixL 3 (.t 21) (.t 22), some 23, none⟩,
         ⟨.ldN 3 (.t 23), some 24, none⟩,
         ⟨.eqA [1, 1, 1] true (.t 20) (.t 24), some 25, none⟩]) <|
       .cond (.t 25) (.seq (.reg [⟨.mov (.v (.bool false)), some 4, none⟩]) <|
        .ret)
        (.skip)) <|
     .reg [⟨.mov (.t 5), some 15, none⟩,
      ⟨.bin .add (.t 15) (.v (.int .i64 1)), some 16, none⟩,
      ⟨.mov (.t 16), some 5, none⟩]) <|
  .seq (.reg [⟨.mov (.v (.bool true)), some 4, none⟩]) <|
  .ret
-- 127 nt 26 res [.tmp 4] params [[]api.Step, []api.Step]
/-- dovetail/dovetailkit.ApartSteps -/
def c128 (I : Ids) : IC :=
  .seq (.reg [⟨.mov (.v (.bool false)), some 2, none⟩]) <|
  .seq (.seq (.reg [⟨.mov (.v (.int .i64 0)), some 3, none⟩]) <|
   .block 0 <|
    .loop <|
     .seq (.seq (.reg [⟨.mov (.t 3), some 13, none⟩,
        ⟨.mov (.t 0), some 14, none⟩,
        ⟨.lenL (.t 14), some 15, none⟩,
        ⟨.bin .lss (.t 13) (.t 15), some 16, none⟩]) <|
      .cond (.t 16) (.skip)
       (.exit 0)) <|
     .seq (.block 1 <|
       .seq (.reg [⟨.mov (.v (.int .i64 0)), some 4, none⟩]) <|
       .block 2 <|
        .loop <|
         .seq (.seq (.reg [⟨.mov (.t 4), some 19, none⟩,
            ⟨.mov (.t 0), some 20, none⟩,
            ⟨.mov (.t 3), some 21, none⟩,
            ⟨.ixL 1 (.t 20) (.t 21), some 22, none⟩,
            ⟨.ld1 (.t 22), some 23, none⟩,
            ⟨.lenL (.t 23), some 24, none⟩,
            ⟨.bin .lss (.t 19) (.t 24), some 25, none⟩]) <|
          .cond (.t 25) (.skip)
           (.exit 2)) <|
         .seq (.block 3 <|
           .reg [⟨.mov (.t 0), some 28, none⟩,
            ⟨.mov (.t 3), some 29, none⟩,
            ⟨.ixL 1 (.t 28) (.t 29), some 30, none⟩,
            ⟨.ld1 (.t 30), some 31, none⟩,
            ⟨.mov (.t 4), some 32, none⟩,
            ⟨.mov (.t 3), some 33, none⟩,
            ⟨.bin .mul (.v (.int .i64 1000)) (.t 33), some 34, none⟩,
            ⟨.mov (.t 4), some 35, none⟩,
            ⟨.bin .add (.t 34) (.t 35), some 36, none⟩,
            ⟨.bld [(.int .i64 0), (.int .i64 0), (.int .i64 0)] [(0, 1, (.t 36))], some 37, none⟩,
            ⟨.ixL 3 (.t 31) (.t 32), some 38, none⟩,
            ⟨.sto 3 (.t 38) (.t 37), none, none⟩]) <|
         .reg [⟨.mov (.t 4), some 26, none⟩,
          ⟨.bin .add (.t 26) (.v (.int .i64 1)), some 27, none⟩,
          ⟨.mov (.t 27), some 4, none⟩]) <|
     .reg [⟨.mov (.t 3), some 17, none⟩,
      ⟨.bin .add (.t 17) (.v (.int .i64 1)), some 18, none⟩,
      ⟨.mov (.t 18), some 3, none⟩]) <|
  .seq (.reg [⟨.mov (.v (.slice none 0 (.ex 0))), some 5, none⟩]) <|
  .seq (.seq (.reg [⟨.mov (.v (.int .i64 0)), some 6, none⟩]) <|
   .block 4 <|
    .loop <|
     .seq (.seq (.reg [⟨.mov (.t 6), some 39, none⟩,
        ⟨.mov (.t 0), some 40, none⟩,
        ⟨.lenL (.t 40), some 41, none⟩,
        ⟨.bin .lss (.t 39) (.t 41), some 42, none⟩]) <|
      .cond (.t 42) (.skip)
       (.exit 4)) <|
     .seq (.block 5 <|
       .seq (.reg [⟨.mov (.t 0), some 45, none⟩,
         ⟨.mov (.t 6), some 46, none⟩,
         ⟨.ixL 1 (.t 45) (.t 46), some 47, none⟩,
         ⟨.ld1 (.t 47), some 48, none⟩,
         ⟨.mov (.t 48), some 7, none⟩]) <|
       .seq (.seq (.reg [⟨.mov (.v (.int .i64 0)), some 8, none⟩]) <|
        .block 6 <|
         .loop <|
          .seq (.seq (.reg [⟨.mov (.t 8), some 49, none⟩,
             ⟨.bin .lss (.t 49) (.v (.int .i64 30)), some 50, none⟩]) <|
           .cond (.t 50) (.skip)
            (.exit 6)) <|
          .seq (.block 7 <|
            .reg [⟨.mov (.t 7), some 53, none⟩,
             ⟨.mov (.t 6), some 54, none⟩,
             ⟨.bin .mul (.v (.int .i64 1000)) (.t 54), some 55, none⟩,
             ⟨.bin .add (.v (.int .i64 500000)) (.t 55), some 56, none⟩,
             ⟨.mov (.t 8), some 57, none⟩,
             ⟨.bin .add (.t 56) (.t 57), some 58, none⟩,
             ⟨.bld [(.int .i64 0), (.int .i64 0), (.int .i64 0)] [(0, 1, (.t 58))], some 59, none⟩,
             ⟨.bSl (I.t 163) 3 1 [(.int .i64 0), (.int .i64 0), (.int .i64 0)] [(0, (.t 59))], some 60, none⟩,
             ⟨.app (I.t 163) 3 (.t 53) (.t 60), some 61, none⟩,
             ⟨.mov (.t 61), some 7, none⟩]) <|
          .reg [⟨.mov (.t 8), some 51, none⟩,
           ⟨.bin .add (.t 51) (.v (.int .i64 1)), some 52, none⟩,
           ⟨.mov (.t 52), some 8, none⟩]) <|
       .reg [⟨.mov (.t 5), some 62, none⟩,
        ⟨.mov (.t 7), some 63, none⟩,
        ⟨.bSl (I.t 34) 1 1 [(.slice none 0 (.ex 0))] [(0, (.t 63))], some 64, none⟩,
        ⟨.app (I.t 34) 1 (.t 62) (.t 64), some 65, none⟩,
        ⟨.mov (.t 65), some 5, none⟩]) <|
     .reg [⟨.mov (.t 6), some 43, none⟩,
      ⟨.bin .add (.t 43) (.v (.int .i64 1)), some 44, none⟩,
      ⟨.mov (.t 44), some 6, none⟩]) <|
  .seq (.seq (.reg [⟨.mov (.v (.int .i64 0)), some 9, none⟩]) <|
   .block 8 <|
    .loop <|
     .seq (.seq (.reg [⟨.mov (.t 9), some 66, none⟩,
        ⟨.mov (.t 0), some 67, none⟩,
        ⟨.lenL (.t 67), some 68, none⟩,
        ⟨.bin .lss (.t 66) (.t 68), some 69, none⟩]) <|
      .cond (.t 69) (.skip)
       (.exit 8)) <|
     .seq (.block 9 <|
       .seq (.reg [⟨.mov (.t 0), some 72, none⟩,
         ⟨.mov (.t 9), some 73, none⟩,
         ⟨.ixL 1 (.t 72) (.t 73), some 74, none⟩,
         ⟨.ld1 (.t 74), some 75, none⟩,
         ⟨.lenL (.t 75), some 76, none⟩,
         ⟨.mov (.t 76), some 10, none⟩]) <|
       .seq (.seq (.reg [⟨.mov (.v (.int .i64 0)), some 11, none⟩]) <|
        .block 10 <|
         .loop <|
          .seq (.seq (.reg [⟨.mov (.t 11), some 77, none⟩,
             ⟨.mov (.t 10), some 78, none⟩,
             ⟨.bin .lss (.t 77) (.t 78), some 79, none⟩]) <|
           .cond (.t 79) (.skip)
            (.exit 10)) <|
          .seq (.block 11 <|
            .seq (.reg [⟨.mov (.t 0), some 82, none⟩,
              ⟨.mov (.t 9), some 83, none⟩,
              ⟨.ixL 1 (.t 82) (.t 83), some 84, none⟩,
              ⟨.ld1 (.t 84), some 85, none⟩,
              ⟨.mov (.t 11), some 86, none⟩,
              ⟨.ixL 3 (.t 85) (.t 86), some 87, none⟩,
              ⟨.fad 0 (.t 87), some 88, none⟩,
              ⟨.ld1 (.t 88), some 89, none⟩,
              ⟨.mov (.t 9), some 90, none⟩,
              ⟨.bin .mul (.v (.int .i64 1000)) (.t 90), some 91, none⟩,
              ⟨.mov (.t 11), some 92, none⟩,
              ⟨.bin .add (.t 91) (.t 92), some 93, none⟩,
              ⟨.eqT 1 true (.t 89) (.t 93), some 94, none⟩,
              ⟨.mov (.t 94), some 95, none⟩,
              ⟨.mov (.t 5), some 96, some (95, false)⟩,
              ⟨.mov (.t 9), some 97, some (95, false)⟩,
              ⟨.ixL 1 (.t 96) (.t 97), some 98, some (95, false)⟩,
              ⟨.ld1 (.t 98), some 99, some (95, false)⟩,
              ⟨.mov (.t 11), some 100, some (95, false)⟩,
              ⟨.ixL 3 (.t 99) (.t 100), some 101, some (95, false)⟩,
              ⟨.fad 0 (.t 101), some 102, some (95, false)⟩,
              ⟨.ld1 (.t 102), some 103, some (95, false)⟩,
              ⟨.mov (.t 9), some 104, some (95, false)⟩,
              ⟨.bin .mul (.v (.int .i64 1000)) (.t 104), some 105, some (95, false)⟩,
              ⟨.mov (.t 11), some 106, some (95, false)⟩,
              ⟨.bin .add (.t 105) (.t 106), some 107, some (95, false)⟩,
              ⟨.eqT 1 true (.t 103) (.t 107), some 108, some (95, false)⟩,
              ⟨.pick (.t 95) (.v (.bool true)) (.t 108), some 109, none⟩]) <|
            .cond (.t 109) (.seq (.reg [⟨.mov (.v (.bool false)), some 2, none⟩]) <|
             .ret)
             (.skip)) <|
          .reg [⟨.mov (.t 11), some 80, none⟩,
           ⟨.bin .add (.t 80) (.v (.int .i64 1)), some 81, none⟩,
           ⟨.mov (.t 81), some 11, none⟩]) <|
       .seq (.reg [⟨.mov (.v (.int .i64 0)), some 12, none⟩]) <|
       .block 12 <|
        .loop <|
         .seq (.seq (.reg [⟨.mov (.t 12), some 110, none⟩,
            ⟨.bin .lss (.t 110) (.v (.int .i64 30)), some 111, none⟩]) <|
          .cond (.t 111) (.skip)
           (.exit 12)) <|
         .seq (.block 13 <|
           .seq (.reg [⟨.mov (.t 5), some 114, none⟩,
             ⟨.mov (.t 9), some 115, none⟩,
             ⟨.ixL 1 (.t 114) (.t 115), some 116, none⟩,
             ⟨.ld1 (.t 116), some 117, none⟩,
             ⟨.mov (.t 10), some 118, none⟩,
             ⟨.mov (.t 12), some 119, none⟩,
             ⟨.bin .add (.t 118) (.t 119), some 120, none⟩,
             ⟨.ixL 3 (.t 117) (.t 120), some 121, none⟩,
             ⟨.fad 0 (.t 121), some 122, none⟩,
             ⟨.ld1 (.t 122), some 123, none⟩,
             ⟨.mov (.t 9), some 124, none⟩,
             ⟨.bin .mul (.v (.int .i64 1000)) (.t 124), some 125, none⟩,
             ⟨.bin .add (.v (.int .i64 500000)) (.t 125), some 126, none⟩,
             ⟨.mov (.t 12), some 127, none⟩,
             ⟨.bin .add (.t 126) (.t 127), some 128, none⟩,
             ⟨.eqT 1 true (.t 123) (.t 128), some 129, none⟩]) <|
           .cond (.t 129) (.seq (.reg [⟨.mov (.v (.bool false)), some 2, none⟩]) <|
            .ret)
            (.skip)) <|
         .reg [⟨.mov (.t 12), some 112, none⟩,
          ⟨.bin .add (.t 112) (.v (.int .i64 1)), some 113, none⟩,
          ⟨.mov (.t 113), some 12, none⟩]) <|
     .reg [⟨.mov (.t 9), some 70, none⟩,
      ⟨.bin .add (.t 70) (.v (.int .i64 1)), some 71, none⟩,
      ⟨.mov (.t 71), some 9, none⟩]) <|
  .seq (.reg [⟨.mov (.v (.bool true)), some 2, none⟩]) <|
  .ret
-- 128 nt 130 res [.tmp 2] params [[][]api.Step]
/-- dovetail/dovetailkit.Piece -/
def c159 (I : Ids) : IC :=
  .seq (.reg [⟨.box (I.t 177) (.t 0), some 2, none⟩,
    ⟨.box (I.t 177) (.t 1), some 3, none⟩,
    ⟨.mov (.v (.bool false)), some 4, none⟩]) <|
  .seq (.reg [⟨.fad 0 (.t 2), some 5, none⟩,
    ⟨.ld1 (.t 5), some 6, none⟩,
    ⟨.fad 0 (.t 3), some 7, none⟩,
    ⟨.ld1 (.t 7), some 8, none⟩,
    ⟨.eqT 1 false (.t 6) (.t 8), some 9, none⟩,
    ⟨.mov (.t 9), some 10, none⟩,
    ⟨.fad 1 (.t 2), some 11, some (10, true)⟩,
    ⟨.ld1 (.t 11), some 12, some (10, true)⟩,
    ⟨.fad 1 (.t 3), some 13, some (10, true)⟩,
    ⟨.ld1 (.t 13), some 14, some (10, true)⟩,
    ⟨.eqT 1 false (.t 12) (.t 14), some 15, some (10, true)⟩,
    ⟨.pick (.t 10) (.t 15) (.v (.bool false)), some 16, none⟩,
    ⟨.mov (.t 16), some 17, none⟩,
    ⟨.fad 2 (.t 2), some 18, some (17, true)⟩,
    ⟨.ld1 (.t 18), some 19, some (17, true)⟩,
    ⟨.fad 2 (.t 3), some 20, some (17, true)⟩,
    ⟨.ld1 (.t 20), some 21, some (17, true)⟩,
    ⟨.call (I.f 387) [(.t 19), (.t 21)], some 22, some (17, true)⟩,
    ⟨.pick (.t 17) (.t 22) (.v (.bool false)), some 23, none⟩,
    ⟨.mov (.t 23), some 24, none⟩,
    ⟨.fad 3 (.t 2), some 25, some (24, true)⟩,
    ⟨.ld1 (.t 25), some 26, some (24, true)⟩,
    ⟨.fad 3 (.t 3), some 27, some (24, true)⟩,
    ⟨.ld1 (.t 27), some 28, some (24, true)⟩,
    ⟨.call (I.f 127) [(.t 26), (.t 28)], some 29, some (24, true)⟩,
    ⟨.pick (.t 24) (.t 29) (.v (.bool false)), some 30, none⟩,
    ⟨.mov (.t 30), some 4, none⟩]) <|
  .ret
-- 159 nt 31 res [.tmp 4] params [api.Piece, api.Piece]
/-- dovetail/dovetailkit.Pieces -/
def c160 (I : Ids) : IC :=
  .seq (.reg [⟨.mov (.v (.bool false)), some 2, none⟩]) <|
  .seq (.reg [⟨.mov (.v (.slice none 0 (.ex 0))), some 3, none⟩]) <|
  .seq (.reg [⟨.mov (.v (.slice none 0 (.ex 0))), some 4, none⟩]) <|
  .seq (.seq (.reg [⟨.mov (.v (.int .i64 0)), some 5, none⟩]) <|
   .block 0 <|
    .loop <|
     .seq (.seq (.reg [⟨.mov (.t 5), some 6, none⟩,
        ⟨.mov (.t 0), some 7, none⟩,
        ⟨.lenL (.t 7), some 8, none⟩,
        ⟨.bin .lss (.t 6) (.t 8), some 9, none⟩]) <|
      .cond (.t 9) (.skip)
       (.exit 0)) <|
     .seq (.block 1 <|
       .seq (.reg [⟨.mov (.t 3), some 12, none⟩,
         ⟨.mov (.t 0), some 13, none⟩,
         ⟨.mov (.t 5), some 14, none⟩,
         ⟨.ixL 4 (.t 13) (.t 14), some 15, none⟩,
         ⟨.fad 2 (.t 15), some 16, none⟩,
         ⟨.ld1 (.t 16), some 17, none⟩,
         ⟨.bSl (I.t 175) 1 1 [(.slice none 0 (.ex 0))] [(0, (.t 17))], some 18, none⟩,
         ⟨.app (I.t 175) 1 (.t 12) (.t 18), some 19, none⟩,
         ⟨.mov (.t 19), some 3, none⟩]) <|
       .reg [⟨.mov (.t 4), some 20, none⟩,
        ⟨.mov (.t 0), some 21, none⟩,
        ⟨.mov (.t 5), some 22, none⟩,
        ⟨.ixL 4 (.t 21) (.t 22), some 23, none⟩,
        ⟨.fad 3 (.t 23), some 24, none⟩,
        ⟨.ld1 (.t 24), some 25, none⟩,
        ⟨.bSl (I.t 34) 1 1 [(.slice none 0 (.ex 0))] [(0, (.t 25))], some 26, none⟩,
        ⟨.app (I.t 34) 1 (.t 20) (.t 26), some 27, none⟩,
        ⟨.mov (.t 27), some 4, none⟩]) <|
     .reg [⟨.mov (.t 5), some 10, none⟩,
      ⟨.bin .add (.t 10) (.v (.int .i64 1)), some 11, none⟩,
      ⟨.mov (.t 11), some 5, none⟩]) <|
  .seq (.reg [⟨.mov (.t 3), some 28, none⟩,
    ⟨.call (I.f 388) [(.t 28)], some 29, none⟩,
    ⟨.mov (.t 29), some 30, none⟩,
    ⟨.mov (.t 4), some 31, some (30, true)⟩,
    ⟨.call (I.f 128) [(.t 31)], some 32, some (30, true)⟩,
    ⟨.pick (.t 30) (.t 32) (.v (.bool false)), some 33, none⟩,
    ⟨.mov (.t 33), some 2, none⟩]) <|
  .ret
-- 160 nt 34 res [.tmp 2] params [[]api.Piece]
/-- dovetail/dovetailkit.LentPiece -/
def c161 (I : Ids) : IC :=
  .seq (.reg [⟨.box (I.t 177) (.t 0), some 1, none⟩,
    ⟨.alc (newBlk [(.int .i64 0), (.int .i64 0), (.slice none 0 (.ex 0)), (.slice none 0 (.ex 0))] (I.t 177)), some 2, none⟩]) <|
  .seq (.reg [⟨.fad 2 (.t 1), some 3, none⟩,
    ⟨.ld1 (.t 3), some 4, none⟩,
    ⟨.call (I.f 389) [(.t 4)], some 5, none⟩,
    ⟨.fad 2 (.t 1), some 6, none⟩,
    ⟨.sto 1 (.t 6) (.t 5), none, none⟩]) <|
  .seq (.reg [⟨.fad 3 (.t 1), some 7, none⟩,
    ⟨.ld1 (.t 7), some 8, none⟩,
    ⟨.call (I.f 66) [(.t 8)], some 9, none⟩,
    ⟨.fad 3 (.t 1), some 10, none⟩,
    ⟨.sto 1 (.t 10) (.t 9), none, none⟩]) <|
  .seq (.reg [⟨.ldN 4 (.t 1), some 11, none⟩,
    ⟨.sto 4 (.t 2) (.t 11), none, none⟩]) <|
  .ret
-- 161 nt 12 res [.cell 2 (I.t 177)] params [api.Piece]
/-- dovetail/chunk.Move -/
def c162 (I : Ids) : IC :=
  .seq (.reg [⟨.box (I.t 177) (.t 0), some 2, none⟩,
    ⟨.alc (newBlk [(.int .i64 0), (.int .i64 0), (.slice none 0 (.ex 0)), (.slice none 0 (.ex 0))] (I.t 177)), some 4, none⟩,
    ⟨.mov (.v .nilIface), some 5, none⟩]) <|
  .seq (.reg [⟨.mov (.t 1), some 10, none⟩,
    ⟨.bld [(.int .i64 0), (.bool false)] [(0, 1, (.t 10))], some 11, none⟩,
    ⟨.box (I.t 480) (.t 11), some 12, none⟩,
    ⟨.mov (.t 12), some 6, none⟩]) <|
  .seq (.reg [⟨.mov (.v (.func (I.f 390) [] [])), some 7, none⟩]) <|
  .seq (.drv [⟨⟨.fad 2 (.t 2), some 13, none⟩, 0, [], [], []⟩,
    ⟨⟨.ld1 (.t 13), some 14, none⟩, 1, [], [], []⟩,
    ⟨⟨.call (I.f 392) [(.t 14)], some 15, none⟩, 3, [], [], []⟩,
    ⟨⟨.call (I.f 391) [(.t 15)], some 16, none⟩, 3, [], [], []⟩,
    ⟨⟨.fad 3 (.t 2), some 17, none⟩, 0, [], [], []⟩,
    ⟨⟨.ld1 (.t 17), some 18, none⟩, 1, [2, 3], [], [(.t 17)]⟩,
    ⟨⟨.call (I.f 393) [(.t 18)], some 19, none⟩, 3, [], [], []⟩,
    ⟨⟨.call (I.f 358) [(.t 19)], some 20, none⟩, 3, [], [], []⟩,
    ⟨⟨.fad 2 (.t 2), some 21, none⟩, 0, [], [], []⟩,
    ⟨⟨.sto 1 (.t 21) (.t 16), none, none⟩, 3, [], [], []⟩,
    ⟨⟨.fad 3 (.t 2), some 22, none⟩, 0, [], [], []⟩,
    ⟨⟨.sto 1 (.t 22) (.t 20), none, none⟩, 3, [], [], []⟩]) <|
  .seq (.reg [⟨.mov (.t 7), some 23, none⟩,
    ⟨.mov (.t 6), some 24, none⟩,
    ⟨.fad 0 (.t 2), some 25, none⟩,
    ⟨.callv (.t 23) [(.t 24), (.t 25)], some 26, none⟩]) <|
  .seq (.reg [⟨.mov (.t 7), some 27, none⟩,
    ⟨.mov (.t 6), some 28, none⟩,
    ⟨.fad 1 (.t 2), some 29, none⟩,
    ⟨.callv (.t 27) [(.t 28), (.t 29)], some 30, none⟩]) <|
  .seq (.seq (.reg [⟨.fad 2 (.t 2), some 31, none⟩,
     ⟨.ld1 (.t 31), some 32, none⟩,
     ⟨.lenL (.t 32), some 33, none⟩,
     ⟨.mov (.v (.int .i64 0)), some 34, none⟩]) <|
   .block 0 <|
    .loop <|
     .seq (.reg [⟨.bin .lss (.t 34) (.t 33), some 35, none⟩]) <|
     .seq (.cond (.t 35) (.skip)
       (.exit 0)) <|
     .seq (.block 1 <|
       .seq (.reg [⟨.mov (.t 34), some 36, none⟩,
         ⟨.mov (.t 36), some 8, none⟩]) <|
       .seq (.reg [⟨.mov (.t 7), some 37, none⟩,
         ⟨.mov (.t 6), some 38, none⟩,
         ⟨.fad 2 (.t 2), some 39, none⟩,
         ⟨.ld1 (.t 39), some 40, none⟩,
         ⟨.mov (.t 8), some 41, none⟩,
         ⟨.ixL 4 (.t 40) (.t 41), some 42, none⟩,
         ⟨.fad 2 (.t 42), some 43, none⟩,
         ⟨.callv (.t 37) [(.t 38), (.t 43)], some 44, none⟩]) <|
       .reg [⟨.mov (.t 7), some 45, none⟩,
        ⟨.mov (.t 6), some 46, none⟩,
        ⟨.fad 2 (.t 2), some 47, none⟩,
        ⟨.ld1 (.t 47), some 48, none⟩,
        ⟨.mov (.t 8), some 49, none⟩,
        ⟨.ixL 4 (.t 48) (.t 49), some 50, none⟩,
        ⟨.fad 3 (.t 50), some 51, none⟩,
        ⟨.callv (.t 45) [(.t 46), (.t 51)], some 52, none⟩]) <|
     .reg [⟨.bin .add (.t 34) (.v (.int .i64 1)), some 53, none⟩,
      ⟨.mov (.t 53), some 34, none⟩]) <|
  .seq (.seq (.reg [⟨.fad 3 (.t 2), some 54, none⟩,
     ⟨.ld1 (.t 54), some 55, none⟩,
     ⟨.lenL (.t 55), some 56, none⟩,
     ⟨.mov (.v (.int .i64 0)), some 57, none⟩]) <|
   .block 2 <|
    .loop <|
     .seq (.reg [⟨.bin .lss (.t 57) (.t 56), some 58, none⟩]) <|
     .seq (.cond (.t 58) (.skip)
       (.exit 2)) <|
     .seq (.block 3 <|
       .seq (.reg [⟨.mov (.t 57), some 59, none⟩,
         ⟨.mov (.t 59), some 9, none⟩]) <|
       .seq (.reg [⟨.mov (.t 7), some 60, none⟩,
         ⟨.mov (.t 6), some 61, none⟩,
         ⟨.fad 3 (.t 2), some 62, none⟩,
         ⟨.ld1 (.t 62), some 63, none⟩,
         ⟨.mov (.t 9), some 64, none⟩,
         ⟨.ixL 3 (.t 63) (.t 64), some 65, none⟩,
         ⟨.fad 1 (.t 65), some 66, none⟩,
         ⟨.callv (.t 60) [(.t 61), (.t 66)], some 67, none⟩]) <|
       .reg [⟨.mov (.t 7), some 68, none⟩,
        ⟨.mov (.t 6), some 69, none⟩,
        ⟨.fad 3 (.t 2), some 70, none⟩,
        ⟨.ld1 (.t 70), some 71, none⟩,
        ⟨.mov (.t 9), some 72, none⟩,
        ⟨.ixL 3 (.t 71) (.t 72), some 73, none⟩,
        ⟨.fad 2 (.t 73), some 74, none⟩,
        ⟨.callv (.t 68) [(.t 69), (.t 74)], some 75, none⟩]) <|
     .reg [⟨.bin .add (.t 57) (.v (.int .i64 1)), some 76, none⟩,
      ⟨.mov (.t 76), some 57, none⟩]) <|
  .seq (.seq (.reg [⟨.mov (.t 6), some 77, none⟩,
     ⟨.nilCheck (.t 77), some 78, none⟩,
     ⟨.fad 1 (.t 78), some 79, none⟩,
     ⟨.ld1 (.t 79), some 80, none⟩]) <|
   .cond (.t 80) (.seq (.drv [⟨⟨.bld [(.int .i64 0), (.int .i64 0), (.slice none 0 (.ex 0)), (.slice none 0 (.ex 0))] [], some 81, none⟩, 0, [], [], []⟩,
      ⟨⟨.ld1 (.v (.ptr (some (I.g 0, 0)))), some 82, none⟩, 1, [], [], []⟩,
      ⟨⟨.sto 4 (.t 4) (.t 81), none, none⟩, 3, [], [1], []⟩,
      ⟨⟨.mov (.t 82), some 5, none⟩, 0, [], [], []⟩]) <|
    .ret)
    (.skip)) <|
  .seq (.reg [⟨.ldN 4 (.t 2), some 83, none⟩,
    ⟨.sto 4 (.t 4) (.t 83), none, none⟩,
    ⟨.mov (.v .nilIface), some 5, none⟩]) <|
  .ret
-- 162 nt 84 res [.cell 4 (I.t 177), .tmp 5] params [api.Piece, int]
/-- dovetail/dovetailref20.Move -/
def c163 (I : Ids) : IC :=
  .seq (.reg [⟨.box (I.t 177) (.t 0), some 2, none⟩,
    ⟨.alc (newBlk [(.int .i64 0), (.int .i64 0), (.slice none 0 (.ex 0)), (.slice none 0 (.ex 0))] (I.t 177)), some 4, none⟩,
    ⟨.mov (.v (.int .i64 0)), some 5, none⟩]) <|
  .seq (.reg [⟨.alc (newBlk [(.int .i64 0), (.int .i64 0), (.slice none 0 (.ex 0)), (.slice none 0 (.ex 0))] (I.t 177)), some 6, none⟩]) <|
  .seq (.reg [⟨.fad 0 (.t 2), some 25, none⟩,
    ⟨.ld1 (.t 25), some 26, none⟩,
    ⟨.mov (.t 1), some 27, none⟩,
    ⟨.call (I.f 394) [(.t 26), (.t 27)], some 28, none⟩,
    ⟨.mov (.t 28), some 24, none⟩,
    ⟨.ext (.t 24) 0, some 29, none⟩,
    ⟨.ext (.t 24) 1, some 30, none⟩,
    ⟨.mov (.t 29), some 7, none⟩,
    ⟨.mov (.t 30), some 8, none⟩]) <|
  .seq (.reg [⟨.fad 1 (.t 2), some 32, none⟩,
    ⟨.ld1 (.t 32), some 33, none⟩,
    ⟨.mov (.t 1), some 34, none⟩,
    ⟨.call (I.f 394) [(.t 33), (.t 34)], some 35, none⟩,
    ⟨.mov (.t 35), some 31, none⟩,
    ⟨.ext (.t 31) 0, some 36, none⟩,
    ⟨.ext (.t 31) 1, some 37, none⟩,
    ⟨.mov (.t 36), some 9, none⟩,
    ⟨.mov (.t 37), some 10, none⟩]) <|
  .seq (.reg [⟨.mov (.t 7), some 38, none⟩,
    ⟨.fad 0 (.t 6), some 39, none⟩,
    ⟨.sto 1 (.t 39) (.t 38), none, none⟩]) <|
  .seq (.reg [⟨.mov (.t 9), some 40, none⟩,
    ⟨.fad 1 (.t 6), some 41, none⟩,
    ⟨.sto 1 (.t 41) (.t 40), none, none⟩]) <|
  .seq (.reg [⟨.mov (.t 8), some 42, none⟩,
    ⟨.mov (.t 42), some 43, none⟩,
    ⟨.mov (.t 10), some 44, some (43, true)⟩,
    ⟨.pick (.t 43) (.t 44) (.v (.bool false)), some 45, none⟩,
    ⟨.mov (.t 45), some 11, none⟩]) <|
  .seq (.seq (.reg [⟨.mov (.v (.int .i64 0)), some 12, none⟩]) <|
   .block 0 <|
    .loop <|
     .seq (.seq (.reg [⟨.mov (.t 12), some 46, none⟩,
        ⟨.fad 2 (.t 2), some 47, none⟩,
        ⟨.ld1 (.t 47), some 48, none⟩,
        ⟨.lenL (.t 48), some 49, none⟩,
        ⟨.bin .lss (.t 46) (.t 49), some 50, none⟩]) <|
      .cond (.t 50) (.skip)
       (.exit 0)) <|
     .seq (.block 1 <|
       .seq (.reg [⟨.fad 2 (.t 2), some 53, none⟩,
         ⟨.ld1 (.t 53), some 54, none⟩,
         ⟨.mov (.t 12), some 55, none⟩,
         ⟨.ixL 4 (.t 54) (.t 55), some 56, none⟩,
         ⟨.ldN 4 (.t 56), some 57, none⟩,
         ⟨.alc (newBlk [(.int .i64 0), (.int .i64 0), (.int .i64 0), (.int .i64 0)] (I.t 197)), some 13, none⟩,
         ⟨.sto 4 (.t 13) (.t 57), none, none⟩]) <|
       .seq (.reg [⟨.fad 2 (.t 13), some 59, none⟩,
         ⟨.ld1 (.t 59), some 60, none⟩,
         ⟨.mov (.t 1), some 61, none⟩,
         ⟨.call (I.f 394) [(.t 60), (.t 61)], some 62, none⟩,
         ⟨.mov (.t 62), some 58, none⟩,
         ⟨.ext (.t 58) 0, some 63, none⟩,
         ⟨.ext (.t 58) 1, some 64, none⟩,
         ⟨.mov (.t 63), some 14, none⟩,
         ⟨.mov (.t 64), some 15, none⟩]) <|
       .seq (.reg [⟨.fad 3 (.t 13), some 66, none⟩,
         ⟨.ld1 (.t 66), some 67, none⟩,
         ⟨.mov (.t 1), some 68, none⟩,
         ⟨.call (I.f 394) [(.t 67), (.t 68)], some 69, none⟩,
         ⟨.mov (.t 69), some 65, none⟩,
         ⟨.ext (.t 65) 0, some 70, none⟩,
         ⟨.ext (.t 65) 1, some 71, none⟩,
         ⟨.mov (.t 70), some 16, none⟩,
         ⟨.mov (.t 71), some 17, none⟩]) <|
       .seq (.reg [⟨.mov (.t 14), some 72, none⟩,
         ⟨.fad 2 (.t 13), some 73, none⟩,
         ⟨.sto 1 (.t 73) (.t 72), none, none⟩]) <|
       .seq (.reg [⟨.mov (.t 16), some 74, none⟩,
         ⟨.fad 3 (.t 13), some 75, none⟩,
         ⟨.sto 1 (.t 75) (.t 74), none, none⟩]) <|
       .seq (.reg [⟨.mov (.t 11), some 76, none⟩,
         ⟨.mov (.t 76), some 77, none⟩,
         ⟨.mov (.t 15), some 78, some (77, true)⟩,
         ⟨.pick (.t 77) (.t 78) (.v (.bool false)), some 79, none⟩,
         ⟨.mov (.t 79), some 80, none⟩,
         ⟨.mov (.t 17), some 81, some (80, true)⟩,
         ⟨.pick (.t 80) (.t 81) (.v (.bool false)), some 82, none⟩,
         ⟨.mov (.t 82), some 11, none⟩]) <|
       .reg [⟨.fad 2 (.t 6), some 83, none⟩,
        ⟨.ld1 (.t 83), some 84, none⟩,
        ⟨.ldN 4 (.t 13), some 85, none⟩,
        ⟨.bSl (I.t 197) 4 1 [(.int .i64 0), (.int .i64 0), (.int .i64 0), (.int .i64 0)] [(0, (.t 85))], some 86, none⟩,
        ⟨.app (I.t 197) 4 (.t 84) (.t 86), some 87, none⟩,
        ⟨.fad 2 (.t 6), some 88, none⟩,
        ⟨.sto 1 (.t 88) (.t 87), none, none⟩]) <|
     .reg [⟨.mov (.t 12), some 51, none⟩,
      ⟨.bin .add (.t 51) (.v (.int .i64 1)), some 52, none⟩,
      ⟨.mov (.t 52), some 12, none⟩]) <|
  .seq (.seq (.reg [⟨.mov (.v (.int .i64 0)), some 18, none⟩]) <|
   .block 2 <|
    .loop <|
     .seq (.seq (.reg [⟨.mov (.t 18), some 89, none⟩,
        ⟨.fad 3 (.t 2), some 90, none⟩,
        ⟨.ld1 (.t 90), some 91, none⟩,
        ⟨.lenL (.t 91), some 92, none⟩,
        ⟨.bin .lss (.t 89) (.t 92), some 93, none⟩]) <|
      .cond (.t 93) (.skip)
       (.exit 2)) <|
     .seq (.block 3 <|
       .seq (.reg [⟨.fad 3 (.t 2), some 96, none⟩,
         ⟨.ld1 (.t 96), some 97, none⟩,
         ⟨.mov (.t 18), some 98, none⟩,
         ⟨.ixL 3 (.t 97) (.t 98), some 99, none⟩,
         ⟨.ldN 3 (.t 99), some 100, none⟩,
         ⟨.alc (newBlk [(.int .i64 0), (.int .i64 0), (.int .i64 0)] (I.t 163)), some 19, none⟩,
         ⟨.sto 3 (.t 19) (.t 100), none, none⟩]) <|
       .seq (.reg [⟨.fad 1 (.t 19), some 102, none⟩,
         ⟨.ld1 (.t 102), some 103, none⟩,
         ⟨.mov (.t 1), some 104, none⟩,
         ⟨.call (I.f 394) [(.t 103), (.t 104)], some 105, none⟩,
         ⟨.mov (.t 105), some 101, none⟩,
         ⟨.ext (.t 101) 0, some 106, none⟩,
         ⟨.ext (.t 101) 1, some 107, none⟩,
         ⟨.mov (.t 106), some 20, none⟩,
         ⟨.mov (.t 107), some 21, none⟩]) <|
       .seq (.reg [⟨.fad 2 (.t 19), some 109, none⟩,
         ⟨.ld1 (.t 109), some 110, none⟩,
         ⟨.mov (.t 1), some 111, none⟩,
         ⟨.call (I.f 394) [(.t 110), (.t 111)], some 112, none⟩,
         ⟨.mov (.t 112), some 108, none⟩,
         ⟨.ext (.t 108) 0, some 113, none⟩,
         ⟨.ext (.t 108) 1, some 114, none⟩,
         ⟨.mov (.t 113), some 22, none⟩,
         ⟨.mov (.t 114), some 23, none⟩]) <|
       .seq (.reg [⟨.mov (.t 20), some 115, none⟩,
         ⟨.fad 1 (.t 19), some 116, none⟩,
         ⟨.sto 1 (.t 116) (.t 115), none, none⟩]) <|
       .seq (.reg [⟨.mov (.t 22), some 117, none⟩,
         ⟨.fad 2 (.t 19), some 118, none⟩,
         ⟨.sto 1 (.t 118) (.t 117), none, none⟩]) <|
       .seq (.reg [⟨.mov (.t 11), some 119, none⟩,
         ⟨.mov (.t 119), some 120, none⟩,
         ⟨.mov (.t 21), some 121, some (120, true)⟩,
         ⟨.pick (.t 120) (.t 121) (.v (.bool false)), some 122, none⟩,
         ⟨.mov (.t 122), some 123, none⟩,
         ⟨.mov (.t 23), some 124, some (123, true)⟩,
         ⟨.pick (.t 123) (.t 124) (.v (.bool false)), some 125, none⟩,
         ⟨.mov (.t 125), some 11, none⟩]) <|
       .reg [⟨.fad 3 (.t 6), some 126, none⟩,
        ⟨.ld1 (.t 126), some 127, none⟩,
        ⟨.ldN 3 (.t 19), some 128, none⟩,
        ⟨.bSl (I.t 163) 3 1 [(.int .i64 0), (.int .i64 0), (.int .i64 0)] [(0, (.t 128))], some 129, none⟩,
        ⟨.app (I.t 163) 3 (.t 127) (.t 129), some 130, none⟩,
        ⟨.fad 3 (.t 6), some 131, none⟩,
        ⟨.sto 1 (.t 131) (.t 130), none, none⟩]) <|
     .reg [⟨.mov (.t 18), some 94, none⟩,
      ⟨.bin .add (.t 94) (.v (.int .i64 1)), some 95, none⟩,
      ⟨.mov (.t 95), some 18, none⟩]) <|
  .seq (.seq (.reg [⟨.mov (.t 11), some 132, none⟩,
     ⟨.un .not (.t 132), some 133, none⟩]) <|
   .cond (.t 133) (.seq (.reg [⟨.bld [(.int .i64 0), (.int .i64 0), (.slice none 0 (.ex 0)), (.slice none 0 (.ex 0))] [], some 134, none⟩,
      ⟨.sto 4 (.t 4) (.t 134), none, none⟩,
      ⟨.mov (.v (.int .i64 12)), some 5, none⟩]) <|
    .ret)
    (.skip)) <|
  .seq (.reg [⟨.ldN 4 (.t 6), some 135, none⟩,
    ⟨.sto 4 (.t 4) (.t 135), none, none⟩,
    ⟨.mov (.v (.int .i64 0)), some 5, none⟩]) <|
  .ret
-- 163 nt 136 res [.cell 4 (I.t 177), .tmp 5] params [api.Piece, int]
/-- dovetail/dovetailkit.KeptPiece -/
def c164 (I : Ids) : IC :=
  .seq (.reg [⟨.box (I.t 177) (.t 0), some 2, none⟩,
    ⟨.box (I.t 177) (.t 1), some 3, none⟩,
    ⟨.mov (.v (.bool false)), some 4, none⟩]) <|
  .seq (.reg [⟨.fad 0 (.t 2), some 5, none⟩,
    ⟨.ld1 (.t 5), some 6, none⟩,
    ⟨.fad 0 (.t 3), some 7, none⟩,
    ⟨.ld1 (.t 7), some 8, none⟩,
    ⟨.eqT 1 false (.t 6) (.t 8), some 9, none⟩,
    ⟨.mov (.t 9), some 10, none⟩,
    ⟨.fad 1 (.t 2), some 11, some (10, true)⟩,
    ⟨.ld1 (.t 11), some 12, some (10, true)⟩,
    ⟨.fad 1 (.t 3), some 13, some (10, true)⟩,
    ⟨.ld1 (.t 13), some 14, some (10, true)⟩,
    ⟨.eqT 1 false (.t 12) (.t 14), some 15, some (10, true)⟩,
    ⟨.pick (.t 10) (.t 15) (.v (.bool false)), some 16, none⟩,
    ⟨.mov (.t 16), some 17, none⟩,
    ⟨.fad 2 (.t 2), some 18, some (17, true)⟩,
    ⟨.ld1 (.t 18), some 19, some (17, true)⟩,
    ⟨.fad 2 (.t 3), some 20, some (17, true)⟩,
    ⟨.ld1 (.t 20), some 21, some (17, true)⟩,
    ⟨.call (I.f 395) [(.t 19), (.t 21)], some 22, some (17, true)⟩,
    ⟨.pick (.t 17) (.t 22) (.v (.bool false)), some 23, none⟩,
    ⟨.mov (.t 23), some 24, none⟩,
    ⟨.fad 3 (.t 2), some 25, some (24, true)⟩,
    ⟨.ld1 (.t 25), some 26, some (24, true)⟩,
    ⟨.fad 3 (.t 3), some 27, some (24, true)⟩,
    ⟨.ld1 (.t 27), some 28, some (24, true)⟩,
    ⟨.call (I.f 71) [(.t 26), (.t 28)], some 29, some (24, true)⟩,
    ⟨.pick (.t 24) (.t 29) (.v (.bool false)), some 30, none⟩,
    ⟨.mov (.t 30), some 4, none⟩]) <|
  .ret
-- 164 nt 31 res [.tmp 4] params [api.Piece, api.Piece]
/-- slices.Clip[[]dovetail/api.Step,dovetail/api.Step] -/
def c358 (I : Ids) : IC :=
  .seq (.reg [⟨.mov (.v (.slice none 0 (.ex 0))), some 2, none⟩]) <|
  .seq (.reg [⟨.mov (.t 0), some 3, none⟩,
    ⟨.mov (.t 0), some 4, none⟩,
    ⟨.lenL (.t 4), some 5, none⟩,
    ⟨.mov (.t 0), some 6, none⟩,
    ⟨.lenL (.t 6), some 7, none⟩,
    ⟨.slL (I.t 163) 3 (.t 3) none (some (.t 5)) (some (.t 7)), some 8, none⟩,
    ⟨.mov (.t 8), some 2, none⟩]) <|
  .ret
-- 358 nt 9 res [.tmp 2] params [[]api.Step]
/-- dovetail/dovetailkit.Items -/
def c387 (I : Ids) : IC :=
  .seq (.reg [⟨.mov (.v (.bool false)), some 4, none⟩]) <|
  .seq (.seq (.reg [⟨.mov (.t 0), some 6, none⟩,
     ⟨.lenL (.t 6), some 7, none⟩,
     ⟨.mov (.t 1), some 8, none⟩,
     ⟨.lenL (.t 8), some 9, none⟩,
     ⟨.eqT 1 true (.t 7) (.t 9), some 10, none⟩]) <|
   .cond (.t 10) (.seq (.reg [⟨.mov (.v (.bool false)), some 4, none⟩]) <|
    .ret)
    (.skip)) <|
  .seq (.seq (.reg [⟨.mov (.v (.int .i64 0)), some 5, none⟩]) <|
   .block 0 <|
    .loop <|
     .seq (.seq (.reg [⟨.mov (.t 5), some 11, none⟩,
        ⟨.mov (.t 0), some 12, none⟩,
        ⟨.lenL (.t 12), some 13, none⟩,
        ⟨.bin .lss (.t 11) (.t 13), some 14, none⟩]) <|
      .cond (.t 14) (.skip)
       (.exit 0)) <|
     .seq (.block 1 <|
       .seq (.drw [⟨.mov (.t 0), some 17, none⟩,
         ⟨.mov (.t 5), some 18, none⟩,
         ⟨.ixL 4 (.t 17) (.t 18), some 19, none⟩,
         ⟨.ldN 4 (.t 19), some 20, none⟩,
         ⟨.mov (.t 1), some 21, none⟩,
         ⟨.mov (.t 5), some 22, none⟩,
         ⟨.ixL 4 (.t 21) (.t 22), some 23, none⟩,
         ⟨.ldN 4 (.t 23), some 24, none⟩,
         ⟨.eqA [1, 1, 1, 1] true (.t 20) (.t 24), some 25, none⟩]) <|
       .cond (.t 25) (.seq (.reg [⟨.mov (.v (.bool false)), some 4, none⟩]) <|
        .ret)
        (.skip)) <|
     .reg [⟨.mov (.t 5), some 15, none⟩,
      ⟨.bin .add (.t 15) (.v (.int .i64 1)), some 16, none⟩,
      ⟨.mov (.t 16), some 5, none⟩]) <|
  .seq (.reg [⟨.mov (.v (.bool true)), some 4, none⟩]) <|
  .ret
-- 387 nt 26 res [.tmp 4] params [[]api.Item, []api.Item]
/-- dovetail/dovetailkit.ApartItems -/
def c388 (I : Ids) : IC :=
  .seq (.reg [⟨.mov (.v (.bool false)), some 2, none⟩]) <|
  .seq (.seq (.reg [⟨.mov (.v (.int .i64 0)), some 3, none⟩]) <|
   .block 0 <|
    .loop <|
     .seq (.seq (.reg [⟨.mov (.t 3), some 13, none⟩,
        ⟨.mov (.t 0), some 14, none⟩,
        ⟨.lenL (.t 14), some 15, none⟩,
        ⟨.bin .lss (.t 13) (.t 15), some 16, none⟩]) <|
      .cond (.t 16) (.skip)
       (.exit 0)) <|
     .seq (.block 1 <|
       .seq (.reg [⟨.mov (.v (.int .i64 0)), some 4, none⟩]) <|
       .block 2 <|
        .loop <|
         .seq (.seq (.reg [⟨.mov (.t 4), some 19, none⟩,
            ⟨.mov (.t 0), some 20, none⟩,
            ⟨.mov (.t 3), some 21, none⟩,
            ⟨.ixL 1 (.t 20) (.t 21), some 22, none⟩,
            ⟨.ld1 (.t 22), some 23, none⟩,
            ⟨.lenL (.t 23), some 24, none⟩,
            ⟨.bin .lss (.t 19) (.t 24), some 25, none⟩]) <|
          .cond (.t 25) (.skip)
           (.exit 2)) <|
         .seq (.block 3 <|
           .reg [⟨.mov (.t 0), some 28, none⟩,
            ⟨.mov (.t 3), some 29, none⟩,
            ⟨.ixL 1 (.t 28) (.t 29), some 30, none⟩,
            ⟨.ld1 (.t 30), some 31, none⟩,
            ⟨.mov (.t 4), some 32, none⟩,
            ⟨.mov (.t 3), some 33, none⟩,
            ⟨.bin .mul (.v (.int .i64 1000)) (.t 33), some 34, none⟩,
            ⟨.mov (.t 4), some 35, none⟩,
            ⟨.bin .add (.t 34) (.t 35), some 36, none⟩,
            ⟨.bld [(.int .i64 0), (.int .i64 0), (.int .i64 0), (.int .i64 0)] [(0, 1, (.t 36))], some 37, none⟩,
            ⟨.ixL 4 (.t 31) (.t 32), some 38, none⟩,
            ⟨.sto 4 (.t 38) (.t 37), none, none⟩]) <|
         .reg [⟨.mov (.t 4), some 26, none⟩,
          ⟨.bin .add (.t 26) (.v (.int .i64 1)), some 27, none⟩,
          ⟨.mov (.t 27), some 4, none⟩]) <|
     .reg [⟨.mov (.t 3), some 17, none⟩,
      ⟨.bin .add (.t 17) (.v (.int .i64 1)), some 18, none⟩,
      ⟨.mov (.t 18), some 3, none⟩]) <|
  .seq (.reg [⟨.mov (.v (.slice none 0 (.ex 0))), some 5, none⟩]) <|
  .seq (.seq (.reg [⟨.mov (.v (.int .i64 0)), some 6, none⟩]) <|
   .block 4 <|
    .loop <|
     .seq (.seq (.reg [⟨.mov (.t 6), some 39, none⟩,
        ⟨.mov (.t 0), some 40, none⟩,
        ⟨.lenL (.t 40), some 41, none⟩,
        ⟨.bin .lss (.t 39) (.t 41), some 42, none⟩]) <|
      .cond (.t 42) (.skip)
       (.exit 4)) <|
     .seq (.block 5 <|
       .seq (.reg [⟨.mov (.t 0), some 45, none⟩,
         ⟨.mov (.t 6), some 46, none⟩,
         ⟨.ixL 1 (.t 45) (.t 46), some 47, none⟩,
         ⟨.ld1 (.t 47), some 48, none⟩,
         ⟨.mov (.t 48), some 7, none⟩]) <|
       .seq (.seq (.reg [⟨.mov (.v (.int .i64 0)), some 8, none⟩]) <|
        .block 6 <|
         .loop <|
          .seq (.seq (.reg [⟨.mov (.t 8), some 49, none⟩,
             ⟨.bin .lss (.t 49) (.v (.int .i64 30)), some 50, none⟩]) <|
           .cond (.t 50) (.skip)
            (.exit 6)) <|
          .seq (.block 7 <|
            .reg [⟨.mov (.t 7), some 53, none⟩,
             ⟨.mov (.t 6), some 54, none⟩,
             ⟨.bin .mul (.v (.int .i64 1000)) (.t 54), some 55, none⟩,
             ⟨.bin .add (.v (.int .i64 500000)) (.t 55), some 56, none⟩,
             ⟨.mov (.t 8), some 57, none⟩,
             ⟨.bin .add (.t 56) (.t 57), some 58, none⟩,
             ⟨.bld [(.int .i64 0), (.int .i64 0), (.int .i64 0), (.int .i64 0)] [(0, 1, (.t 58))], some 59, none⟩,
             ⟨.bSl (I.t 197) 4 1 [(.int .i64 0), (.int .i64 0), (.int .i64 0), (.int .i64 0)] [(0, (.t 59))], some 60, none⟩,
             ⟨.app (I.t 197) 4 (.t 53) (.t 60), some 61, none⟩,
             ⟨.mov (.t 61), some 7, none⟩]) <|
          .reg [⟨.mov (.t 8), some 51, none⟩,
           ⟨.bin .add (.t 51) (.v (.int .i64 1)), some 52, none⟩,
           ⟨.mov (.t 52), some 8, none⟩]) <|
       .reg [⟨.mov (.t 5), some 62, none⟩,
        ⟨.mov (.t 7), some 63, none⟩,
        ⟨.bSl (I.t 175) 1 1 [(.slice none 0 (.ex 0))] [(0, (.t 63))], some 64, none⟩,
        ⟨.app (I.t 175) 1 (.t 62) (.t 64), some 65, none⟩,
        ⟨.mov (.t 65), some 5, none⟩]) <|
     .reg [⟨.mov (.t 6), some 43, none⟩,
      ⟨.bin .add (.t 43) (.v (.int .i64 1)), some 44, none⟩,
      ⟨.mov (.t 44), some 6, none⟩]) <|
  .seq (.seq (.reg [⟨.mov (.v (.int .i64 0)), some 9, none⟩]) <|
   .block 8 <|
    .loop <|
     .seq (.seq (.reg [⟨.mov (.t 9), some 66, none⟩,
        ⟨.mov (.t 0), some 67, none⟩,
        ⟨.lenL (.t 67), some 68, none⟩,
        ⟨.bin .lss (.t 66) (.t 68), some 69, none⟩]) <|
      .cond (.t 69) (.skip)
       (.exit 8)) <|
     .seq (.block 9 <|
       .seq (.reg [⟨.mov (.t 0), some 72, none⟩,
         ⟨.mov (.t 9), some 73, none⟩,
         ⟨.ixL 1 (.t 72) (.t 73), some 74, none⟩,
         ⟨.ld1 (.t 74), some 75, none⟩,
         ⟨.lenL (.t 75), some 76, none⟩,
         ⟨.mov (.t 76), some 10, none⟩]) <|
       .seq (.seq (.reg [⟨.mov (.v (.int .i64 0)), some 11, none⟩]) <|
        .block 10 <|
         .loop <|
          .seq (.seq (.reg [⟨.mov (.t 11), some 77, none⟩,
             ⟨.mov (.t 10), some 78, none⟩,
             ⟨.bin .lss (.t 77) (.t 78), some 79, none⟩]) <|
           .cond (.t 79) (.skip)
            (.exit 10)) <|
          .seq (.block 11 <|
            .seq (.reg [⟨.mov (.t 0), some 82, none⟩,
              ⟨.mov (.t 9), some 83, none⟩,
              ⟨.ixL 1 (.t 82) (.t 83), some 84, none⟩,
              ⟨.ld1 (.t 84), some 85, none⟩,
              ⟨.mov (.t 11), some 86, none⟩,
              ⟨.ixL 4 (.t 85) (.t 86), some 87, none⟩,
              ⟨.fad 0 (.t 87), some 88, none⟩,
              ⟨.ld1 (.t 88), some 89, none⟩,
              ⟨.mov (.t 9), some 90, none⟩,
              ⟨.bin .mul (.v (.int .i64 1000)) (.t 90), some 91, none⟩,
              ⟨.mov (.t 11), some 92, none⟩,
              ⟨.bin .add (.t 91) (.t 92), some 93, none⟩,
              ⟨.eqT 1 true (.t 89) (.t 93), some 94, none⟩,
              ⟨.mov (.t 94), some 95, none⟩,
              ⟨.mov (.t 5), some 96, some (95, false)⟩,
              ⟨.mov (.t 9), some 97, some (95, false)⟩,
              ⟨.ixL 1 (.t 96) (.t 97), some 98, some (95, false)⟩,
              ⟨.ld1 (.t 98), some 99, some (95, false)⟩,
              ⟨.mov (.t 11), some 100, some (95, false)⟩,
              ⟨.ixL 4 (.t 99) (.t 100), some 101, some (95, false)⟩,
              ⟨.fad 0 (.t 101), some 102, some (95, false)⟩,
              ⟨.ld1 (.t 102), some 103, some (95, false)⟩,
              ⟨.mov (.t 9), some 104, some (95, false)⟩,
              ⟨.bin .mul (.v (.int .i64 1000)) (.t 104), some 105, some (95, false)⟩,
              ⟨.mov (.t 11), some 106, some (95, false)⟩,
              ⟨.bin .add (.t 105) (.t 106), some 107, some (95, false)⟩,
              ⟨.eqT 1 true (.t 103) (.t 107), some 108, some (95, false)⟩,
              ⟨.pick (.t 95) (.v (.bool true)) (.t 108), some 109, none⟩]) <|
            .cond (.t 109) (.seq (.reg [⟨.mov (.v (.bool false)), some 2, none⟩]) <|
             .ret)
             (.skip)) <|
          .reg [⟨.mov (.t 11), some 80, none⟩,
           ⟨.bin .add (.t 80) (.v (.int .i64 1)), some 81, none⟩,
           ⟨.mov (.t 81), some 11, none⟩]) <|
       .seq (.reg [⟨.mov (.v (.int .i64 0)), some 12, none⟩]) <|
       .block 12 <|
        .loop <|
         .seq (.seq (.reg [⟨.mov (.t 12), some 110, none⟩,
            ⟨.bin .lss (.t 110) (.v (.int .i64 30)), some 111, none⟩]) <|
          .cond (.t 111) (.skip)
           (.exit 12)) <|
         .seq (.block 13 <|
           .seq (.reg [⟨.mov (.t 5), some 114, none⟩,
             ⟨.mov (.t 9), some 115, none⟩,
             ⟨.ixL 1 (.t 114) (.t 115), some 116, none⟩,
             ⟨.ld1 (.t 116), some 117, none⟩,
             ⟨.mov (.t 10), some 118, none⟩,
             ⟨.mov (.t 12), some 119, none⟩,
             ⟨.bin .add (.t 118) (.t 119), some 120, none⟩,
             ⟨.ixL 4 (.t 117) (.t 120), some 121, none⟩,
             ⟨.fad 0 (.t 121), some 122, none⟩,
             ⟨.ld1 (.t 122), some 123, none⟩,
             ⟨.mov (.t 9), some 124, none⟩,
             ⟨.bin .mul (.v (.int .i64 1000)) (.t 124), some 125, none⟩,
             ⟨.bin .add (.v (.int .i64 500000)) (.t 125), some 126, none⟩,
             ⟨.mov (.t 12), some 127, none⟩,
             ⟨.bin .add (.t 126) (.t 127), some 128, none⟩,
             ⟨.eqT 1 true (.t 123) (.t 128), some 129, none⟩]) <|
           .cond (.t 129) (.seq (.reg [⟨.mov (.v (.bool false)), some 2, none⟩]) <|
            .ret)
            (.skip)) <|
         .reg [⟨.mov (.t 12), some 112, none⟩,
          ⟨.bin .add (.t 112) (.v (.int .i64 1)), some 113, none⟩,
          ⟨.mov (.t 113), some 12, none⟩]) <|
     .reg [⟨.mov (.t 9), some 70, none⟩,
      ⟨.bin .add (.t 70) (.v (.int .i64 1)), some 71, none⟩,
      ⟨.mov (.t 71), some 9, none⟩]) <|
  .seq (.reg [⟨.mov (.v (.bool true)), some 2, none⟩]) <|
  .ret
-- 388 nt 130 res [.tmp 2] params [[][]api.Item]
/-- dovetail/dovetailkit.LentItems -/
def c389 (I : Ids) : IC :=
  .seq (.reg [⟨.mov (.v (.slice none 0 (.ex 0))), some 2, none⟩]) <|
  .seq (.reg [⟨.mov (.v (.slice none 0 (.ex 0))), some 3, none⟩]) <|
  .seq (.reg [⟨.mov (.t 3), some 4, none⟩,
    ⟨.mov (.t 0), some 5, none⟩,
    ⟨.app (I.t 197) 4 (.t 4) (.t 5), some 6, none⟩,
    ⟨.mov (.t 6), some 3, none⟩]) <|
  .seq (.reg [⟨.mov (.t 3), some 7, none⟩,
    ⟨.bld [(.int .i64 0), (.int .i64 0), (.int .i64 0), (.int .i64 0)] [(0, 1, (.v (.int .i64 (-71))))], some 8, none⟩,
    ⟨.bSl (I.t 197) 4 1 [(.int .i64 0), (.int .i64 0), (.int .i64 0), (.int .i64 0)] [(0, (.t 8))], some 9, none⟩,
    ⟨.app (I.t 197) 4 (.t 7) (.t 9), some 10, none⟩,
    ⟨.mov (.t 10), some 3, none⟩]) <|
  .seq (.reg [⟨.mov (.t 3), some 11, none⟩,
    ⟨.mov (.t 0), some 12, none⟩,
    ⟨.lenL (.t 12), some 13, none⟩,
    ⟨.slL (I.t 197) 4 (.t 11) none (some (.t 13)) none, some 14, none⟩,
    ⟨.mov (.t 14), some 2, none⟩]) <|
  .ret
-- 389 nt 15 res [.tmp 2] params [[]api.Item]
/-- (*dovetail/chunk.mover).put -/
def c390 (I : Ids) : IC :=
  .seq (.drw [⟨.mov (.t 1), some 5, none⟩,
    ⟨.nilCheck (.t 5), some 6, none⟩,
    ⟨.ld1 (.t 6), some 7, none⟩,
    ⟨.mov (.t 0), some 8, none⟩,
    ⟨.nilCheck (.t 8), some 9, none⟩,
    ⟨.fad 0 (.t 9), some 10, none⟩,
    ⟨.ld1 (.t 10), some 11, none⟩,
    ⟨.bin .add (.t 7) (.t 11), some 12, none⟩,
    ⟨.mov (.t 12), some 4, none⟩]) <|
  .seq (.seq (.drw [⟨.mov (.t 0), some 13, none⟩,
     ⟨.nilCheck (.t 13), some 14, none⟩,
     ⟨.fad 0 (.t 14), some 15, none⟩,
     ⟨.ld1 (.t 15), some 16, none⟩,
     ⟨.bin .gtr (.t 16) (.v (.int .i64 0)), some 17, none⟩,
     ⟨.mov (.t 4), some 18, none⟩,
     ⟨.mov (.t 1), some 19, none⟩,
     ⟨.nilCheck (.t 19), some 20, none⟩,
     ⟨.ld1 (.t 20), some 21, none⟩,
     ⟨.bin .gtr (.t 18) (.t 21), some 22, none⟩,
     ⟨.eqT 0 true (.t 17) (.t 22), some 23, none⟩,
     ⟨.mov (.t 23), some 24, none⟩,
     ⟨.mov (.t 0), some 25, some (24, true)⟩,
     ⟨.nilCheck (.t 25), some 26, some (24, true)⟩,
     ⟨.fad 0 (.t 26), some 27, some (24, true)⟩,
     ⟨.ld1 (.t 27), some 28, some (24, true)⟩,
     ⟨.eqT 1 true (.t 28) (.v (.int .i64 0)), some 29, some (24, true)⟩,
     ⟨.pick (.t 24) (.t 29) (.v (.bool false)), some 30, none⟩,
     ⟨.mov (.t 30), some 31, none⟩,
     ⟨.mov (.t 4), some 32, some (31, false)⟩,
     ⟨.bin .lss (.t 32) (.v (.int .i64 0)), some 33, some (31, false)⟩,
     ⟨.pick (.t 31) (.v (.bool true)) (.t 33), some 34, none⟩,
     ⟨.mov (.t 34), some 35, none⟩,
     ⟨.mov (.t 4), some 36, some (35, false)⟩,
     ⟨.bin .gtr (.t 36) (.v (.int .i64 65536)), some 37, some (35, false)⟩,
     ⟨.pick (.t 35) (.v (.bool true)) (.t 37), some 38, none⟩]) <|
   .cond (.t 38) (.seq (.reg [⟨.mov (.t 0), some 39, none⟩,
      ⟨.nilCheck (.t 39), some 40, none⟩,
      ⟨.fad 1 (.t 40), some 41, none⟩,
      ⟨.sto 1 (.t 41) (.v (.bool true)), none, none⟩]) <|
    .ret)
    (.skip)) <|
  .reg [⟨.mov (.t 1), some 42, none⟩,
   ⟨.mov (.t 4), some 43, none⟩,
   ⟨.nilCheck (.t 42), some 44, none⟩,
   ⟨.sto 1 (.t 44) (.t 43), none, none⟩]
-- 390 nt 45 res [] params [*chunk.mover, *int]
/-- slices.Clip[[]dovetail/api.Item,dovetail/api.Item] -/
def c391 (I : Ids) : IC :=
  .seq (.reg [⟨.mov (.v (.slice none 0 (.ex 0))), some 2, none⟩]) <|
  .seq (.reg [⟨.mov (.t 0), some 3, none⟩,
    ⟨.mov (.t 0), some 4, none⟩,
    ⟨.lenL (.t 4), some 5, none⟩,
    ⟨.mov (.t 0), some 6, none⟩,
    ⟨.lenL (.t 6), some 7, none⟩,
    ⟨.slL (I.t 197) 4 (.t 3) none (some (.t 5)) (some (.t 7)), some 8, none⟩,
    ⟨.mov (.t 8), some 2, none⟩]) <|
  .ret
-- 391 nt 9 res [.tmp 2] params [[]api.Item]
/-- slices.Clone[[]dovetail/api.Item,dovetail/api.Item] -/
def c392 (I : Ids) : IC :=
  .seq (.reg [⟨.mov (.v (.slice none 0 (.ex 0))), some 2, none⟩]) <|
  .seq (.seq (.reg [⟨.mov (.t 0), some 3, none⟩,
     ⟨.isN 2 false (.t 3), some 4, none⟩]) <|
   .cond (.t 4) (.seq (.reg [⟨.mov (.v (.slice none 0 (.ex 0))), some 2, none⟩]) <|
    .ret)
    (.skip)) <|
  .seq (.reg [⟨.bSl (I.t 197) 4 0 [] [], some 5, none⟩,
    ⟨.mov (.t 0), some 6, none⟩,
    ⟨.app (I.t 197) 4 (.t 5) (.t 6), some 7, none⟩,
    ⟨.mov (.t 7), some 2, none⟩]) <|
  .ret
-- 392 nt 8 res [.tmp 2] params [[]api.Item]
/-- slices.Clone[[]dovetail/api.Step,dovetail/api.Step] -/
def c393 (I : Ids) : IC :=
  .seq (.reg [⟨.mov (.v (.slice none 0 (.ex 0))), some 2, none⟩]) <|
  .seq (.seq (.reg [⟨.mov (.t 0), some 3, none⟩,
     ⟨.isN 2 false (.t 3), some 4, none⟩]) <|
   .cond (.t 4) (.seq (.reg [⟨.mov (.v (.slice none 0 (.ex 0))), some 2, none⟩]) <|
    .ret)
    (.skip)) <|
  .seq (.reg [⟨.bSl (I.t 163) 3 0 [] [], some 5, none⟩,
    ⟨.mov (.t 0), some 6, none⟩,
    ⟨.app (I.t 163) 3 (.t 5) (.t 6), some 7, none⟩,
    ⟨.mov (.t 7), some 2, none⟩]) <|
  .ret
-- 393 nt 8 res [.tmp 2] params [[]api.Step]
/-- dovetail/dovetailref20.put -/
def c394 (I : Ids) : IC :=
  .seq (.reg [⟨.mov (.v (.int .i64 0)), some 4, none⟩,
    ⟨.mov (.v (.bool false)), some 5, none⟩]) <|
  .seq (.seq (.reg [⟨.mov (.t 1), some 7, none⟩,
     ⟨.bin .gtr (.t 7) (.v (.int .i64 0)), some 8, none⟩,
     ⟨.mov (.t 8), some 9, none⟩,
     ⟨.mov (.t 0), some 10, some (9, true)⟩,
     ⟨.mov (.t 1), some 11, some (9, true)⟩,
     ⟨.bin .sub (.v (.int .i64 9223372036854775807)) (.t 11), some 12, some (9, true)⟩,
     ⟨.bin .gtr (.t 10) (.t 12), some 13, some (9, true)⟩,
     ⟨.pick (.t 9) (.t 13) (.v (.bool false)), some 14, none⟩,
     ⟨.mov (.t 14), some 15, none⟩,
     ⟨.mov (.t 1), some 16, some (15, false)⟩,
     ⟨.bin .lss (.t 16) (.v (.int .i64 0)), some 17, some (15, false)⟩,
     ⟨.mov (.t 17), some 18, some (15, false)⟩,
     ⟨.mov (.t 0), some 19, some (18, true)⟩,
     ⟨.mov (.t 1), some 20, some (18, true)⟩,
     ⟨.bin .sub (.v (.int .i64 (-9223372036854775808))) (.t 20), some 21, some (18, true)⟩,
     ⟨.bin .lss (.t 19) (.t 21), some 22, some (18, true)⟩,
     ⟨.pick (.t 18) (.t 22) (.v (.bool false)), some 23, some (15, false)⟩,
     ⟨.pick (.t 15) (.v (.bool true)) (.t 23), some 24, none⟩]) <|
   .cond (.t 24) (.seq (.reg [⟨.mov (.v (.int .i64 0)), some 4, none⟩,
      ⟨.mov (.v (.bool false)), some 5, none⟩]) <|
    .ret)
    (.skip)) <|
  .seq (.reg [⟨.mov (.t 0), some 25, none⟩,
    ⟨.mov (.t 1), some 26, none⟩,
    ⟨.bin .add (.t 25) (.t 26), some 27, none⟩,
    ⟨.mov (.t 27), some 6, none⟩]) <|
  .seq (.reg [⟨.mov (.t 6), some 28, none⟩,
    ⟨.mov (.t 6), some 29, none⟩,
    ⟨.bin .geq (.t 29) (.v (.int .i64 0)), some 30, none⟩,
    ⟨.mov (.t 30), some 31, none⟩,
    ⟨.mov (.t 6), some 32, some (31, true)⟩,
    ⟨.bin .leq (.t 32) (.v (.int .i64 65536)), some 33, some (31, true)⟩,
    ⟨.pick (.t 31) (.t 33) (.v (.bool false)), some 34, none⟩,
    ⟨.mov (.t 28), some 4, none⟩,
    ⟨.mov (.t 34), some 5, none⟩]) <|
  .ret
-- 394 nt 35 res [.tmp 4, .tmp 5] params [int, int]
/-- dovetail/dovetailkit.KeptItems -/
def c395 (I : Ids) : IC :=
  .seq (.reg [⟨.mov (.v (.bool false)), some 4, none⟩]) <|
  .seq (.reg [⟨.mov (.t 0), some 5, none⟩,
    ⟨.mov (.t 1), some 6, none⟩,
    ⟨.call (I.f 387) [(.t 5), (.t 6)], some 7, none⟩,
    ⟨.mov (.t 7), some 8, none⟩,
    ⟨.mov (.t 0), some 9, some (8, true)⟩,
    ⟨.mov (.t 0), some 10, some (8, true)⟩,
    ⟨.lenL (.t 10), some 11, some (8, true)⟩,
    ⟨.bin .add (.t 11) (.v (.int .i64 1)), some 12, some (8, true)⟩,
    ⟨.slL (I.t 197) 4 (.t 9) none (some (.t 12)) none, some 13, some (8, true)⟩,
    ⟨.mov (.t 0), some 14, some (8, true)⟩,
    ⟨.lenL (.t 14), some 15, some (8, true)⟩,
    ⟨.ixL 4 (.t 13) (.t 15), some 16, some (8, true)⟩,
    ⟨.ldN 4 (.t 16), some 17, some (8, true)⟩,
    ⟨.bld [(.int .i64 0), (.int .i64 0), (.int .i64 0), (.int .i64 0)] [(0, 1, (.v (.int .i64 (-71))))], some 18, some (8, true)⟩,
    ⟨.eqA [1, 1, 1, 1] false (.t 17) (.t 18), some 19, some (8, true)⟩,
    ⟨.pick (.t 8) (.t 19) (.v (.bool false)), some 20, none⟩,
    ⟨.mov (.t 20), some 4, none⟩]) <|
  .ret
-- 395 nt 21 res [.tmp 4] params [[]api.Item, []api.Item]
end Go.Vm
