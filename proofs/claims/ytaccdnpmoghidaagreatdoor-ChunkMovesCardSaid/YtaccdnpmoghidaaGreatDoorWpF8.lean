/- The loops of the document's Move. -/
import Derived.Test.YtaccdnpmoghidaaGreatDoorWpF6
set_option linter.unusedVariables false
set_option linter.unusedSimpArgs false
namespace Go.Vm
set_option maxRecDepth 100000
def gR1 (I : Ids) : IC :=
  .seq (.reg [⟨.mov (.v (.int .i64 0)), some 12, none⟩]) <|
   .block 0 <|
    .loop <|
     .seq (.seq (.reg [⟨.mov (.t 12), some 46, none⟩,
        ⟨.fad 2 (.t 2), some 47, none⟩,
        ⟨.ld1 (.t 47), some 48, none⟩,
        ⟨.lenL (.t 48), some 49, none⟩,
        ⟨.bin .lss (.t 46) (.t 49), some 50, none⟩]) <|
      .cond (.t 50) (.skip)
       (.exit 0)) <|
     .seq (.block 1 <|
       .seq (.reg [⟨.fad 2 (.t 2), some 53, none⟩,
         ⟨.ld1 (.t 53), some 54, none⟩,
         ⟨.mov (.t 12), some 55, none⟩,
         ⟨.ixL 4 (.t 54) (.t 55), some 56, none⟩,
         ⟨.ldN 4 (.t 56), some 57, none⟩,
         ⟨.alc (newBlk [(.int .i64 0), (.int .i64 0), (.int .i64 0), (.int .i64 0)] (I.t 197)), some 13, none⟩,
         ⟨.sto 4 (.t 13) (.t 57), none, none⟩]) <|
       .seq (.reg [⟨.fad 2 (.t 13), some 59, none⟩,
         ⟨.ld1 (.t 59), some 60, none⟩,
         ⟨.mov (.t 1), some 61, none⟩,
         ⟨.call (I.f 394) [(.t 60), (.t 61)], some 62, none⟩,
         ⟨.mov (.t 62), some 58, none⟩,
         ⟨.ext (.t 58) 0, some 63, none⟩,
         ⟨.ext (.t 58) 1, some 64, none⟩,
         ⟨.mov (.t 63), some 14, none⟩,
         ⟨.mov (.t 64), some 15, none⟩]) <|
       .seq (.reg [⟨.fad 3 (.t 13), some 66, none⟩,
         ⟨.ld1 (.t 66), some 67, none⟩,
         ⟨.mov (.t 1), some 68, none⟩,
         ⟨.call (I.f 394) [(.t 67), (.t 68)], some 69, none⟩,
         ⟨.mov (.t 69), some 65, none⟩,
         ⟨.ext (.t 65) 0, some 70, none⟩,
         ⟨.ext (.t 65) 1, some 71, none⟩,
         ⟨.mov (.t 70), some 16, none⟩,
         ⟨.mov (.t 71), some 17, none⟩]) <|
       .seq (.reg [⟨.mov (.t 14), some 72, none⟩,
         ⟨.fad 2 (.t 13), some 73, none⟩,
         ⟨.sto 1 (.t 73) (.t 72), none, none⟩]) <|
       .seq (.reg [⟨.mov (.t 16), some 74, none⟩,
         ⟨.fad 3 (.t 13), some 75, none⟩,
         ⟨.sto 1 (.t 75) (.t 74), none, none⟩]) <|
       .seq (.reg [⟨.mov (.t 11), some 76, none⟩,
         ⟨.mov (.t 76), some 77, none⟩,
         ⟨.mov (.t 15), some 78, some (77, true)⟩,
         ⟨.pick (.t 77) (.t 78) (.v (.bool false)), some 79, none⟩,
         ⟨.mov (.t 79), some 80, none⟩,
         ⟨.mov (.t 17), some 81, some (80, true)⟩,
         ⟨.pick (.t 80) (.t 81) (.v (.bool false)), some 82, none⟩,
         ⟨.mov (.t 82), some 11, none⟩]) <|
       .reg [⟨.fad 2 (.t 6), some 83, none⟩,
        ⟨.ld1 (.t 83), some 84, none⟩,
        ⟨.ldN 4 (.t 13), some 85, none⟩,
        ⟨.bSl (I.t 197) 4 1 [(.int .i64 0), (.int .i64 0), (.int .i64 0), (.int .i64 0)] [(0, (.t 85))], some 86, none⟩,
        ⟨.app (I.t 197) 4 (.t 84) (.t 86), some 87, none⟩,
        ⟨.fad 2 (.t 6), some 88, none⟩,
        ⟨.sto 1 (.t 88) (.t 87), none, none⟩]) <|
     .reg [⟨.mov (.t 12), some 51, none⟩,
      ⟨.bin .add (.t 51) (.v (.int .i64 1)), some 52, none⟩,
      ⟨.mov (.t 52), some 12, none⟩]
def gR2 (I : Ids) : IC :=
  .seq (.reg [⟨.mov (.v (.int .i64 0)), some 18, none⟩]) <|
   .block 2 <|
    .loop <|
     .seq (.seq (.reg [⟨.mov (.t 18), some 89, none⟩,
        ⟨.fad 3 (.t 2), some 90, none⟩,
        ⟨.ld1 (.t 90), some 91, none⟩,
        ⟨.lenL (.t 91), some 92, none⟩,
        ⟨.bin .lss (.t 89) (.t 92), some 93, none⟩]) <|
      .cond (.t 93) (.skip)
       (.exit 2)) <|
     .seq (.block 3 <|
       .seq (.reg [⟨.fad 3 (.t 2), some 96, none⟩,
         ⟨.ld1 (.t 96), some 97, none⟩,
         ⟨.mov (.t 18), some 98, none⟩,
         ⟨.ixL 3 (.t 97) (.t 98), some 99, none⟩,
         ⟨.ldN 3 (.t 99), some 100, none⟩,
         ⟨.alc (newBlk [(.int .i64 0), (.int .i64 0), (.int .i64 0)] (I.t 163)), some 19, none⟩,
         ⟨.sto 3 (.t 19) (.t 100), none, none⟩]) <|
       .seq (.reg [⟨.fad 1 (.t 19), some 102, none⟩,
         ⟨.ld1 (.t 102), some 103, none⟩,
         ⟨.mov (.t 1), some 104, none⟩,
         ⟨.call (I.f 394) [(.t 103), (.t 104)], some 105, none⟩,
         ⟨.mov (.t 105), some 101, none⟩,
         ⟨.ext (.t 101) 0, some 106, none⟩,
         ⟨.ext (.t 101) 1, some 107, none⟩,
         ⟨.mov (.t 106), some 20, none⟩,
         ⟨.mov (.t 107), some 21, none⟩]) <|
       .seq (.reg [⟨.fad 2 (.t 19), some 109, none⟩,
         ⟨.ld1 (.t 109), some 110, none⟩,
         ⟨.mov (.t 1), some 111, none⟩,
         ⟨.call (I.f 394) [(.t 110), (.t 111)], some 112, none⟩,
         ⟨.mov (.t 112), some 108, none⟩,
         ⟨.ext (.t 108) 0, some 113, none⟩,
         ⟨.ext (.t 108) 1, some 114, none⟩,
         ⟨.mov (.t 113), some 22, none⟩,
         ⟨.mov (.t 114), some 23, none⟩]) <|
       .seq (.reg [⟨.mov (.t 20), some 115, none⟩,
         ⟨.fad 1 (.t 19), some 116, none⟩,
         ⟨.sto 1 (.t 116) (.t 115), none, none⟩]) <|
       .seq (.reg [⟨.mov (.t 22), some 117, none⟩,
         ⟨.fad 2 (.t 19), some 118, none⟩,
         ⟨.sto 1 (.t 118) (.t 117), none, none⟩]) <|
       .seq (.reg [⟨.mov (.t 11), some 119, none⟩,
         ⟨.mov (.t 119), some 120, none⟩,
         ⟨.mov (.t 21), some 121, some (120, true)⟩,
         ⟨.pick (.t 120) (.t 121) (.v (.bool false)), some 122, none⟩,
         ⟨.mov (.t 122), some 123, none⟩,
         ⟨.mov (.t 23), some 124, some (123, true)⟩,
         ⟨.pick (.t 123) (.t 124) (.v (.bool false)), some 125, none⟩,
         ⟨.mov (.t 125), some 11, none⟩]) <|
       .reg [⟨.fad 3 (.t 6), some 126, none⟩,
        ⟨.ld1 (.t 126), some 127, none⟩,
        ⟨.ldN 3 (.t 19), some 128, none⟩,
        ⟨.bSl (I.t 163) 3 1 [(.int .i64 0), (.int .i64 0), (.int .i64 0)] [(0, (.t 128))], some 129, none⟩,
        ⟨.app (I.t 163) 3 (.t 127) (.t 129), some 130, none⟩,
        ⟨.fad 3 (.t 6), some 131, none⟩,
        ⟨.sto 1 (.t 131) (.t 130), none, none⟩]) <|
     .reg [⟨.mov (.t 18), some 94, none⟩,
      ⟨.bin .add (.t 94) (.v (.int .i64 1)), some 95, none⟩,
      ⟨.mov (.t 95), some 18, none⟩]
def c163t (I : Ids) : IC :=
  .seq (.seq (.reg [⟨.mov (.t 11), some 132, none⟩,
     ⟨.un .not (.t 132), some 133, none⟩]) <|
   .cond (.t 133) (.seq (.reg [⟨.bld [(.int .i64 0), (.int .i64 0), (.slice none 0 (.ex 0)), (.slice none 0 (.ex 0))] [], some 134, none⟩,
      ⟨.sto 4 (.t 4) (.t 134), none, none⟩,
      ⟨.mov (.v (.int .i64 12)), some 5, none⟩]) <|
    .ret)
    (.skip)) <|
  .seq (.reg [⟨.ldN 4 (.t 6), some 135, none⟩,
    ⟨.sto 4 (.t 4) (.t 135), none, none⟩,
    ⟨.mov (.v (.int .i64 0)), some 5, none⟩]) <|
  .ret
theorem c163_is (I : Ids) : c163 I = (
  .seq (.reg [⟨.box (I.t 177) (.t 0), some 2, none⟩,
    ⟨.alc (newBlk [(.int .i64 0), (.int .i64 0), (.slice none 0 (.ex 0)), (.slice none 0 (.ex 0))] (I.t 177)), some 4, none⟩,
    ⟨.mov (.v (.int .i64 0)), some 5, none⟩]) <|
  .seq (.reg [⟨.alc (newBlk [(.int .i64 0), (.int .i64 0), (.slice none 0 (.ex 0)), (.slice none 0 (.ex 0))] (I.t 177)), some 6, none⟩]) <|
  .seq (.reg [⟨.fad 0 (.t 2), some 25, none⟩,
    ⟨.ld1 (.t 25), some 26, none⟩,
    ⟨.mov (.t 1), some 27, none⟩,
    ⟨.call (I.f 394) [(.t 26), (.t 27)], some 28, none⟩,
    ⟨.mov (.t 28), some 24, none⟩,
    ⟨.ext (.t 24) 0, some 29, none⟩,
    ⟨.ext (.t 24) 1, some 30, none⟩,
    ⟨.mov (.t 29), some 7, none⟩,
    ⟨.mov (.t 30), some 8, none⟩]) <|
  .seq (.reg [⟨.fad 1 (.t 2), some 32, none⟩,
    ⟨.ld1 (.t 32), some 33, none⟩,
    ⟨.mov (.t 1), some 34, none⟩,
    ⟨.call (I.f 394) [(.t 33), (.t 34)], some 35, none⟩,
    ⟨.mov (.t 35), some 31, none⟩,
    ⟨.ext (.t 31) 0, some 36, none⟩,
    ⟨.ext (.t 31) 1, some 37, none⟩,
    ⟨.mov (.t 36), some 9, none⟩,
    ⟨.mov (.t 37), some 10, none⟩]) <|
  .seq (.reg [⟨.mov (.t 7), some 38, none⟩,
    ⟨.fad 0 (.t 6), some 39, none⟩,
    ⟨.sto 1 (.t 39) (.t 38), none, none⟩]) <|
  .seq (.reg [⟨.mov (.t 9), some 40, none⟩,
    ⟨.fad 1 (.t 6), some 41, none⟩,
    ⟨.sto 1 (.t 41) (.t 40), none, none⟩]) <|
  .seq (.reg [⟨.mov (.t 8), some 42, none⟩,
    ⟨.mov (.t 42), some 43, none⟩,
    ⟨.mov (.t 10), some 44, some (43, true)⟩,
    ⟨.pick (.t 43) (.t 44) (.v (.bool false)), some 45, none⟩,
    ⟨.mov (.t 45), some 11, none⟩]) <|
  .seq (gR1 I) <|
  .seq (gR2 I) <|
  c163t I) := rfl
end Go.Vm
