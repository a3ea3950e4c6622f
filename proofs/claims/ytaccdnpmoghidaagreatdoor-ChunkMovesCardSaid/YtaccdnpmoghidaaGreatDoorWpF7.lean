/- The loops of chunk.Move. -/
import Derived.Test.YtaccdnpmoghidaaGreatDoorWpF6
set_option linter.unusedVariables false
set_option linter.unusedSimpArgs false
namespace Go.Vm
set_option maxRecDepth 100000
def gM1 (I : Ids) : IC :=
  .seq (.reg [⟨.fad 2 (.t 2), some 31, none⟩,
     ⟨.ld1 (.t 31), some 32, none⟩,
     ⟨.lenL (.t 32), some 33, none⟩,
     ⟨.mov (.v (.int .i64 0)), some 34, none⟩]) <|
   .block 0 <|
    .loop <|
     .seq (.reg [⟨.bin .lss (.t 34) (.t 33), some 35, none⟩]) <|
     .seq (.cond (.t 35) (.skip)
       (.exit 0)) <|
     .seq (.block 1 <|
       .seq (.reg [⟨.mov (.t 34), some 36, none⟩,
         ⟨.mov (.t 36), some 8, none⟩]) <|
       .seq (.reg [⟨.mov (.t 7), some 37, none⟩,
         ⟨.mov (.t 6), some 38, none⟩,
         ⟨.fad 2 (.t 2), some 39, none⟩,
         ⟨.ld1 (.t 39), some 40, none⟩,
         ⟨.mov (.t 8), some 41, none⟩,
         ⟨.ixL 4 (.t 40) (.t 41), some 42, none⟩,
         ⟨.fad 2 (.t 42), some 43, none⟩,
         ⟨.callv (.t 37) [(.t 38), (.t 43)], some 44, none⟩]) <|
       .reg [⟨.mov (.t 7), some 45, none⟩,
        ⟨.mov (.t 6), some 46, none⟩,
        ⟨.fad 2 (.t 2), some 47, none⟩,
        ⟨.ld1 (.t 47), some 48, none⟩,
        ⟨.mov (.t 8), some 49, none⟩,
        ⟨.ixL 4 (.t 48) (.t 49), some 50, none⟩,
        ⟨.fad 3 (.t 50), some 51, none⟩,
        ⟨.callv (.t 45) [(.t 46), (.t 51)], some 52, none⟩]) <|
     .reg [⟨.bin .add (.t 34) (.v (.int .i64 1)), some 53, none⟩,
      ⟨.mov (.t 53), some 34, none⟩]
def gM2 (I : Ids) : IC :=
  .seq (.reg [⟨.fad 3 (.t 2), some 54, none⟩,
     ⟨.ld1 (.t 54), some 55, none⟩,
     ⟨.lenL (.t 55), some 56, none⟩,
     ⟨.mov (.v (.int .i64 0)), some 57, none⟩]) <|
   .block 2 <|
    .loop <|
     .seq (.reg [⟨.bin .lss (.t 57) (.t 56), some 58, none⟩]) <|
     .seq (.cond (.t 58) (.skip)
       (.exit 2)) <|
     .seq (.block 3 <|
       .seq (.reg [⟨.mov (.t 57), some 59, none⟩,
         ⟨.mov (.t 59), some 9, none⟩]) <|
       .seq (.reg [⟨.mov (.t 7), some 60, none⟩,
         ⟨.mov (.t 6), some 61, none⟩,
         ⟨.fad 3 (.t 2), some 62, none⟩,
         ⟨.ld1 (.t 62), some 63, none⟩,
         ⟨.mov (.t 9), some 64, none⟩,
         ⟨.ixL 3 (.t 63) (.t 64), some 65, none⟩,
         ⟨.fad 1 (.t 65), some 66, none⟩,
         ⟨.callv (.t 60) [(.t 61), (.t 66)], some 67, none⟩]) <|
       .reg [⟨.mov (.t 7), some 68, none⟩,
        ⟨.mov (.t 6), some 69, none⟩,
        ⟨.fad 3 (.t 2), some 70, none⟩,
        ⟨.ld1 (.t 70), some 71, none⟩,
        ⟨.mov (.t 9), some 72, none⟩,
        ⟨.ixL 3 (.t 71) (.t 72), some 73, none⟩,
        ⟨.fad 2 (.t 73), some 74, none⟩,
        ⟨.callv (.t 68) [(.t 69), (.t 74)], some 75, none⟩]) <|
     .reg [⟨.bin .add (.t 57) (.v (.int .i64 1)), some 76, none⟩,
      ⟨.mov (.t 76), some 57, none⟩]
theorem c162_is (I : Ids) : c162 I = (
  .seq (.reg [⟨.box (I.t 177) (.t 0), some 2, none⟩,
    ⟨.alc (newBlk [(.int .i64 0), (.int .i64 0), (.slice none 0 (.ex 0)), (.slice none 0 (.ex 0))] (I.t 177)), some 4, none⟩,
    ⟨.mov (.v .nilIface), some 5, none⟩]) <|
  .seq (.reg [⟨.mov (.t 1), some 10, none⟩,
    ⟨.bld [(.int .i64 0), (.bool false)] [(0, 1, (.t 10))], some 11, none⟩,
    ⟨.box (I.t 480) (.t 11), some 12, none⟩,
    ⟨.mov (.t 12), some 6, none⟩]) <|
  .seq (.reg [⟨.mov (.v (.func (I.f 390) [] [])), some 7, none⟩]) <|
  .seq (.drv [⟨⟨.fad 2 (.t 2), some 13, none⟩, 0, [], [], []⟩,
    ⟨⟨.ld1 (.t 13), some 14, none⟩, 1, [], [], []⟩,
    ⟨⟨.call (I.f 392) [(.t 14)], some 15, none⟩, 3, [], [], []⟩,
    ⟨⟨.call (I.f 391) [(.t 15)], some 16, none⟩, 3, [], [], []⟩,
    ⟨⟨.fad 3 (.t 2), some 17, none⟩, 0, [], [], []⟩,
    ⟨⟨.ld1 (.t 17), some 18, none⟩, 1, [2, 3], [], [(.t 17)]⟩,
    ⟨⟨.call (I.f 393) [(.t 18)], some 19, none⟩, 3, [], [], []⟩,
    ⟨⟨.call (I.f 358) [(.t 19)], some 20, none⟩, 3, [], [], []⟩,
    ⟨⟨.fad 2 (.t 2), some 21, none⟩, 0, [], [], []⟩,
    ⟨⟨.sto 1 (.t 21) (.t 16), none, none⟩, 3, [], [], []⟩,
    ⟨⟨.fad 3 (.t 2), some 22, none⟩, 0, [], [], []⟩,
    ⟨⟨.sto 1 (.t 22) (.t 20), none, none⟩, 3, [], [], []⟩]) <|
  .seq (.reg [⟨.mov (.t 7), some 23, none⟩,
    ⟨.mov (.t 6), some 24, none⟩,
    ⟨.fad 0 (.t 2), some 25, none⟩,
    ⟨.callv (.t 23) [(.t 24), (.t 25)], some 26, none⟩]) <|
  .seq (.reg [⟨.mov (.t 7), some 27, none⟩,
    ⟨.mov (.t 6), some 28, none⟩,
    ⟨.fad 1 (.t 2), some 29, none⟩,
    ⟨.callv (.t 27) [(.t 28), (.t 29)], some 30, none⟩]) <|
  .seq (gM1 I) <|
  .seq (gM2 I) <|
  .seq (.seq (.reg [⟨.mov (.t 6), some 77, none⟩,
     ⟨.nilCheck (.t 77), some 78, none⟩,
     ⟨.fad 1 (.t 78), some 79, none⟩,
     ⟨.ld1 (.t 79), some 80, none⟩]) <|
   .cond (.t 80) (.seq (.drv [⟨⟨.bld [(.int .i64 0), (.int .i64 0), (.slice none 0 (.ex 0)), (.slice none 0 (.ex 0))] [], some 81, none⟩, 0, [], [], []⟩,
      ⟨⟨.ld1 (.v (.ptr (some (I.g 0, 0)))), some 82, none⟩, 1, [], [], []⟩,
      ⟨⟨.sto 4 (.t 4) (.t 81), none, none⟩, 3, [], [1], []⟩,
      ⟨⟨.mov (.t 82), some 5, none⟩, 0, [], [], []⟩]) <|
    .ret)
    (.skip)) <|
  .seq (.reg [⟨.ldN 4 (.t 2), some 83, none⟩,
    ⟨.sto 4 (.t 4) (.t 83), none, none⟩,
    ⟨.mov (.v .nilIface), some 5, none⟩]) <|
  .ret) := rfl
end Go.Vm
