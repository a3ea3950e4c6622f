/- The kit's functions over lists of rows of ints, whatever their width: their code, of which Items' and Steps' is a case. -/
import Derived.Test.YtaccdnpmoghidaaGreatDoorWpF4
set_option linter.unusedVariables false
set_option linter.unusedSimpArgs false
namespace Go.Vm
set_option maxRecDepth 100000
def gEq (k : Nat) (ks : List Nat) : IC :=
  .seq (.reg [⟨.mov (.v (.bool false)), some 4, none⟩]) <|
  .seq (.seq (.reg [⟨.mov (.t 0), some 6, none⟩,
     ⟨.lenL (.t 6), some 7, none⟩,
     ⟨.mov (.t 1), some 8, none⟩,
     ⟨.lenL (.t 8), some 9, none⟩,
     ⟨.eqT 1 true (.t 7) (.t 9), some 10, none⟩]) <|
   .cond (.t 10) (.seq (.reg [⟨.mov (.v (.bool false)), some 4, none⟩]) <|
    .ret)
    (.skip)) <|
  .seq (.seq (.reg [⟨.mov (.v (.int .i64 0)), some 5, none⟩]) <|
   .block 0 <|
    .loop <|
     .seq (.seq (.reg [⟨.mov (.t 5), some 11, none⟩,
        ⟨.mov (.t 0), some 12, none⟩,
        ⟨.lenL (.t 12), some 13, none⟩,
        ⟨.bin .lss (.t 11) (.t 13), some 14, none⟩]) <|
      .cond (.t 14) (.skip)
       (.exit 0)) <|
     .seq (.block 1 <|
       .seq (.drw [⟨.mov (.t 0), some 17, none⟩,
         ⟨.mov (.t 5), some 18, none⟩,
         ⟨.ixL k (.t 17) (.t 18), some 19, none⟩,
         ⟨.ldN k (.t 19), some 20, none⟩,
         ⟨.mov (.t 1), some 21, none⟩,
         ⟨.mov (.t 5), some 22, none⟩,
         ⟨.ixL k (.t 21) (.t 22), some 23, none⟩,
         ⟨.ldN k (.t 23), some 24, none⟩,
         ⟨.eqA ks true (.t 20) (.t 24), some 25, none⟩]) <|
       .cond (.t 25) (.seq (.reg [⟨.mov (.v (.bool false)), some 4, none⟩]) <|
        .ret)
        (.skip)) <|
     .reg [⟨.mov (.t 5), some 15, none⟩,
      ⟨.bin .add (.t 15) (.v (.int .i64 1)), some 16, none⟩,
      ⟨.mov (.t 16), some 5, none⟩]) <|
  .seq (.reg [⟨.mov (.v (.bool true)), some 4, none⟩]) <|
  .ret
theorem gEq_4 (I : Ids) : c387 I = gEq 4 [1, 1, 1, 1] := rfl
theorem gEq_3 (I : Ids) : c127 I = gEq 3 [1, 1, 1] := rfl
def gLent (k e : Nat) (z : List V) : IC :=
  .seq (.reg [⟨.mov (.v (.slice none 0 (.ex 0))), some 2, none⟩]) <|
  .seq (.reg [⟨.mov (.v (.slice none 0 (.ex 0))), some 3, none⟩]) <|
  .seq (.reg [⟨.mov (.t 3), some 4, none⟩,
    ⟨.mov (.t 0), some 5, none⟩,
    ⟨.app e k (.t 4) (.t 5), some 6, none⟩,
    ⟨.mov (.t 6), some 3, none⟩]) <|
  .seq (.reg [⟨.mov (.t 3), some 7, none⟩,
    ⟨.bld z [(0, 1, (.v (.int .i64 (-71))))], some 8, none⟩,
    ⟨.bSl e k 1 z [(0, (.t 8))], some 9, none⟩,
    ⟨.app e k (.t 7) (.t 9), some 10, none⟩,
    ⟨.mov (.t 10), some 3, none⟩]) <|
  .seq (.reg [⟨.mov (.t 3), some 11, none⟩,
    ⟨.mov (.t 0), some 12, none⟩,
    ⟨.lenL (.t 12), some 13, none⟩,
    ⟨.slL e k (.t 11) none (some (.t 13)) none, some 14, none⟩,
    ⟨.mov (.t 14), some 2, none⟩]) <|
  .ret
theorem gLent_4 (I : Ids) : c389 I = gLent 4 (I.t 197) [iv 0, iv 0, iv 0, iv 0] := rfl
theorem gLent_3 (I : Ids) : c66 I = gLent 3 (I.t 163) [iv 0, iv 0, iv 0] := rfl
def gKept (k e : Nat) (z : List V) (ks : List Nat) (fq : Nat) : IC :=
  .seq (.reg [⟨.mov (.v (.bool false)), some 4, none⟩]) <|
  .seq (.reg [⟨.mov (.t 0), some 5, none⟩,
    ⟨.mov (.t 1), some 6, none⟩,
    ⟨.call fq [(.t 5), (.t 6)], some 7, none⟩,
    ⟨.mov (.t 7), some 8, none⟩,
    ⟨.mov (.t 0), some 9, some (8, true)⟩,
    ⟨.mov (.t 0), some 10, some (8, true)⟩,
    ⟨.lenL (.t 10), some 11, some (8, true)⟩,
    ⟨.bin .add (.t 11) (.v (.int .i64 1)), some 12, some (8, true)⟩,
    ⟨.slL e k (.t 9) none (some (.t 12)) none, some 13, some (8, true)⟩,
    ⟨.mov (.t 0), some 14, some (8, true)⟩,
    ⟨.lenL (.t 14), some 15, some (8, true)⟩,
    ⟨.ixL k (.t 13) (.t 15), some 16, some (8, true)⟩,
    ⟨.ldN k (.t 16), some 17, some (8, true)⟩,
    ⟨.bld z [(0, 1, (.v (.int .i64 (-71))))], some 18, some (8, true)⟩,
    ⟨.eqA ks false (.t 17) (.t 18), some 19, some (8, true)⟩,
    ⟨.pick (.t 8) (.t 19) (.v (.bool false)), some 20, none⟩,
    ⟨.mov (.t 20), some 4, none⟩]) <|
  .ret
theorem gKept_4 (I : Ids) : c395 I = gKept 4 (I.t 197) [iv 0, iv 0, iv 0, iv 0] [1, 1, 1, 1] (I.f 387) := rfl
theorem gKept_3 (I : Ids) : c71 I = gKept 3 (I.t 163) [iv 0, iv 0, iv 0] [1, 1, 1] (I.f 127) := rfl
def gApart (k e e2 : Nat) (z : List V) : IC :=
  .seq (.reg [⟨.mov (.v (.bool false)), some 2, none⟩]) <|
  .seq (.seq (.reg [⟨.mov (.v (.int .i64 0)), some 3, none⟩]) <|
   .block 0 <|
    .loop <|
     .seq (.seq (.reg [⟨.mov (.t 3), some 13, none⟩,
        ⟨.mov (.t 0), some 14, none⟩,
        ⟨.lenL (.t 14), some 15, none⟩,
        ⟨.bin .lss (.t 13) (.t 15), some 16, none⟩]) <|
      .cond (.t 16) (.skip)
       (.exit 0)) <|
     .seq (.block 1 <|
       .seq (.reg [⟨.mov (.v (.int .i64 0)), some 4, none⟩]) <|
       .block 2 <|
        .loop <|
         .seq (.seq (.reg [⟨.mov (.t 4), some 19, none⟩,
            ⟨.mov (.t 0), some 20, none⟩,
            ⟨.mov (.t 3), some 21, none⟩,
            ⟨.ixL 1 (.t 20) (.t 21), some 22, none⟩,
            ⟨.ld1 (.t 22), some 23, none⟩,
            ⟨.lenL (.t 23), some 24, none⟩,
            ⟨.bin .lss (.t 19) (.t 24), some 25, none⟩]) <|
          .cond (.t 25) (.skip)
           (.exit 2)) <|
         .seq (.block 3 <|
           .reg [⟨.mov (.t 0), some 28, none⟩,
            ⟨.mov (.t 3), some 29, none⟩,
            ⟨.ixL 1 (.t 28) (.t 29), some 30, none⟩,
            ⟨.ld1 (.t 30), some 31, none⟩,
            ⟨.mov (.t 4), some 32, none⟩,
            ⟨.mov (.t 3), some 33, none⟩,
            ⟨.bin .mul (.v (.int .i64 1000)) (.t 33), some 34, none⟩,
            ⟨.mov (.t 4), some 35, none⟩,
            ⟨.bin .add (.t 34) (.t 35), some 36, none⟩,
            ⟨.bld z [(0, 1, (.t 36))], some 37, none⟩,
            ⟨.ixL k (.t 31) (.t 32), some 38, none⟩,
            ⟨.sto k (.t 38) (.t 37), none, none⟩]) <|
         .reg [⟨.mov (.t 4), some 26, none⟩,
          ⟨.bin .add (.t 26) (.v (.int .i64 1)), some 27, none⟩,
          ⟨.mov (.t 27), some 4, none⟩]) <|
     .reg [⟨.mov (.t 3), some 17, none⟩,
      ⟨.bin .add (.t 17) (.v (.int .i64 1)), some 18, none⟩,
      ⟨.mov (.t 18), some 3, none⟩]) <|
  .seq (.reg [⟨.mov (.v (.slice none 0 (.ex 0))), some 5, none⟩]) <|
  .seq (.seq (.reg [⟨.mov (.v (.int .i64 0)), some 6, none⟩]) <|
   .block 4 <|
    .loop <|
     .seq (.seq (.reg [⟨.mov (.t 6), some 39, none⟩,
        ⟨.mov (.t 0), some 40, none⟩,
        ⟨.lenL (.t 40), some 41, none⟩,
        ⟨.bin .lss (.t 39) (.t 41), some 42, none⟩]) <|
      .cond (.t 42) (.skip)
       (.exit 4)) <|
     .seq (.block 5 <|
       .seq (.reg [⟨.mov (.t 0), some 45, none⟩,
         ⟨.mov (.t 6), some 46, none⟩,
         ⟨.ixL 1 (.t 45) (.t 46), some 47, none⟩,
         ⟨.ld1 (.t 47), some 48, none⟩,
         ⟨.mov (.t 48), some 7, none⟩]) <|
       .seq (.seq (.reg [⟨.mov (.v (.int .i64 0)), some 8, none⟩]) <|
        .block 6 <|
         .loop <|
          .seq (.seq (.reg [⟨.mov (.t 8), some 49, none⟩,
             ⟨.bin .lss (.t 49) (.v (.int .i64 30)), some 50, none⟩]) <|
           .cond (.t 50) (.skip)
            (.exit 6)) <|
          .seq (.block 7 <|
            .reg [⟨.mov (.t 7), some 53, none⟩,
             ⟨.mov (.t 6), some 54, none⟩,
             ⟨.bin .mul (.v (.int .i64 1000)) (.t 54), some 55, none⟩,
             ⟨.bin .add (.v (.int .i64 500000)) (.t 55), some 56, none⟩,
             ⟨.mov (.t 8), some 57, none⟩,
             ⟨.bin .add (.t 56) (.t 57), some 58, none⟩,
             ⟨.bld z [(0, 1, (.t 58))], some 59, none⟩,
             ⟨.bSl e k 1 z [(0, (.t 59))], some 60, none⟩,
             ⟨.app e k (.t 53) (.t 60), some 61, none⟩,
             ⟨.mov (.t 61), some 7, none⟩]) <|
          .reg [⟨.mov (.t 8), some 51, none⟩,
           ⟨.bin .add (.t 51) (.v (.int .i64 1)), some 52, none⟩,
           ⟨.mov (.t 52), some 8, none⟩]) <|
       .reg [⟨.mov (.t 5), some 62, none⟩,
        ⟨.mov (.t 7), some 63, none⟩,
        ⟨.bSl e2 1 1 [(.slice none 0 (.ex 0))] [(0, (.t 63))], some 64, none⟩,
        ⟨.app e2 1 (.t 62) (.t 64), some 65, none⟩,
        ⟨.mov (.t 65), some 5, none⟩]) <|
     .reg [⟨.mov (.t 6), some 43, none⟩,
      ⟨.bin .add (.t 43) (.v (.int .i64 1)), some 44, none⟩,
      ⟨.mov (.t 44), some 6, none⟩]) <|
  .seq (.seq (.reg [⟨.mov (.v (.int .i64 0)), some 9, none⟩]) <|
   .block 8 <|
    .loop <|
     .seq (.seq (.reg [⟨.mov (.t 9), some 66, none⟩,
        ⟨.mov (.t 0), some 67, none⟩,
        ⟨.lenL (.t 67), some 68, none⟩,
        ⟨.bin .lss (.t 66) (.t 68), some 69, none⟩]) <|
      .cond (.t 69) (.skip)
       (.exit 8)) <|
     .seq (.block 9 <|
       .seq (.reg [⟨.mov (.t 0), some 72, none⟩,
         ⟨.mov (.t 9), some 73, none⟩,
         ⟨.ixL 1 (.t 72) (.t 73), some 74, none⟩,
         ⟨.ld1 (.t 74), some 75, none⟩,
         ⟨.lenL (.t 75), some 76, none⟩,
         ⟨.mov (.t 76), some 10, none⟩]) <|
       .seq (.seq (.reg [⟨.mov (.v (.int .i64 0)), some 11, none⟩]) <|
        .block 10 <|
         .loop <|
          .seq (.seq (.reg [⟨.mov (.t 11), some 77, none⟩,
             ⟨.mov (.t 10), some 78, none⟩,
             ⟨.bin .lss (.t 77) (.t 78), some 79, none⟩]) <|
           .cond (.t 79) (.skip)
            (.exit 10)) <|
          .seq (.block 11 <|
            .seq (.reg [⟨.mov (.t 0), some 82, none⟩,
              ⟨.mov (.t 9), some 83, none⟩,
              ⟨.ixL 1 (.t 82) (.t 83), some 84, none⟩,
              ⟨.ld1 (.t 84), some 85, none⟩,
              ⟨.mov (.t 11), some 86, none⟩,
              ⟨.ixL k (.t 85) (.t 86), some 87, none⟩,
              ⟨.fad 0 (.t 87), some 88, none⟩,
              ⟨.ld1 (.t 88), some 89, none⟩,
              ⟨.mov (.t 9), some 90, none⟩,
              ⟨.bin .mul (.v (.int .i64 1000)) (.t 90), some 91, none⟩,
              ⟨.mov (.t 11), some 92, none⟩,
              ⟨.bin .add (.t 91) (.t 92), some 93, none⟩,
              ⟨.eqT 1 true (.t 89) (.t 93), some 94, none⟩,
              ⟨.mov (.t 94), some 95, none⟩,
              ⟨.mov (.t 5), some 96, some (95, false)⟩,
              ⟨.mov (.t 9), some 97, some (95, false)⟩,
              ⟨.ixL 1 (.t 96) (.t 97), some 98, some (95, false)⟩,
              ⟨.ld1 (.t 98), some 99, some (95, false)⟩,
              ⟨.mov (.t 11), some 100, some (95, false)⟩,
              ⟨.ixL k (.t 99) (.t 100), some 101, some (95, false)⟩,
              ⟨.fad 0 (.t 101), some 102, some (95, false)⟩,
              ⟨.ld1 (.t 102), some 103, some (95, false)⟩,
              ⟨.mov (.t 9), some 104, some (95, false)⟩,
              ⟨.bin .mul (.v (.int .i64 1000)) (.t 104), some 105, some (95, false)⟩,
              ⟨.mov (.t 11), some 106, some (95, false)⟩,
              ⟨.bin .add (.t 105) (.t 106), some 107, some (95, false)⟩,
              ⟨.eqT 1 true (.t 103) (.t 107), some 108, some (95, false)⟩,
              ⟨.pick (.t 95) (.v (.bool true)) (.t 108), some 109, none⟩]) <|
            .cond (.t 109) (.seq (.reg [⟨.mov (.v (.bool false)), some 2, none⟩]) <|
             .ret)
             (.skip)) <|
          .reg [⟨.mov (.t 11), some 80, none⟩,
           ⟨.bin .add (.t 80) (.v (.int .i64 1)), some 81, none⟩,
           ⟨.mov (.t 81), some 11, none⟩]) <|
       .seq (.reg [⟨.mov (.v (.int .i64 0)), some 12, none⟩]) <|
       .block 12 <|
        .loop <|
         .seq (.seq (.reg [⟨.mov (.t 12), some 110, none⟩,
            ⟨.bin .lss (.t 110) (.v (.int .i64 30)), some 111, none⟩]) <|
          .cond (.t 111) (.skip)
           (.exit 12)) <|
         .seq (.block 13 <|
           .seq (.reg [⟨.mov (.t 5), some 114, none⟩,
             ⟨.mov (.t 9), some 115, none⟩,
             ⟨.ixL 1 (.t 114) (.t 115), some 116, none⟩,
             ⟨.ld1 (.t 116), some 117, none⟩,
             ⟨.mov (.t 10), some 118, none⟩,
             ⟨.mov (.t 12), some 119, none⟩,
             ⟨.bin .add (.t 118) (.t 119), some 120, none⟩,
             ⟨.ixL k (.t 117) (.t 120), some 121, none⟩,
             ⟨.fad 0 (.t 121), some 122, none⟩,
             ⟨.ld1 (.t 122), some 123, none⟩,
             ⟨.mov (.t 9), some 124, none⟩,
             ⟨.bin .mul (.v (.int .i64 1000)) (.t 124), some 125, none⟩,
             ⟨.bin .add (.v (.int .i64 500000)) (.t 125), some 126, none⟩,
             ⟨.mov (.t 12), some 127, none⟩,
             ⟨.bin .add (.t 126) (.t 127), some 128, none⟩,
             ⟨.eqT 1 true (.t 123) (.t 128), some 129, none⟩]) <|
           .cond (.t 129) (.seq (.reg [⟨.mov (.v (.bool false)), some 2, none⟩]) <|
            .ret)
            (.skip)) <|
         .reg [⟨.mov (.t 12), some 112, none⟩,
          ⟨.bin .add (.t 112) (.v (.int .i64 1)), some 113, none⟩,
          ⟨.mov (.t 113), some 12, none⟩]) <|
     .reg [⟨.mov (.t 9), some 70, none⟩,
      ⟨.bin .add (.t 70) (.v (.int .i64 1)), some 71, none⟩,
      ⟨.mov (.t 71), some 9, none⟩]) <|
  .seq (.reg [⟨.mov (.v (.bool true)), some 2, none⟩]) <|
  .ret
theorem gApart_4 (I : Ids) : c388 I = gApart 4 (I.t 197) (I.t 175) [iv 0, iv 0, iv 0, iv 0] := rfl
theorem gApart_3 (I : Ids) : c128 I = gApart 3 (I.t 163) (I.t 34) [iv 0, iv 0, iv 0] := rfl
def gClip (k e : Nat) : IC :=
  .seq (.reg [⟨.mov (.v (.slice none 0 (.ex 0))), some 2, none⟩]) <|
  .seq (.reg [⟨.mov (.t 0), some 3, none⟩,
    ⟨.mov (.t 0), some 4, none⟩,
    ⟨.lenL (.t 4), some 5, none⟩,
    ⟨.mov (.t 0), some 6, none⟩,
    ⟨.lenL (.t 6), some 7, none⟩,
    ⟨.slL e k (.t 3) none (some (.t 5)) (some (.t 7)), some 8, none⟩,
    ⟨.mov (.t 8), some 2, none⟩]) <|
  .ret
theorem gClip_4 (I : Ids) : c391 I = gClip 4 (I.t 197) := rfl
theorem gClip_3 (I : Ids) : c358 I = gClip 3 (I.t 163) := rfl
def gClone (k e : Nat) : IC :=
  .seq (.reg [⟨.mov (.v (.slice none 0 (.ex 0))), some 2, none⟩]) <|
  .seq (.seq (.reg [⟨.mov (.t 0), some 3, none⟩,
     ⟨.isN 2 false (.t 3), some 4, none⟩]) <|
   .cond (.t 4) (.seq (.reg [⟨.mov (.v (.slice none 0 (.ex 0))), some 2, none⟩]) <|
    .ret)
    (.skip)) <|
  .seq (.reg [⟨.bSl e k 0 [] [], some 5, none⟩,
    ⟨.mov (.t 0), some 6, none⟩,
    ⟨.app e k (.t 5) (.t 6), some 7, none⟩,
    ⟨.mov (.t 7), some 2, none⟩]) <|
  .ret
theorem gClone_4 (I : Ids) : c392 I = gClone 4 (I.t 197) := rfl
theorem gClone_3 (I : Ids) : c393 I = gClone 3 (I.t 163) := rfl
end Go.Vm
