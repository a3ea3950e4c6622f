/- DocKnown: the heap at start, as the virtual machine has it. -/
import Derived.Test.YtodpkcebihbghaaGreatDoorVmSum
import Derived.Test.YtodpkcebihbghaaGreatDoorProg
set_option linter.unusedVariables false
set_option linter.unusedSimpArgs false
namespace Go.Proofs.YtodpkcebihbghaaGreatDoor
open Go Go.Vm
def sents : List (Nat × List UInt8) := [(0, [100, 111, 118, 101, 116, 97, 105, 108, 58, 32, 97, 114, 103, 117, 109, 101, 110, 116]), (4, [100, 111, 118, 101, 116, 97, 105, 108, 58, 32, 115, 121, 110, 116, 97, 120]), (5, [100, 111, 118, 101, 116, 97, 105, 108, 58, 32, 98, 111, 117, 110, 100, 115]), (6, [100, 111, 118, 101, 116, 97, 105, 108, 58, 32, 110, 111, 116, 32, 97, 110, 32, 111, 112, 101, 114, 97, 116, 111, 114, 32, 103, 114, 97, 109, 109, 97, 114]), (7, [100, 111, 118, 101, 116, 97, 105, 108, 58, 32, 116, 119, 111, 32, 114, 101, 108, 97, 116, 105, 111, 110, 115]), (8, [100, 111, 118, 101, 116, 97, 105, 108, 58, 32, 116, 111, 111, 32, 98, 105, 103]), (9, [100, 111, 118, 101, 116, 97, 105, 108, 58, 32, 114, 101, 102, 117, 115, 101, 100]), (2, [100, 111, 118, 101, 116, 97, 105, 108, 58, 32, 99, 117, 116]), (10, [100, 111, 118, 101, 116, 97, 105, 108, 58, 32, 112, 108, 97, 110]), (11, [100, 111, 118, 101, 116, 97, 105, 108, 58, 32, 110, 97, 109, 101]), (12, [100, 111, 118, 101, 116, 97, 105, 108, 58, 32, 116, 114, 101, 101]), (1, [100, 111, 118, 101, 116, 97, 105, 108, 58, 32, 108, 111, 110, 103]), (13, [100, 111, 118, 101, 116, 97, 105, 108, 58, 32, 102, 111, 114, 109]), (14, [100, 111, 118, 101, 116, 97, 105, 108, 58, 32, 115, 117, 109]), (3, [100, 111, 118, 101, 116, 97, 105, 108, 58, 32, 110, 111, 110, 101]), (15, [115, 116, 97, 99, 107, 58, 32, 97, 32, 112, 105, 101, 99, 101, 32, 116, 104, 97, 116, 32, 109, 97, 121, 32, 110, 111, 116, 32, 98, 101])]
def tab18 : List Int := [0, 1, 56, 2, 57, 49, 28, 3, 61, 58, 42, 50, 38, 29, 17, 4, 62, 47, 59, 36, 45, 43, 51, 22, 53, 39, 33, 30, 24, 18, 12, 5, 63, 55, 48, 27, 60, 41, 37, 16, 46, 35, 44, 21, 52, 32, 23, 11, 54, 26, 40, 15, 34, 20, 31, 10, 25, 14, 19, 9, 13, 8, 7, 6]
def ex : List (Nat × Ob) := [(18, ro1 (tab18.map fun n => V.int .u8 n) (0, 0)), (16, ro1 [.iface 150 (.agg [.ptr (some (19, 24))])] (0, 1)), (17, .dead), (19, .dead)]
def hl0 : List (Nat × Ob) := startL 416 19 sents ex
def h0 : Hp := { t := mkT hl0, next := 39 }
noncomputable def body3 : Code := Tryz.f3.body.getD .skip
noncomputable def body5 : Code := Tryz.f5.body.getD .skip
noncomputable def body6 : Code := Tryz.f6.body.getD .skip
noncomputable def body8 : Code := Tryz.f8.body.getD .skip
noncomputable def body18 : Code := Tryz.f18.body.getD .skip
noncomputable def body35 : Code := Tryz.f35.body.getD .skip
noncomputable def body60 : Code := Tryz.f60.body.getD .skip
noncomputable def body94 : Code := Tryz.f94.body.getD .skip
def s0 : S := { F := .nil, ds := [], md := none, h := h0 }
end Go.Proofs.YtodpkcebihbghaaGreatDoor
