/- DocKnown: a world that meets the row's condition on memory. -/
import Derived.Test.YtodpkcebihbghaaGreatDoorKnDefs
import Derived.Test.YtodpkcebihbghaaGreatDoorCards
import Derived.WalkKit
import Derived.ProofKit
import Derived.OpenShut
import Derived.Deep.DeepHandedRow
import Derived.LaidHandle
set_option linter.unusedVariables false
set_option linter.unusedSimpArgs false
namespace Go.Proofs.YtodpkcebihbghaaGreatDoor
open Go Go.Vm Go.ChangeShapes Go.WideShapes Go.ChangeAt Go.RowKit
set_option maxRecDepth 100000
abbrev laid : List (String × DataW Unit) := Rows.docKnownRow.laid
noncomputable def low : Nat := (World.holding Tryz.prog default ⟨#[], #[], []⟩).heap.size
def laidCells (low : Nat) : List (Nat × Array Value) := [(0, #[Value.iface 416 (.pointer (some ⟨low + 0, 0, none⟩))]), (4, #[Value.iface 416 (.pointer (some ⟨low + 1, 0, none⟩))]), (5, #[Value.iface 416 (.pointer (some ⟨low + 2, 0, none⟩))]), (6, #[Value.iface 416 (.pointer (some ⟨low + 3, 0, none⟩))]), (7, #[Value.iface 416 (.pointer (some ⟨low + 4, 0, none⟩))]), (8, #[Value.iface 416 (.pointer (some ⟨low + 5, 0, none⟩))]), (9, #[Value.iface 416 (.pointer (some ⟨low + 6, 0, none⟩))]), (2, #[Value.iface 416 (.pointer (some ⟨low + 7, 0, none⟩))]), (10, #[Value.iface 416 (.pointer (some ⟨low + 8, 0, none⟩))]), (11, #[Value.iface 416 (.pointer (some ⟨low + 9, 0, none⟩))]), (12, #[Value.iface 416 (.pointer (some ⟨low + 10, 0, none⟩))]), (1, #[Value.iface 416 (.pointer (some ⟨low + 11, 0, none⟩))]), (13, #[Value.iface 416 (.pointer (some ⟨low + 12, 0, none⟩))]), (14, #[Value.iface 416 (.pointer (some ⟨low + 13, 0, none⟩))]), (3, #[Value.iface 416 (.pointer (some ⟨low + 14, 0, none⟩))]), (15, #[Value.iface 416 (.pointer (some ⟨low + 15, 0, none⟩))]), (16, #[.iface 150 (.agg #[.pointer (some ⟨19, 24, none⟩)])]), (18, (tab18.map fun n => Value.int .u8 n).toArray)]
def layCells (h : Array Obj) (x : Nat × Array Value) : Array Obj := h.modify x.1 fun o => match o with
  | .cells _ t frozen => .cells x.2 t frozen
  | o => o
noncomputable def laidWorld (os : Os) : World :=
  let w0 := World.holding Tryz.prog os ⟨(sents.map fun e => Obj.cells #[.string ⟨e.2.toArray⟩] 434).toArray, #[], []⟩
  { w0 with heap := (laidCells low).foldl layCells w0.heap }
theorem laid_met (os : Os) : laidMetH Tryz.prog laid ((laidWorld os).forCall (fun _ _ => 0) ⟨#[], #[], []⟩).memory :=
  laidMetH_of_parts (laidMet_of_run' 8 (by kernel_rfl) (by kernel_rfl)) (by kernel_rfl)
theorem reads (os : Os) {H : Type} (enc : TypeId × Value → H) : ∃ places, DataW.whole enc Tryz.prog ((laidWorld os).forCall (fun _ _ => 0) ⟨#[], #[], []⟩).memory Tryz.f3.params.toList Rows.docKnownSpec.vars false (#[] : Array Value).toList 8 = some ([], [], places) :=
  ⟨[], by kernel_rfl⟩
theorem wit (os : Os) {H : Type} (enc : TypeId × Value → H) : ∃ (w : World) (tape : Tape) (i : Input), w.os = os ∧ (w.forCall tape i).Shaped Tryz.checked.prog ∧ i.vars = [] ∧ Input.okWide Tryz.checked.prog (w.forCall tape i) .any w.heap.size 3 i ∧
    (OpenSpec.ofChange Rows.docKnownSpec).preRow enc Tryz.checked.prog Tryz.f3 Rows.docKnownRow.domain false Rows.docKnownRow.laid (w.forCall tape i).memory i.args ∧ ({} : Assume).holds Tryz.checked.prog (lone (Frame.enter Tryz.checked.prog 3 i.args .normal) [] (w.forCall tape i)) := by
  obtain ⟨places, hx⟩ := reads os enc
  exact witness_row_at (enc := enc) (C := Tryz.checked) false (laidWorld os) #[] rfl (by kernel_rfl) (by kernel_rfl) (by kernel_rfl)
    (OpenSpec.preRow_of_cond 8 hx (by kernel_rfl) (fun k hk => by cases hk) (by kernel_rfl) (laid_met os))
end Go.Proofs.YtodpkcebihbghaaGreatDoor
