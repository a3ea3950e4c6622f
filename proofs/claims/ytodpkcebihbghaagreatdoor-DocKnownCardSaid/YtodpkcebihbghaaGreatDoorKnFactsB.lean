/- The row against the program, part by part. -/
import Derived.Test.YtodpkcebihbghaaGreatDoorKnFactsQ
namespace Go.Proofs.YtodpkcebihbghaaGreatDoor
open Go
set_option linter.unusedVariables false
set_option maxRecDepth 100000
theorem k1 : q1 Tryz.pinned.checked.prog 3 Tryz.f3 (OpenSpec.ofChange Rows.docKnownSpec).bare Rows.docKnownRow = true := by kernel_rfl
theorem k4 : q4 Tryz.pinned.checked.prog 3 Tryz.f3 (OpenSpec.ofChange Rows.docKnownSpec).bare Rows.docKnownRow = true := by kernel_rfl
theorem k7 : q7 Tryz.pinned.checked.prog 3 Tryz.f3 (OpenSpec.ofChange Rows.docKnownSpec).bare Rows.docKnownRow = true := by kernel_rfl
theorem k10 : q10 Tryz.pinned.checked.prog 3 Tryz.f3 (OpenSpec.ofChange Rows.docKnownSpec).bare Rows.docKnownRow = true := by kernel_rfl
theorem k13 : q13 Tryz.pinned.checked.prog 3 Tryz.f3 (OpenSpec.ofChange Rows.docKnownSpec).bare Rows.docKnownRow = true := by kernel_rfl
theorem k16 : q16 Tryz.pinned.checked.prog 3 Tryz.f3 (OpenSpec.ofChange Rows.docKnownSpec).bare Rows.docKnownRow = true := by kernel_rfl
theorem k19 : q19 Tryz.pinned.checked.prog 3 Tryz.f3 (OpenSpec.ofChange Rows.docKnownSpec).bare Rows.docKnownRow = true := by kernel_rfl
theorem k22 : q22 Tryz.pinned.checked.prog 3 Tryz.f3 (OpenSpec.ofChange Rows.docKnownSpec).bare Rows.docKnownRow = true := by kernel_rfl
theorem k25 : q25 Tryz.pinned.checked.prog 3 Tryz.f3 (OpenSpec.ofChange Rows.docKnownSpec).bare Rows.docKnownRow = true := by kernel_rfl
theorem k28 : q28 Tryz.pinned.checked.prog 3 Tryz.f3 (OpenSpec.ofChange Rows.docKnownSpec).bare Rows.docKnownRow = true := by kernel_rfl
theorem k31 : q31 Tryz.pinned.checked.prog 3 Tryz.f3 (OpenSpec.ofChange Rows.docKnownSpec).bare Rows.docKnownRow = true := by kernel_rfl
end Go.Proofs.YtodpkcebihbghaaGreatDoor
