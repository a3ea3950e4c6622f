/- The row against the program, part by part. -/
import Derived.Test.YtodpkcebihbghaaGreatDoorKnFactsQ
namespace Go.Proofs.YtodpkcebihbghaaGreatDoor
open Go
set_option linter.unusedVariables false
set_option maxRecDepth 100000
theorem k2 : q2 Tryz.pinned.checked.prog 3 Tryz.f3 (OpenSpec.ofChange Rows.docKnownSpec).bare Rows.docKnownRow = true := by kernel_rfl
theorem k5 : q5 Tryz.pinned.checked.prog 3 Tryz.f3 (OpenSpec.ofChange Rows.docKnownSpec).bare Rows.docKnownRow = true := by kernel_rfl
theorem k8 : q8 Tryz.pinned.checked.prog 3 Tryz.f3 (OpenSpec.ofChange Rows.docKnownSpec).bare Rows.docKnownRow = true := by kernel_rfl
theorem k11 : q11 Tryz.pinned.checked.prog 3 Tryz.f3 (OpenSpec.ofChange Rows.docKnownSpec).bare Rows.docKnownRow = true := by kernel_rfl
theorem k14 : q14 Tryz.pinned.checked.prog 3 Tryz.f3 (OpenSpec.ofChange Rows.docKnownSpec).bare Rows.docKnownRow = true := by kernel_rfl
theorem k17 : q17 Tryz.pinned.checked.prog 3 Tryz.f3 (OpenSpec.ofChange Rows.docKnownSpec).bare Rows.docKnownRow = true := by kernel_rfl
theorem k20 : q20 Tryz.pinned.checked.prog 3 Tryz.f3 (OpenSpec.ofChange Rows.docKnownSpec).bare Rows.docKnownRow = true := by kernel_rfl
theorem k23 : q23 Tryz.pinned.checked.prog 3 Tryz.f3 (OpenSpec.ofChange Rows.docKnownSpec).bare Rows.docKnownRow = true := by kernel_rfl
theorem k26 : q26 Tryz.pinned.checked.prog 3 Tryz.f3 (OpenSpec.ofChange Rows.docKnownSpec).bare Rows.docKnownRow = true := by kernel_rfl
theorem k29 : q29 Tryz.pinned.checked.prog 3 Tryz.f3 (OpenSpec.ofChange Rows.docKnownSpec).bare Rows.docKnownRow = true := by kernel_rfl
end Go.Proofs.YtodpkcebihbghaaGreatDoor
