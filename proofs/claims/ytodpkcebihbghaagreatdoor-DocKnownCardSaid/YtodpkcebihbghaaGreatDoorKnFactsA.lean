/- The row against the program, part by part. -/
import Derived.Test.YtodpkcebihbghaaGreatDoorKnFactsQ
namespace Go.Proofs.YtodpkcebihbghaaGreatDoor
open Go
set_option linter.unusedVariables false
set_option maxRecDepth 100000
theorem k0 : q0 Tryz.pinned.checked.prog 3 Tryz.f3 (OpenSpec.ofChange Rows.docKnownSpec).bare Rows.docKnownRow = true := by kernel_rfl
theorem k3 : q3 Tryz.pinned.checked.prog 3 Tryz.f3 (OpenSpec.ofChange Rows.docKnownSpec).bare Rows.docKnownRow = true := by kernel_rfl
theorem k6 : q6 Tryz.pinned.checked.prog 3 Tryz.f3 (OpenSpec.ofChange Rows.docKnownSpec).bare Rows.docKnownRow = true := by kernel_rfl
theorem k9 : q9 Tryz.pinned.checked.prog 3 Tryz.f3 (OpenSpec.ofChange Rows.docKnownSpec).bare Rows.docKnownRow = true := by kernel_rfl
theorem k12 : q12 Tryz.pinned.checked.prog 3 Tryz.f3 (OpenSpec.ofChange Rows.docKnownSpec).bare Rows.docKnownRow = true := by kernel_rfl
theorem k15 : q15 Tryz.pinned.checked.prog 3 Tryz.f3 (OpenSpec.ofChange Rows.docKnownSpec).bare Rows.docKnownRow = true := by kernel_rfl
theorem k18 : q18 Tryz.pinned.checked.prog 3 Tryz.f3 (OpenSpec.ofChange Rows.docKnownSpec).bare Rows.docKnownRow = true := by kernel_rfl
theorem k21 : q21 Tryz.pinned.checked.prog 3 Tryz.f3 (OpenSpec.ofChange Rows.docKnownSpec).bare Rows.docKnownRow = true := by kernel_rfl
theorem k24 : q24 Tryz.pinned.checked.prog 3 Tryz.f3 (OpenSpec.ofChange Rows.docKnownSpec).bare Rows.docKnownRow = true := by kernel_rfl
theorem k27 : q27 Tryz.pinned.checked.prog 3 Tryz.f3 (OpenSpec.ofChange Rows.docKnownSpec).bare Rows.docKnownRow = true := by kernel_rfl
theorem k30 : q30 Tryz.pinned.checked.prog 3 Tryz.f3 (OpenSpec.ofChange Rows.docKnownSpec).bare Rows.docKnownRow = true := by kernel_rfl
end Go.Proofs.YtodpkcebihbghaaGreatDoor
