/- ChunkKnown: the row's closed facts, one by one. -/
import Derived.Test.YtcndpppeiolapaaGreatDoorCards
import Derived.Test.YtcndpppeiolapaaGreatDoorTie
import Derived.WalkKit
import Derived.JoinedCond
import Derived.SevenTiedAt
set_option linter.unusedVariables false
set_option linter.unusedSimpArgs false
namespace Go.Proofs.YtcndpppeiolapaaGreatDoor
open Go
set_option maxRecDepth 100000
theorem fNamed : Tryz.pinned.checked.prog.funcNamed Rows.chunkKnownRow.func = some 3 := by kernel_rfl
theorem fClosed : joinedFacts Tryz.pinned.checked.prog 3 Tryz.f3 (OpenSpec.ofChange Rows.chunkKnownSpec).bare Rows.chunkKnownRow = true := by kernel_rfl
theorem fInst : Tryz.f3.isInstance Tryz.pinned.checked.prog Rows.chunkKnownRow.origin Rows.chunkKnownRow.targs := of_decide_eq_true (by kernel_rfl)
theorem fWrap : Tryz.f3.isWrapper Tryz.pinned.checked.prog Rows.chunkKnownRow.wrapper Rows.chunkKnownRow.mainSum := by
  unfold Func.isWrapper
  first | (rw [if_pos (by decide +kernel)]; kernel_rfl) | (rw [if_neg (by decide +kernel)]; exact ⟨rfl, rfl⟩)
theorem fText : Rows.chunkKnownRow.wfByText (OpenSpec.ofChange Rows.chunkKnownSpec) = true := by kernel_rfl
theorem fMain : Tryz.pinned.checked.prog.mainIs = some (true, "5ad782a5af03f0a2daad5dca5981748d2093ab375bc41c1b9a632c549216ff33".toList) := by kernel_rfl
theorem fGoes : false = Rows.chunkKnownRow.goesBy Tryz.pinned.checked.prog := by kernel_rfl
theorem plain (f : FuncId) (fn : Func) (hf : Tryz.pinned.checked.prog.funcNamed "dovetail/dovetaillaw20.ChunkKnown" = some f) (hfn : Tryz.pinned.checked.prog.funcs[f]? = some fn) :
    true = Tryz.pinned.checked.prog.looks [] ∧ ∀ (j : Nat) t, fn.params[j]? = some t → Tryz.pinned.checked.prog.wantsStandIn t = false := by
  obtain rfl : f = 3 := Option.some.inj (fNamed.symm.trans hf) |>.symm
  obtain rfl : fn = Tryz.f3 := (Option.some.inj (Tryz.func3.symm.trans hfn)).symm
  refine ⟨by kernel_rfl, fun j t ht => ?_⟩
  rw [Tryz.params3] at ht
  simp at ht
end Go.Proofs.YtcndpppeiolapaaGreatDoor
