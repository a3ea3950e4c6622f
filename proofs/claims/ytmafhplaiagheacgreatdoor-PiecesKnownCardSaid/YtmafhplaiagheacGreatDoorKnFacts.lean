/- PiecesKnown: the row's closed facts, one by one. -/
import Derived.Test.YtmafhplaiagheacGreatDoorKnFactsA
import Derived.Test.YtmafhplaiagheacGreatDoorKnFactsB
import Derived.Test.YtmafhplaiagheacGreatDoorKnFactsC
import Derived.Test.YtmafhplaiagheacGreatDoorCards
import Derived.Test.YtmafhplaiagheacGreatDoorTie
import Derived.WalkKit
import Derived.JoinedCond
import Derived.SevenTiedAt
set_option linter.unusedVariables false
set_option linter.unusedSimpArgs false
namespace Go.Proofs.YtmafhplaiagheacGreatDoor
open Go
set_option maxRecDepth 100000
theorem fNamed : Tryz.pinned.checked.prog.funcNamed Rows.piecesKnownRow.func = some 3 := by kernel_rfl
theorem fClosed : joinedFacts Tryz.pinned.checked.prog 3 Tryz.f3 (OpenSpec.ofChange Rows.piecesKnownSpec).bare Rows.piecesKnownRow = true := joined_parts k0 k1 k2 k3 k4 k5 k6 k7 k8 k9 k10 k11 k12 k13 k14 k15 k16 k17 k18 k19 k20 k21 k22 k23 k24 k25 k26 k27 k28 k29 k30 k31
theorem fInst : Tryz.f3.isInstance Tryz.pinned.checked.prog Rows.piecesKnownRow.origin Rows.piecesKnownRow.targs := of_decide_eq_true (by kernel_rfl)
theorem fWrap : Tryz.f3.isWrapper Tryz.pinned.checked.prog Rows.piecesKnownRow.wrapper Rows.piecesKnownRow.mainSum := by
  unfold Func.isWrapper
  first | (rw [if_pos (by decide +kernel)]; kernel_rfl) | (rw [if_neg (by decide +kernel)]; exact ⟨rfl, rfl⟩)
theorem fText : Rows.piecesKnownRow.wfByText (OpenSpec.ofChange Rows.piecesKnownSpec) = true := by kernel_rfl
theorem fMain : Tryz.pinned.checked.prog.mainIs = some (true, "d5f30f6464d17223868e7eb893cc820096ce8bb768d1b2fc7923fede90cc85c0".toList) := by kernel_rfl
theorem fGoes : false = Rows.piecesKnownRow.goesBy Tryz.pinned.checked.prog := by kernel_rfl
theorem plain (f : FuncId) (fn : Func) (hf : Tryz.pinned.checked.prog.funcNamed "dovetail/dovetaillaw23.PiecesKnown" = some f) (hfn : Tryz.pinned.checked.prog.funcs[f]? = some fn) :
    true = Tryz.pinned.checked.prog.looks [] ∧ ∀ (j : Nat) t, fn.params[j]? = some t → Tryz.pinned.checked.prog.wantsStandIn t = false := by
  obtain rfl : f = 3 := Option.some.inj (fNamed.symm.trans hf) |>.symm
  obtain rfl : fn = Tryz.f3 := (Option.some.inj (Tryz.func3.symm.trans hfn)).symm
  refine ⟨by kernel_rfl, fun j t ht => ?_⟩
  rw [Tryz.params3] at ht
  simp at ht
end Go.Proofs.YtmafhplaiagheacGreatDoor
