/- SpliceKnown: the row's closed facts, one by one. -/
import Derived.Test.YtdkcppbjpmepbaaGreatDoorCards
import Derived.Test.YtdkcppbjpmepbaaGreatDoorTie
import Derived.WalkKit
import Derived.JoinedCond
import Derived.SevenTiedAt
set_option linter.unusedVariables false
set_option linter.unusedSimpArgs false
namespace Go.Proofs.YtdkcppbjpmepbaaGreatDoor
open Go
set_option maxRecDepth 100000
theorem fNamed : Tryz.pinned.checked.prog.funcNamed Rows.spliceKnownRow.func = some 3 := by kernel_rfl
theorem fClosed : joinedFacts Tryz.pinned.checked.prog 3 Tryz.f3 (OpenSpec.ofChange Rows.spliceKnownSpec).bare Rows.spliceKnownRow = true := by kernel_rfl
theorem fInst : Tryz.f3.isInstance Tryz.pinned.checked.prog Rows.spliceKnownRow.origin Rows.spliceKnownRow.targs := of_decide_eq_true (by kernel_rfl)
theorem fWrap : Tryz.f3.isWrapper Tryz.pinned.checked.prog Rows.spliceKnownRow.wrapper Rows.spliceKnownRow.mainSum := by
  unfold Func.isWrapper
  first | (rw [if_pos (by decide +kernel)]; kernel_rfl) | (rw [if_neg (by decide +kernel)]; exact ⟨rfl, rfl⟩)
theorem fText : Rows.spliceKnownRow.wfByText (OpenSpec.ofChange Rows.spliceKnownSpec) = true := by kernel_rfl
theorem fMain : Tryz.pinned.checked.prog.mainIs = some (true, "2abe9140a0b7270b70677e7d069a572c0c159f9113a6d0e5ff6db7a266db8743".toList) := by kernel_rfl
theorem fGoes : false = Rows.spliceKnownRow.goesBy Tryz.pinned.checked.prog := by kernel_rfl
theorem plain (f : FuncId) (fn : Func) (hf : Tryz.pinned.checked.prog.funcNamed "dovetail/dovetaillaw21.SpliceKnown" = some f) (hfn : Tryz.pinned.checked.prog.funcs[f]? = some fn) :
    true = Tryz.pinned.checked.prog.looks [] ∧ ∀ (j : Nat) t, fn.params[j]? = some t → Tryz.pinned.checked.prog.wantsStandIn t = false := by
  obtain rfl : f = 3 := Option.some.inj (fNamed.symm.trans hf) |>.symm
  obtain rfl : fn = Tryz.f3 := (Option.some.inj (Tryz.func3.symm.trans hfn)).symm
  refine ⟨by kernel_rfl, fun j t ht => ?_⟩
  have hall : (Tryz.f3.params.toList.all fun t => !Tryz.pinned.checked.prog.wantsStandIn t) = true := by kernel_rfl
  have := List.all_eq_true.1 hall t (List.mem_of_getElem? (by rw [Array.getElem?_toList]; exact ht))
  simpa using this
end Go.Proofs.YtdkcppbjpmepbaaGreatDoor
