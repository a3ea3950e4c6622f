/- DocKnown: the row's closed facts, one by one. -/
import Derived.Test.YtodpkcebihbghaaGreatDoorKnFactsA
import Derived.Test.YtodpkcebihbghaaGreatDoorKnFactsB
import Derived.Test.YtodpkcebihbghaaGreatDoorKnFactsC
import Derived.Test.YtodpkcebihbghaaGreatDoorCards
import Derived.Test.YtodpkcebihbghaaGreatDoorTie
import Derived.WalkKit
import Derived.JoinedCond
import Derived.SevenTiedAt
set_option linter.unusedVariables false
set_option linter.unusedSimpArgs false
namespace Go.Proofs.YtodpkcebihbghaaGreatDoor
open Go
set_option maxRecDepth 100000
theorem fNamed : Tryz.pinned.checked.prog.funcNamed Rows.docKnownRow.func = some 3 := by kernel_rfl
theorem fClosed : joinedFacts Tryz.pinned.checked.prog 3 Tryz.f3 (OpenSpec.ofChange Rows.docKnownSpec).bare Rows.docKnownRow = true := joined_parts k0 k1 k2 k3 k4 k5 k6 k7 k8 k9 k10 k11 k12 k13 k14 k15 k16 k17 k18 k19 k20 k21 k22 k23 k24 k25 k26 k27 k28 k29 k30 k31
theorem fInst : Tryz.f3.isInstance Tryz.pinned.checked.prog Rows.docKnownRow.origin Rows.docKnownRow.targs := of_decide_eq_true (by kernel_rfl)
theorem fWrap : Tryz.f3.isWrapper Tryz.pinned.checked.prog Rows.docKnownRow.wrapper Rows.docKnownRow.mainSum := by
  unfold Func.isWrapper
  first | (rw [if_pos (by decide +kernel)]; kernel_rfl) | (rw [if_neg (by decide +kernel)]; exact ⟨rfl, rfl⟩)
theorem fText : Rows.docKnownRow.wfByText (OpenSpec.ofChange Rows.docKnownSpec) = true := by kernel_rfl
theorem fMain : Tryz.pinned.checked.prog.mainIs = some (true, "87f194e08ede4a0efa91543834df2b8c20a8f76316a6480b81cfced0ed1943e6".toList) := by kernel_rfl
theorem fGoes : false = Rows.docKnownRow.goesBy Tryz.pinned.checked.prog := by kernel_rfl
theorem plain (f : FuncId) (fn : Func) (hf : Tryz.pinned.checked.prog.funcNamed "dovetail/dovetaillaw26.DocKnown" = some f) (hfn : Tryz.pinned.checked.prog.funcs[f]? = some fn) :
    true = Tryz.pinned.checked.prog.looks [] ∧ ∀ (j : Nat) t, fn.params[j]? = some t → Tryz.pinned.checked.prog.wantsStandIn t = false := by
  obtain rfl : f = 3 := Option.some.inj (fNamed.symm.trans hf) |>.symm
  obtain rfl : fn = Tryz.f3 := (Option.some.inj (Tryz.func3.symm.trans hfn)).symm
  refine ⟨by kernel_rfl, fun j t ht => ?_⟩
  have hall : (Tryz.f3.params.toList.all fun t => !Tryz.pinned.checked.prog.wantsStandIn t) = true := by kernel_rfl
  have := List.all_eq_true.1 hall t (List.mem_of_getElem? (by rw [Array.getElem?_toList]; exact ht))
  simpa using this
end Go.Proofs.YtodpkcebihbghaaGreatDoor
