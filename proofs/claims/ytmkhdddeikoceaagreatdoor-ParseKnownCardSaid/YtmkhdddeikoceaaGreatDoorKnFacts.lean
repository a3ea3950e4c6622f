/- ParseKnown: the row's closed facts, one by one. -/
import Derived.Test.YtmkhdddeikoceaaGreatDoorCards
import Derived.Test.YtmkhdddeikoceaaGreatDoorTie
import Derived.WalkKit
import Derived.JoinedCond
import Derived.SevenTiedAt
set_option linter.unusedVariables false
set_option linter.unusedSimpArgs false
namespace Go.Proofs.YtmkhdddeikoceaaGreatDoor
open Go
set_option maxRecDepth 100000
theorem fNamed : Tryz.pinned.checked.prog.funcNamed Rows.parseKnownRow.func = some 3 := by kernel_rfl
theorem fClosed : joinedFacts Tryz.pinned.checked.prog 3 Tryz.f3 (OpenSpec.ofChange Rows.parseKnownSpec).bare Rows.parseKnownRow = true := by kernel_rfl
theorem fInst : Tryz.f3.isInstance Tryz.pinned.checked.prog Rows.parseKnownRow.origin Rows.parseKnownRow.targs := of_decide_eq_true (by kernel_rfl)
theorem fWrap : Tryz.f3.isWrapper Tryz.pinned.checked.prog Rows.parseKnownRow.wrapper Rows.parseKnownRow.mainSum := by
  unfold Func.isWrapper
  first | (rw [if_pos (by decide +kernel)]; kernel_rfl) | (rw [if_neg (by decide +kernel)]; exact ⟨rfl, rfl⟩)
theorem fText : Rows.parseKnownRow.wfByText (OpenSpec.ofChange Rows.parseKnownSpec) = true := by kernel_rfl
theorem fMain : Tryz.pinned.checked.prog.mainIs = some (true, "08f49ca91eb106b63799f6616f8e2e071e96111d860f90cb366f31780592cab7".toList) := by kernel_rfl
theorem fGoes : false = Rows.parseKnownRow.goesBy Tryz.pinned.checked.prog := by kernel_rfl
theorem plain (f : FuncId) (fn : Func) (hf : Tryz.pinned.checked.prog.funcNamed "dovetail/dovetaillaw17.ParseKnown" = some f) (hfn : Tryz.pinned.checked.prog.funcs[f]? = some fn) :
    true = Tryz.pinned.checked.prog.looks [] ∧ ∀ (j : Nat) t, fn.params[j]? = some t → Tryz.pinned.checked.prog.wantsStandIn t = false := by
  obtain rfl : f = 3 := Option.some.inj (fNamed.symm.trans hf) |>.symm
  obtain rfl : fn = Tryz.f3 := (Option.some.inj (Tryz.func3.symm.trans hfn)).symm
  refine ⟨by kernel_rfl, fun j t ht => ?_⟩
  have hall : (Tryz.f3.params.toList.all fun t => !Tryz.pinned.checked.prog.wantsStandIn t) = true := by kernel_rfl
  have := List.all_eq_true.1 hall t (List.mem_of_getElem? (by rw [Array.getElem?_toList]; exact ht))
  simpa using this
end Go.Proofs.YtmkhdddeikoceaaGreatDoor
