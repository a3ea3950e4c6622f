/- BackmapChains: the row's closed facts, one by one. -/
import Derived.Test.YthebkalnpmkkpaaGreatDoorCards
import Derived.Test.YthebkalnpmkkpaaGreatDoorTie
import Derived.WalkKit
import Derived.JoinedCond
import Derived.SevenTiedAt
set_option linter.unusedVariables false
set_option linter.unusedSimpArgs false
namespace Go.Proofs.YthebkalnpmkkpaaGreatDoor
open Go
set_option maxRecDepth 100000
theorem fNamed : Tryz.pinned.checked.prog.funcNamed Rows.backmapChainsRow.func = some 3 := by kernel_rfl
theorem fClosed : joinedFacts Tryz.pinned.checked.prog 3 Tryz.f3 (OpenSpec.ofChange Rows.backmapChainsSpec).bare Rows.backmapChainsRow = true := by kernel_rfl
theorem fInst : Tryz.f3.isInstance Tryz.pinned.checked.prog Rows.backmapChainsRow.origin Rows.backmapChainsRow.targs := of_decide_eq_true (by kernel_rfl)
theorem fWrap : Tryz.f3.isWrapper Tryz.pinned.checked.prog Rows.backmapChainsRow.wrapper Rows.backmapChainsRow.mainSum := by
  unfold Func.isWrapper
  first | (rw [if_pos (by decide +kernel)]; kernel_rfl) | (rw [if_neg (by decide +kernel)]; exact ⟨rfl, rfl⟩)
theorem fText : Rows.backmapChainsRow.wfByText (OpenSpec.ofChange Rows.backmapChainsSpec) = true := by kernel_rfl
theorem fMain : Tryz.pinned.checked.prog.mainIs = some (true, "a339ac3714819be80fb0c60d3fbfbaf2d0d0229cd765d8724cd36ca1f713c373".toList) := by kernel_rfl
theorem fGoes : false = Rows.backmapChainsRow.goesBy Tryz.pinned.checked.prog := by kernel_rfl
theorem plain (f : FuncId) (fn : Func) (hf : Tryz.pinned.checked.prog.funcNamed "dovetail/dovetaillaw19.BackmapChains" = some f) (hfn : Tryz.pinned.checked.prog.funcs[f]? = some fn) :
    true = Tryz.pinned.checked.prog.looks [] ∧ ∀ (j : Nat) t, fn.params[j]? = some t → Tryz.pinned.checked.prog.wantsStandIn t = false := by
  obtain rfl : f = 3 := Option.some.inj (fNamed.symm.trans hf) |>.symm
  obtain rfl : fn = Tryz.f3 := (Option.some.inj (Tryz.func3.symm.trans hfn)).symm
  refine ⟨by kernel_rfl, fun j t ht => ?_⟩
  have hall : (Tryz.f3.params.toList.all fun t => !Tryz.pinned.checked.prog.wantsStandIn t) = true := by kernel_rfl
  have := List.all_eq_true.1 hall t (List.mem_of_getElem? (by rw [Array.getElem?_toList]; exact ht))
  simpa using this
end Go.Proofs.YthebkalnpmkkpaaGreatDoor
