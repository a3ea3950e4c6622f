/- SpliceKnown: what is known of dovetail/dovetaillaw21.nested: what it returns is of its own making, and it turns nothing. -/
import Derived.Test.YtdkcppbjpmepbaaGreatDoorKnSD
import Derived.Test.YtdkcppbjpmepbaaGreatDoorKnAC1
set_option linter.unusedVariables false
set_option linter.unusedSimpArgs false
namespace Go.Proofs.YtdkcppbjpmepbaaGreatDoor
open Go Go.Vm
set_option maxRecDepth 100000
theorem globs : Tryz.prog.globals.size = 19 := by kernel_rfl
theorem acodeOk : itemsOk Tryz.prog 8 [.code body4] = true := by
  have h := hyp.fns.ok 4 (by kernel_rfl)
  unfold okFn at h
  rw [Tryz.func4] at h
  have hb : Tryz.f4.body = some body4 := by kernel_rfl
  dsimp only at h
  rw [hb] at h
  simp only [Bool.and_eq_true] at h
  have h1 := h.1
  rw [Tryz.ntmps4] at h1
  simp [itemsOk, itemOk, h1]
theorem acfgOk0 : cfgOk Tryz.prog { st := [], f := 4, nt := 8, k := [.code body4], s := s0 } :=
  ⟨⟨hyp.fns.ok 4 (by kernel_rfl), fun fn hf => by rw [Tryz.func4] at hf; cases hf; exact Tryz.ntmps4⟩, acodeOk, fun t ht => by cases ht⟩
theorem arun : GoesF Tryz.prog 4 sv { t := mkT she, next := 609 } { st := [], f := 4, nt := Tryz.f4.ntmps, k := [.code body4], s := s0 } := by
  rw [Tryz.ntmps4]
  exact goesF_ret hyp globs ac1 acfgOk0
noncomputable def fnsS : Fns := { fns with sum := sumNew 4 sv 39 609 hl0 she }
theorem afit : startFit Tryz.prog.globals.size hl0 39 = true := by rw [globs]; kernel_rfl
theorem anew : newFit 39 609 sv she = true := by kernel_rfl
theorem hypS : VmHyp Tryz.prog fnsS where
  mixed := hyp.mixed
  ext := hyp.ext
  num := hyp.num
  fns := ⟨hyp.fns.ok, hyp.fns.ins, fun g args md h r hr rs kind μ w c0 cs R ha hc =>
    sumNew_ok Tryz.func4 (show Tryz.f4.body = some body4 by kernel_rfl) afit anew arun g args md h r hr rs kind μ w c0 cs R ha hc⟩
end Go.Proofs.YtdkcppbjpmepbaaGreatDoor
