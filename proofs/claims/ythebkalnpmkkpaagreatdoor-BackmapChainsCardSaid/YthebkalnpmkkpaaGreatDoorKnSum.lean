/- BackmapChains: what is known of dovetail/dovetaillaw19.awake: it returns true and turns nothing. -/
import Derived.Test.YthebkalnpmkkpaaGreatDoorKnAC1
import Derived.Test.YthebkalnpmkkpaaGreatDoorKnAC2
set_option linter.unusedVariables false
set_option linter.unusedSimpArgs false
namespace Go.Proofs.YthebkalnpmkkpaaGreatDoor
open Go Go.Vm
set_option maxRecDepth 100000
theorem globs : Tryz.prog.globals.size = 18 := by kernel_rfl
theorem acodeOk : itemsOk Tryz.prog 8 [.code body10] = true := by
  have h := hyp.fns.ok 10 (by kernel_rfl)
  unfold okFn at h
  rw [Tryz.func10] at h
  have hb : Tryz.f10.body = some body10 := by kernel_rfl
  dsimp only at h
  rw [hb] at h
  simp only [Bool.and_eq_true] at h
  have h1 := h.1
  rw [Tryz.ntmps10] at h1
  simp [itemsOk, itemOk, h1]
theorem acfgOk0 : cfgOk Tryz.prog { st := [], f := 10, nt := 8, k := [.code body10], s := s0 } :=
  ⟨⟨hyp.fns.ok 10 (by kernel_rfl), fun fn hf => by rw [Tryz.func10] at hf; cases hf; exact Tryz.ntmps10⟩, acodeOk, fun t ht => by cases ht⟩
theorem arun : GoesC Tryz.prog 10 (.bool true) { st := [], f := 10, nt := Tryz.f10.ntmps, k := [.code body10], s := s0 } := by
  rw [Tryz.ntmps10]
  exact goesC_chunk hyp globs ac1 (goesC_ret hyp ac2) acfgOk0
def fnsS : Fns := { fns with sum := sumOf 10 true hl0 }
theorem afit : startFit Tryz.prog.globals.size hl0 37 = true := by rw [globs]; kernel_rfl
theorem hypS : VmHyp Tryz.prog fnsS where
  mixed := hyp.mixed
  ext := hyp.ext
  num := hyp.num
  fns := ⟨hyp.fns.ok, hyp.fns.ins, fun g args md h r hr rs kind μ w c0 cs R ha hc =>
    sumOf_ok Tryz.func10 (show Tryz.f10.body = some body10 by kernel_rfl) afit arun g args md h r hr rs kind μ w c0 cs R ha hc⟩
end Go.Proofs.YthebkalnpmkkpaaGreatDoor
