/- BackmapChainsWhy: what is known of dovetail/dovetaillaw19.awake: it returns true and turns nothing. -/
import Derived.Test.YtnfdpjigpidboaaGreatDoorKnAC1
import Derived.Test.YtnfdpjigpidboaaGreatDoorKnAC2
set_option linter.unusedVariables false
set_option linter.unusedSimpArgs false
namespace Go.Proofs.YtnfdpjigpidboaaGreatDoor
open Go Go.Vm
set_option maxRecDepth 100000
theorem globs : Tryz.prog.globals.size = 18 := by kernel_rfl
theorem acodeOk : itemsOk Tryz.prog 8 [.code body6] = true := by
  have h := hyp.fns.ok 6 (by kernel_rfl)
  unfold okFn at h
  rw [Tryz.func6] at h
  have hb : Tryz.f6.body = some body6 := by kernel_rfl
  dsimp only at h
  rw [hb] at h
  simp only [Bool.and_eq_true] at h
  have h1 := h.1
  rw [Tryz.ntmps6] at h1
  simp [itemsOk, itemOk, h1]
theorem acfgOk0 : cfgOk Tryz.prog { st := [], f := 6, nt := 8, k := [.code body6], s := s0 } :=
  ⟨⟨hyp.fns.ok 6 (by kernel_rfl), fun fn hf => by rw [Tryz.func6] at hf; cases hf; exact Tryz.ntmps6⟩, acodeOk, fun t ht => by cases ht⟩
theorem arun : GoesC Tryz.prog 6 (.bool true) { st := [], f := 6, nt := Tryz.f6.ntmps, k := [.code body6], s := s0 } := by
  rw [Tryz.ntmps6]
  exact goesC_chunk hyp globs ac1 (goesC_ret hyp ac2) acfgOk0
def fnsS : Fns := { fns with sum := sumOf 6 true hl0 }
theorem afit : startFit Tryz.prog.globals.size hl0 37 = true := by rw [globs]; kernel_rfl
theorem hypS : VmHyp Tryz.prog fnsS where
  mixed := hyp.mixed
  ext := hyp.ext
  num := hyp.num
  fns := ⟨hyp.fns.ok, hyp.fns.ins, fun g args md h r hr rs kind μ w c0 cs R ha hc =>
    sumOf_ok Tryz.func6 (show Tryz.f6.body = some body6 by kernel_rfl) afit arun g args md h r hr rs kind μ w c0 cs R ha hc⟩
end Go.Proofs.YtnfdpjigpidboaaGreatDoor
