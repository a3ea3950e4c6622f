/- ChunkMoves: what is known of dovetail/dovetaillaw20.awake: it returns true and turns nothing. -/
import Derived.Test.YtaccdnpmoghidaaGreatDoorVmKnown
import Derived.Test.YtaccdnpmoghidaaGreatDoorKnK0
import Derived.Test.YtaccdnpmoghidaaGreatDoorKnK1
import Derived.Test.YtaccdnpmoghidaaGreatDoorKnAC1
set_option linter.unusedVariables false
set_option linter.unusedSimpArgs false
namespace Go.Proofs.YtaccdnpmoghidaaGreatDoor
open Go Go.Vm
set_option maxRecDepth 100000
theorem globs : Tryz.prog.globals.size = 18 := by kernel_rfl
theorem acodeOk : itemsOk Tryz.prog 32 [.code body11] = true := by
  have h := hyp.fns.ok 11 (by kernel_rfl)
  unfold okFn at h
  rw [Tryz.func11] at h
  have hb : Tryz.f11.body = some body11 := by kernel_rfl
  dsimp only at h
  rw [hb] at h
  simp only [Bool.and_eq_true] at h
  have h1 := h.1
  rw [Tryz.ntmps11] at h1
  simp [itemsOk, itemOk, h1]
theorem acfgOk0 : cfgOk Tryz.prog { st := [], f := 11, nt := 32, k := [.code body11], s := s0 } :=
  ⟨⟨hyp.fns.ok 11 (by kernel_rfl), fun fn hf => by rw [Tryz.func11] at hf; cases hf; exact Tryz.ntmps11⟩, acodeOk, fun t ht => by cases ht⟩
theorem arun : GoesC Tryz.prog 11 (.bool true) { st := [], f := 11, nt := Tryz.f11.ntmps, k := [.code body11], s := s0 } := by
  rw [Tryz.ntmps11]
  exact goesC_ret hyp ac1 acfgOk0
theorem kcode0 : itemsOk Tryz.prog 41 [.code body7] = true := by
  have h := hyp.fns.ok 7 (by kernel_rfl)
  unfold okFn at h
  rw [Tryz.func7] at h
  have hb : Tryz.f7.body = some body7 := by kernel_rfl
  dsimp only at h
  rw [hb] at h
  simp only [Bool.and_eq_true] at h
  have h1 := h.1
  rw [Tryz.ntmps7] at h1
  simp [itemsOk, itemOk, h1]
theorem kcfg0 : cfgOk Tryz.prog { st := [], f := 7, nt := 41, k := [.code body7], s := sK0 } :=
  ⟨⟨hyp.fns.ok 7 (by kernel_rfl), fun fn hf => by rw [Tryz.func7] at hf; cases hf; exact Tryz.ntmps7⟩, kcode0, fun t ht => by cases ht⟩
theorem krun0 : GoesC Tryz.prog 7 (.int .i64 0) { st := [], f := 7, nt := Tryz.f7.ntmps, k := [.code body7], s := sK0 } := by
  rw [Tryz.ntmps7]
  exact goesC_ret hyp kc0 kcfg0
theorem kcode1 : itemsOk Tryz.prog 41 [.code body7] = true := by
  have h := hyp.fns.ok 7 (by kernel_rfl)
  unfold okFn at h
  rw [Tryz.func7] at h
  have hb : Tryz.f7.body = some body7 := by kernel_rfl
  dsimp only at h
  rw [hb] at h
  simp only [Bool.and_eq_true] at h
  have h1 := h.1
  rw [Tryz.ntmps7] at h1
  simp [itemsOk, itemOk, h1]
theorem kcfg1 : cfgOk Tryz.prog { st := [], f := 7, nt := 41, k := [.code body7], s := sK1 } :=
  ⟨⟨hyp.fns.ok 7 (by kernel_rfl), fun fn hf => by rw [Tryz.func7] at hf; cases hf; exact Tryz.ntmps7⟩, kcode1, fun t ht => by cases ht⟩
theorem krun1 : GoesC Tryz.prog 7 (.int .i64 12) { st := [], f := 7, nt := Tryz.f7.ntmps, k := [.code body7], s := sK1 } := by
  rw [Tryz.ntmps7]
  exact goesC_ret hyp kc1 kcfg1
def knL : List KnE := [(11, [], .bool true), (7, [.nilIface], .int .i64 0), (7, [.iface 375 (.ptr (some (19, 0)))], .int .i64 12)]
def fnsS : Fns := { fns with sum := knownOf knL hl0 }
theorem afit : startFit Tryz.prog.globals.size hl0 37 = true := by rw [globs]; kernel_rfl
theorem knOk : ∀ e ∈ knL, KnOk Tryz.prog hl0 37 e := by
  intro e he
  simp only [knL, List.mem_cons, List.not_mem_nil, or_false] at he
  rcases he with rfl | rfl | rfl
  · exact ⟨_, _, Tryz.func11, (show Tryz.f11.body = some body11 by kernel_rfl), by rw [Tryz.ntmps11]; exact Nat.le_of_ble_eq_true rfl, by kernel_rfl, rfl, arun⟩
  · exact ⟨_, _, Tryz.func7, (show Tryz.f7.body = some body7 by kernel_rfl), by rw [Tryz.ntmps7]; exact Nat.le_of_ble_eq_true rfl, by kernel_rfl, rfl, krun0⟩
  · exact ⟨_, _, Tryz.func7, (show Tryz.f7.body = some body7 by kernel_rfl), by rw [Tryz.ntmps7]; exact Nat.le_of_ble_eq_true rfl, by kernel_rfl, rfl, krun1⟩
theorem hypS : VmHyp Tryz.prog fnsS where
  mixed := hyp.mixed
  ext := hyp.ext
  num := hyp.num
  fns := ⟨hyp.fns.ok, hyp.fns.ins, fun g args md h r hr rs kind μ w c0 cs R ha hc => knownOf_ok afit knOk g args md h r hr rs kind μ w c0 cs R ha hc⟩
end Go.Proofs.YtaccdnpmoghidaaGreatDoor
