/- DocKnown: the program's facts that the virtual machine leans on. -/
import Derived.Test.YtodpkcebihbghaaGreatDoorVmSum
import Derived.Test.YtodpkcebihbghaaGreatDoorProg
import Derived.KernelRfl
set_option linter.unusedVariables false
set_option linter.unusedSimpArgs false
namespace Go.Proofs.YtodpkcebihbghaaGreatDoor
open Go Go.Vm Go.Shelf
set_option maxRecDepth 100000
def mask : Nat := 131798451090732556819991338477753153298406755890220106598678523444156708728962597154455544
def fns : Fns := { ok := fun f => mask.testBit f, ins := fun f => Nat.beq f 188 }
theorem mixed : Tryz.prog.follows .mixedOrders = true := by kernel_rfl
theorem nameOk : (Tryz.prog.funcs.toList.all fun fn => !(fn.name == "runtime.NumGoroutine")) = true := by kernel_rfl
theorem originOk : (Tryz.prog.funcs.toList.all fun fn => fn.body.isSome || (Extern.allNextRows.lookup fn.origin).isNone) = true := by kernel_rfl
theorem packOk : ((List.range Tryz.prog.types.size).all fun t => !Tryz.prog.packed t && !Tryz.prog.holdsPacked Tryz.prog.depth t && !Tryz.prog.methodsOfAPack Tryz.prog.depth t) = true := by kernel_rfl
theorem maskOk : ((List.range 297).all fun f => !mask.testBit f || Q.okFn (Q.Env.fast Tryz.prog) f) = true := by kernel_rfl
def ren : Ren := { f := fun n => match n with | 21 => 188 | 27 => 250 | 28 => 251 | 35 => 281 | 39 => 299 | n => n, t := fun n => match n with | 0 => 0 | 3 => 3 | 4 => 4 | 22 => 29 | n => n, g := fun n => n }
theorem lays : Lays2.n21 Tryz.prog ren where
  mixed := by kernel_rfl
  f21 := by kernel_rfl
  f27 := by kernel_rfl
  f28 := by kernel_rfl
  f35 := by kernel_rfl
  f39 := by kernel_rfl
  t0 := by kernel_rfl
  a0 := fun w => by kernel_rfl
  z0 := fun w => by kernel_rfl
  v0 := fun w => by kernel_rfl
  t3 := by kernel_rfl
  a3 := fun w => by kernel_rfl
  z3 := fun w => by kernel_rfl
  v3 := fun w => by kernel_rfl
  t4 := by kernel_rfl
  a4 := fun w => by kernel_rfl
  z4 := fun w => by kernel_rfl
  v4 := fun w => by kernel_rfl
  t22 := by kernel_rfl
  a22 := fun w => by kernel_rfl
  z22 := fun w => by kernel_rfl
  v22 := fun w => by kernel_rfl
  i3 := by kernel_rfl
theorem hyp : VmHyp Tryz.prog fns where
  mixed := mixed
  ext := ⟨origin_of_all originOk, pack_of_all packOk⟩
  num := num_of_all nameOk
  fns := ⟨ok_of_mask (fun _ => rfl) (of_decide_eq_true (by kernel_rfl)) maskOk, ins_ok lays fun f hf => Nat.eq_of_beq_eq_true hf, fun f args md h r he => by cases he⟩
end Go.Proofs.YtodpkcebihbghaaGreatDoor
