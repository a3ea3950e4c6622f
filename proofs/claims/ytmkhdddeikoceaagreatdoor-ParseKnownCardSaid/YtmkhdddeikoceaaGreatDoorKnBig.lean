/- ParseKnown: the functions of the call that is walked, as they were looked up; what is known of it. -/
import Derived.Test.YtmkhdddeikoceaaGreatDoorKnBase
import Derived.Test.YtmkhdddeikoceaaGreatDoorWpP4
set_option linter.unusedVariables false
set_option linter.unusedSimpArgs false
namespace Go.Proofs.YtmkhdddeikoceaaGreatDoor
open Go Go.Vm
set_option maxRecDepth 100000
def ids : Ids where
  f := fun n => match n with | 132 => 5 | 363 => 12 | 527 => 20 | 364 => 13 | 365 => 15 | 184 => 21 | 185 => 25 | 528 => 22 | 177 => 23 | 393 => 42 | 358 => 41 | 176 => 24 | 404 => 43 | 406 => 44 | 546 => 83 | 103 => 14 | 104 => 84 | 339 => 104 | 227 => 146 | 117 => 45 | 405 => 46 | 547 => 85 | 548 => 86 | _ => 0
  t := fun n => match n with | 3 => 3 | 38 => 29 | 50 => 32 | 132 => 24 | 163 => 39 | 197 => 112 | 205 => 72 | 379 => 55 | 382 => 59 | 491 => 109 | _ => 0
  g := fun n => match n with | 0 => 1 | 1 => 0 | 2 => 2 | 3 => 3 | 4 => 4 | 5 => 5 | 6 => 6 | 7 => 7 | 8 => 8 | 9 => 9 | 10 => 10 | 11 => 11 | 12 => 12 | 13 => 13 | 14 => 14 | 15 => 0 | _ => 0
  e := fun n => match n with | 0 => 20 | 1 => 19 | 2 => 21 | 3 => 22 | 4 => 23 | 5 => 24 | 6 => 25 | 7 => 26 | 8 => 27 | 9 => 28 | 10 => 29 | 11 => 30 | 12 => 31 | 13 => 32 | 14 => 33 | 15 => 19 | _ => 0
theorem bodyB_5 : Tryz.f5.body = some (Tryz.f5.body.getD .skip) := by kernel_rfl
theorem code_5 : compC Tryz.prog (Tryz.f5.body.getD .skip) = some (c132 ids) := by kernel_rfl
theorem is_132 : FnIs Tryz.prog fns (ids.f 132) 28 [.cell 4 (ids.t 132), .tmp 5] (c132 ids) :=
  ⟨⟨Tryz.f5, Tryz.f5.body.getD .skip, Tryz.func5, bodyB_5, Tryz.ntmps5, by kernel_rfl, code_5⟩, by kernel_rfl, by kernel_rfl, fun _ _ _ => by kernel_rfl⟩
theorem bodyB_12 : Tryz.f12.body = some (Tryz.f12.body.getD .skip) := by kernel_rfl
theorem code_12 : compC Tryz.prog (Tryz.f12.body.getD .skip) = some (c363 ids) := by kernel_rfl
theorem is_363 : FnIs Tryz.prog fns (ids.f 363) 9 [.tmp 4] (c363 ids) :=
  ⟨⟨Tryz.f12, Tryz.f12.body.getD .skip, Tryz.func12, bodyB_12, Tryz.ntmps12, by kernel_rfl, code_12⟩, by kernel_rfl, by kernel_rfl, fun _ _ _ => by kernel_rfl⟩
theorem bodyB_20 : Tryz.f20.body = some (Tryz.f20.body.getD .skip) := by kernel_rfl
theorem code_20 : compC Tryz.prog (Tryz.f20.body.getD .skip) = some (c527 ids) := by kernel_rfl
theorem is_527 : FnIs Tryz.prog fns (ids.f 527) 19 [.tmp 4] (c527 ids) :=
  ⟨⟨Tryz.f20, Tryz.f20.body.getD .skip, Tryz.func20, bodyB_20, Tryz.ntmps20, by kernel_rfl, code_20⟩, by kernel_rfl, by kernel_rfl, fun _ _ _ => by kernel_rfl⟩
theorem bodyB_13 : Tryz.f13.body = some (Tryz.f13.body.getD .skip) := by kernel_rfl
theorem code_13 : compC Tryz.prog (Tryz.f13.body.getD .skip) = some (c364 ids) := by kernel_rfl
theorem is_364 : FnIs Tryz.prog fns (ids.f 364) 12 [.tmp 3] (c364 ids) :=
  ⟨⟨Tryz.f13, Tryz.f13.body.getD .skip, Tryz.func13, bodyB_13, Tryz.ntmps13, by kernel_rfl, code_13⟩, by kernel_rfl, by kernel_rfl, fun _ _ _ => by kernel_rfl⟩
theorem bodyB_15 : Tryz.f15.body = some (Tryz.f15.body.getD .skip) := by kernel_rfl
theorem code_15 : compC Tryz.prog (Tryz.f15.body.getD .skip) = some (c365 ids) := by kernel_rfl
theorem is_365 : FnIs Tryz.prog fns (ids.f 365) 38 [.cell 4 (ids.t 132), .cell 5 (ids.t 38)] (c365 ids) :=
  ⟨⟨Tryz.f15, Tryz.f15.body.getD .skip, Tryz.func15, bodyB_15, Tryz.ntmps15, by kernel_rfl, code_15⟩, by kernel_rfl, by kernel_rfl, fun _ _ _ => by kernel_rfl⟩
theorem bodyB_21 : Tryz.f21.body = some (Tryz.f21.body.getD .skip) := by kernel_rfl
theorem code_21 : compC Tryz.prog (Tryz.f21.body.getD .skip) = some (c184 ids) := by kernel_rfl
theorem is_184 : FnIs Tryz.prog fns (ids.f 184) 8 [.tmp 2] (c184 ids) :=
  ⟨⟨Tryz.f21, Tryz.f21.body.getD .skip, Tryz.func21, bodyB_21, Tryz.ntmps21, by kernel_rfl, code_21⟩, by kernel_rfl, by kernel_rfl, fun _ _ _ => by kernel_rfl⟩
theorem bodyB_25 : Tryz.f25.body = some (Tryz.f25.body.getD .skip) := by kernel_rfl
theorem code_25 : compC Tryz.prog (Tryz.f25.body.getD .skip) = some (c185 ids) := by kernel_rfl
theorem is_185 : FnIs Tryz.prog fns (ids.f 185) 69 [.tmp 2, .tmp 3] (c185 ids) :=
  ⟨⟨Tryz.f25, Tryz.f25.body.getD .skip, Tryz.func25, bodyB_25, Tryz.ntmps25, by kernel_rfl, code_25⟩, by kernel_rfl, by kernel_rfl, fun _ _ _ => by kernel_rfl⟩
theorem bodyB_22 : Tryz.f22.body = some (Tryz.f22.body.getD .skip) := by kernel_rfl
theorem code_22 : compC Tryz.prog (Tryz.f22.body.getD .skip) = some (c528 ids) := by kernel_rfl
theorem is_528 : FnIs Tryz.prog fns (ids.f 528) 14 [] (c528 ids) :=
  ⟨⟨Tryz.f22, Tryz.f22.body.getD .skip, Tryz.func22, bodyB_22, Tryz.ntmps22, by kernel_rfl, code_22⟩, by kernel_rfl, by kernel_rfl, fun _ _ _ => by kernel_rfl⟩
theorem bodyB_23 : Tryz.f23.body = some (Tryz.f23.body.getD .skip) := by kernel_rfl
theorem code_23 : compC Tryz.prog (Tryz.f23.body.getD .skip) = some (c177 ids) := by kernel_rfl
theorem is_177 : FnIs Tryz.prog fns (ids.f 177) 11 [.tmp 2] (c177 ids) :=
  ⟨⟨Tryz.f23, Tryz.f23.body.getD .skip, Tryz.func23, bodyB_23, Tryz.ntmps23, by kernel_rfl, code_23⟩, by kernel_rfl, by kernel_rfl, fun _ _ _ => by kernel_rfl⟩
theorem bodyB_42 : Tryz.f42.body = some (Tryz.f42.body.getD .skip) := by kernel_rfl
theorem code_42 : compC Tryz.prog (Tryz.f42.body.getD .skip) = some (c393 ids) := by kernel_rfl
theorem is_393 : FnIs Tryz.prog fns (ids.f 393) 8 [.tmp 2] (c393 ids) :=
  ⟨⟨Tryz.f42, Tryz.f42.body.getD .skip, Tryz.func42, bodyB_42, Tryz.ntmps42, by kernel_rfl, code_42⟩, by kernel_rfl, by kernel_rfl, fun _ _ _ => by kernel_rfl⟩
theorem bodyB_41 : Tryz.f41.body = some (Tryz.f41.body.getD .skip) := by kernel_rfl
theorem code_41 : compC Tryz.prog (Tryz.f41.body.getD .skip) = some (c358 ids) := by kernel_rfl
theorem is_358 : FnIs Tryz.prog fns (ids.f 358) 9 [.tmp 2] (c358 ids) :=
  ⟨⟨Tryz.f41, Tryz.f41.body.getD .skip, Tryz.func41, bodyB_41, Tryz.ntmps41, by kernel_rfl, code_41⟩, by kernel_rfl, by kernel_rfl, fun _ _ _ => by kernel_rfl⟩
theorem bodyB_24 : Tryz.f24.body = some (Tryz.f24.body.getD .skip) := by kernel_rfl
theorem code_24 : compC Tryz.prog (Tryz.f24.body.getD .skip) = some (c176 ids) := by kernel_rfl
theorem is_176 : FnIs Tryz.prog fns (ids.f 176) 47 [.tmp 4] (c176 ids) :=
  ⟨⟨Tryz.f24, Tryz.f24.body.getD .skip, Tryz.func24, bodyB_24, Tryz.ntmps24, by kernel_rfl, code_24⟩, by kernel_rfl, by kernel_rfl, fun _ _ _ => by kernel_rfl⟩
theorem bodyB_43 : Tryz.f43.body = some (Tryz.f43.body.getD .skip) := by kernel_rfl
theorem code_43 : compC Tryz.prog (Tryz.f43.body.getD .skip) = some (c404 ids) := by kernel_rfl
theorem is_404 : FnIs Tryz.prog fns (ids.f 404) 50 [.tmp 4] (c404 ids) :=
  ⟨⟨Tryz.f43, Tryz.f43.body.getD .skip, Tryz.func43, bodyB_43, Tryz.ntmps43, by kernel_rfl, code_43⟩, by kernel_rfl, by kernel_rfl, fun _ _ _ => by kernel_rfl⟩
theorem bodyB_44 : Tryz.f44.body = some (Tryz.f44.body.getD .skip) := by kernel_rfl
theorem code_44 : compC Tryz.prog (Tryz.f44.body.getD .skip) = some (c406 ids) := by kernel_rfl
theorem is_406 : FnIs Tryz.prog fns (ids.f 406) 68 [.tmp 4] (c406 ids) :=
  ⟨⟨Tryz.f44, Tryz.f44.body.getD .skip, Tryz.func44, bodyB_44, Tryz.ntmps44, by kernel_rfl, code_44⟩, by kernel_rfl, by kernel_rfl, fun _ _ _ => by kernel_rfl⟩
theorem bodyB_83 : Tryz.f83.body = some (Tryz.f83.body.getD .skip) := by kernel_rfl
theorem code_83 : compC Tryz.prog (Tryz.f83.body.getD .skip) = some (c546 ids) := by kernel_rfl
theorem is_546 : FnIs Tryz.prog fns (ids.f 546) 44 [.tmp 4, .tmp 5] (c546 ids) :=
  ⟨⟨Tryz.f83, Tryz.f83.body.getD .skip, Tryz.func83, bodyB_83, Tryz.ntmps83, by kernel_rfl, code_83⟩, by kernel_rfl, by kernel_rfl, fun _ _ _ => by kernel_rfl⟩
theorem bodyB_14 : Tryz.f14.body = some (Tryz.f14.body.getD .skip) := by kernel_rfl
theorem code_14 : compC Tryz.prog (Tryz.f14.body.getD .skip) = some (c103 ids) := by kernel_rfl
theorem is_103 : FnIs Tryz.prog fns (ids.f 103) 12 [.tmp 2] (c103 ids) :=
  ⟨⟨Tryz.f14, Tryz.f14.body.getD .skip, Tryz.func14, bodyB_14, Tryz.ntmps14, by kernel_rfl, code_14⟩, by kernel_rfl, by kernel_rfl, fun _ _ _ => by kernel_rfl⟩
theorem bodyB_84 : Tryz.f84.body = some (Tryz.f84.body.getD .skip) := by kernel_rfl
theorem code_84 : compC Tryz.prog (Tryz.f84.body.getD .skip) = some (c104 ids) := by kernel_rfl
theorem is_104 : FnIs Tryz.prog fns (ids.f 104) 17 [.tmp 6] (c104 ids) :=
  ⟨⟨Tryz.f84, Tryz.f84.body.getD .skip, Tryz.func84, bodyB_84, Tryz.ntmps84, by kernel_rfl, code_84⟩, by kernel_rfl, by kernel_rfl, fun _ _ _ => by kernel_rfl⟩
theorem bodyB_104 : Tryz.f104.body = some (Tryz.f104.body.getD .skip) := by kernel_rfl
theorem code_104 : compC Tryz.prog (Tryz.f104.body.getD .skip) = some (c339 ids) := by kernel_rfl
theorem is_339 : FnIs Tryz.prog fns (ids.f 339) 18 [.tmp 6] (c339 ids) :=
  ⟨⟨Tryz.f104, Tryz.f104.body.getD .skip, Tryz.func104, bodyB_104, Tryz.ntmps104, by kernel_rfl, code_104⟩, by kernel_rfl, by kernel_rfl, fun _ _ _ => by kernel_rfl⟩
theorem bodyB_146 : Tryz.f146.body = some (Tryz.f146.body.getD .skip) := by kernel_rfl
theorem code_146 : compC Tryz.prog (Tryz.f146.body.getD .skip) = some (c227 ids) := by kernel_rfl
theorem is_227 : FnIs Tryz.prog fns (ids.f 227) 62 [.tmp 8] (c227 ids) :=
  ⟨⟨Tryz.f146, Tryz.f146.body.getD .skip, Tryz.func146, bodyB_146, Tryz.ntmps146, by kernel_rfl, code_146⟩, by kernel_rfl, by kernel_rfl, fun _ _ _ => by kernel_rfl⟩
theorem ty_3 : TyIs Tryz.prog (ids.t 3) 1 8 [.int .i64 0] := ⟨by kernel_rfl, by kernel_rfl, by kernel_rfl, rfl⟩
theorem ty_197 : TyIs Tryz.prog (ids.t 197) 4 32 [.int .i64 0, .int .i64 0, .int .i64 0, .int .i64 0] := ⟨by kernel_rfl, by kernel_rfl, by kernel_rfl, rfl⟩
theorem agR : isAggT Tryz.prog (ids.t 132) = true := by kernel_rfl
theorem szR : sizeT Tryz.prog (ids.t 132) = 3 := by kernel_rfl
theorem agE : isAggT Tryz.prog (ids.t 38) = false := by kernel_rfl
def fnsS : Fns := { fns with sum := bigOf 5 55 59 7 }
theorem hypS : VmHyp Tryz.prog fnsS where
  mixed := hyp.mixed
  ext := hyp.ext
  num := hyp.num
  fns := ⟨hyp.fns.ok, hyp.fns.ins, fun g args md h r hr rs kind μ w c0 cs R ha hc => bigOf_ok hyp (fun h bt bl o et ge c t hI hev hg => parse_ok is_132 is_363 is_527 is_364 is_365 is_184 is_185 is_528 is_177 is_393 is_358 is_176 is_404 is_406 is_546 is_103 is_104 is_339 is_227 ty_3 ty_197 agR szR agE (n := 65536) t hI (by omega) (by omega) hev hg) g args md h r hr rs kind μ w c0 cs R ha hc⟩
end Go.Proofs.YtmkhdddeikoceaaGreatDoor
