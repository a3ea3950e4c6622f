/- BackmapChains: the functions that it comes by, as they were looked up; the types; the errors. -/
import Derived.Test.YthebkalnpmkkpaaGreatDoorKnSum
import Derived.Test.YthebkalnpmkkpaaGreatDoorWpL8
import Derived.Test.YthebkalnpmkkpaaGreatDoorWpEnd
import Derived.Test.YthebkalnpmkkpaaGreatDoorWpIn
set_option linter.unusedVariables false
set_option linter.unusedSimpArgs false
namespace Go.Proofs.YthebkalnpmkkpaaGreatDoor
open Go Go.Vm
set_option maxRecDepth 100000
def ids : Ids where
  f := fun n => match n with | 19 => 3 | 138 => 5 | 334 => 17 | 372 => 15 | 373 => 16 | 142 => 14 | 324 => 13 | 503 => 26 | 650 => 36 | 363 => 35 | 527 => 50 | 502 => 25 | 649 => 34 | 764 => 49 | 696 => 66 | 139 => 6 | 374 => 18 | 531 => 27 | 375 => 19 | 65 => 4 | 260 => 11 | 108 => 24 | 261 => 12 | 70 => 8 | 273 => 20 | 251 => 28 | 274 => 21 | 111 => 29 | 118 => 7 | 140 => 9 | 124 => 10 | _ => 0
  t := fun n => match n with | 1000 => 374 | 3 => 3 | 4 => 4 | 9 => 9 | 33 => 25 | 69 => 27 | 101 => 42 | 151 => 112 | 383 => 58 | 386 => 60 | _ => 0
  g := fun n => match n with | 0 => 11 | 1 => 2 | 2 => 4 | 3 => 0 | 4 => 5 | 5 => 6 | 6 => 7 | 7 => 8 | 8 => 9 | 9 => 10 | 10 => 1 | 11 => 3 | 12 => 12 | 13 => 13 | 14 => 14 | 15 => 2 | _ => 0
  e := fun n => match n with | 0 => 30 | 1 => 21 | 2 => 23 | 3 => 19 | 4 => 24 | 5 => 25 | 6 => 26 | 7 => 27 | 8 => 28 | 9 => 29 | 10 => 20 | 11 => 22 | 12 => 31 | 13 => 32 | 14 => 33 | 15 => 21 | _ => 0
theorem body_3 : Tryz.f3.body = some (Tryz.f3.body.getD .skip) := by kernel_rfl
theorem code_3 : compC Tryz.prog (Tryz.f3.body.getD .skip) = some (c19 ids) := by kernel_rfl
theorem is_19 : FnIs Tryz.prog fnsS (ids.f 19) 64 [.tmp 6] (c19 ids) :=
  ⟨⟨Tryz.f3, Tryz.f3.body.getD .skip, Tryz.func3, body_3, Tryz.ntmps3, by kernel_rfl, code_3⟩, by kernel_rfl, by kernel_rfl, fun _ _ _ => by kernel_rfl⟩
theorem body_5 : Tryz.f5.body = some (Tryz.f5.body.getD .skip) := by kernel_rfl
theorem code_5 : compC Tryz.prog (Tryz.f5.body.getD .skip) = some (c138 ids) := by kernel_rfl
theorem is_138 : FnIs Tryz.prog fnsS (ids.f 138) 125 [.tmp 6, .tmp 7] (c138 ids) :=
  ⟨⟨Tryz.f5, Tryz.f5.body.getD .skip, Tryz.func5, body_5, Tryz.ntmps5, by kernel_rfl, code_5⟩, by kernel_rfl, by kernel_rfl, fun _ _ _ => by kernel_rfl⟩
theorem body_17 : Tryz.f17.body = some (Tryz.f17.body.getD .skip) := by kernel_rfl
theorem code_17 : compC Tryz.prog (Tryz.f17.body.getD .skip) = some (c334 ids) := by kernel_rfl
theorem is_334 : FnIs Tryz.prog fnsS (ids.f 334) 9 [.tmp 2] (c334 ids) :=
  ⟨⟨Tryz.f17, Tryz.f17.body.getD .skip, Tryz.func17, body_17, Tryz.ntmps17, by kernel_rfl, code_17⟩, by kernel_rfl, by kernel_rfl, fun _ _ _ => by kernel_rfl⟩
theorem body_15 : Tryz.f15.body = some (Tryz.f15.body.getD .skip) := by kernel_rfl
theorem code_15 : compC Tryz.prog (Tryz.f15.body.getD .skip) = some (c372 ids) := by kernel_rfl
theorem is_372 : FnIs Tryz.prog fnsS (ids.f 372) 19 [.tmp 4] (c372 ids) :=
  ⟨⟨Tryz.f15, Tryz.f15.body.getD .skip, Tryz.func15, body_15, Tryz.ntmps15, by kernel_rfl, code_15⟩, by kernel_rfl, by kernel_rfl, fun _ _ _ => by kernel_rfl⟩
theorem body_16 : Tryz.f16.body = some (Tryz.f16.body.getD .skip) := by kernel_rfl
theorem code_16 : compC Tryz.prog (Tryz.f16.body.getD .skip) = some (c373 ids) := by kernel_rfl
theorem is_373 : FnIs Tryz.prog fnsS (ids.f 373) 31 [.tmp 4] (c373 ids) :=
  ⟨⟨Tryz.f16, Tryz.f16.body.getD .skip, Tryz.func16, body_16, Tryz.ntmps16, by kernel_rfl, code_16⟩, by kernel_rfl, by kernel_rfl, fun _ _ _ => by kernel_rfl⟩
theorem body_14 : Tryz.f14.body = some (Tryz.f14.body.getD .skip) := by kernel_rfl
theorem code_14 : compC Tryz.prog (Tryz.f14.body.getD .skip) = some (c142 ids) := by kernel_rfl
theorem is_142 : FnIs Tryz.prog fnsS (ids.f 142) 20 [.tmp 2, .tmp 3] (c142 ids) :=
  ⟨⟨Tryz.f14, Tryz.f14.body.getD .skip, Tryz.func14, body_14, Tryz.ntmps14, by kernel_rfl, code_14⟩, by kernel_rfl, by kernel_rfl, fun _ _ _ => by kernel_rfl⟩
theorem body_13 : Tryz.f13.body = some (Tryz.f13.body.getD .skip) := by kernel_rfl
theorem code_13 : compC Tryz.prog (Tryz.f13.body.getD .skip) = some (c324 ids) := by kernel_rfl
theorem is_324 : FnIs Tryz.prog fnsS (ids.f 324) 69 [.tmp 2] (c324 ids) :=
  ⟨⟨Tryz.f13, Tryz.f13.body.getD .skip, Tryz.func13, body_13, Tryz.ntmps13, by kernel_rfl, code_13⟩, by kernel_rfl, by kernel_rfl, fun _ _ _ => by kernel_rfl⟩
theorem body_26 : Tryz.f26.body = some (Tryz.f26.body.getD .skip) := by kernel_rfl
theorem code_26 : compC Tryz.prog (Tryz.f26.body.getD .skip) = some (c503 ids) := by kernel_rfl
theorem is_503 : FnIs Tryz.prog fnsS (ids.f 503) 28 [.tmp 4] (c503 ids) :=
  ⟨⟨Tryz.f26, Tryz.f26.body.getD .skip, Tryz.func26, body_26, Tryz.ntmps26, by kernel_rfl, code_26⟩, by kernel_rfl, by kernel_rfl, fun _ _ _ => by kernel_rfl⟩
theorem body_36 : Tryz.f36.body = some (Tryz.f36.body.getD .skip) := by kernel_rfl
theorem code_36 : compC Tryz.prog (Tryz.f36.body.getD .skip) = some (c650 ids) := by kernel_rfl
theorem is_650 : FnIs Tryz.prog fnsS (ids.f 650) 17 [.tmp 3] (c650 ids) :=
  ⟨⟨Tryz.f36, Tryz.f36.body.getD .skip, Tryz.func36, body_36, Tryz.ntmps36, by kernel_rfl, code_36⟩, by kernel_rfl, by kernel_rfl, fun _ _ _ => by kernel_rfl⟩
theorem body_35 : Tryz.f35.body = some (Tryz.f35.body.getD .skip) := by kernel_rfl
theorem code_35 : compC Tryz.prog (Tryz.f35.body.getD .skip) = some (c363 ids) := by kernel_rfl
theorem is_363 : FnIs Tryz.prog fnsS (ids.f 363) 9 [.tmp 4] (c363 ids) :=
  ⟨⟨Tryz.f35, Tryz.f35.body.getD .skip, Tryz.func35, body_35, Tryz.ntmps35, by kernel_rfl, code_35⟩, by kernel_rfl, by kernel_rfl, fun _ _ _ => by kernel_rfl⟩
theorem body_50 : Tryz.f50.body = some (Tryz.f50.body.getD .skip) := by kernel_rfl
theorem code_50 : compC Tryz.prog (Tryz.f50.body.getD .skip) = some (c527 ids) := by kernel_rfl
theorem is_527 : FnIs Tryz.prog fnsS (ids.f 527) 19 [.tmp 4] (c527 ids) :=
  ⟨⟨Tryz.f50, Tryz.f50.body.getD .skip, Tryz.func50, body_50, Tryz.ntmps50, by kernel_rfl, code_50⟩, by kernel_rfl, by kernel_rfl, fun _ _ _ => by kernel_rfl⟩
theorem body_25 : Tryz.f25.body = some (Tryz.f25.body.getD .skip) := by kernel_rfl
theorem code_25 : compC Tryz.prog (Tryz.f25.body.getD .skip) = some (c502 ids) := by kernel_rfl
theorem is_502 : FnIs Tryz.prog fnsS (ids.f 502) 13 [.tmp 2] (c502 ids) :=
  ⟨⟨Tryz.f25, Tryz.f25.body.getD .skip, Tryz.func25, body_25, Tryz.ntmps25, by kernel_rfl, code_25⟩, by kernel_rfl, by kernel_rfl, fun _ _ _ => by kernel_rfl⟩
theorem body_34 : Tryz.f34.body = some (Tryz.f34.body.getD .skip) := by kernel_rfl
theorem code_34 : compC Tryz.prog (Tryz.f34.body.getD .skip) = some (c649 ids) := by kernel_rfl
theorem is_649 : FnIs Tryz.prog fnsS (ids.f 649) 26 [.tmp 4] (c649 ids) :=
  ⟨⟨Tryz.f34, Tryz.f34.body.getD .skip, Tryz.func34, body_34, Tryz.ntmps34, by kernel_rfl, code_34⟩, by kernel_rfl, by kernel_rfl, fun _ _ _ => by kernel_rfl⟩
theorem body_49 : Tryz.f49.body = some (Tryz.f49.body.getD .skip) := by kernel_rfl
theorem code_49 : compC Tryz.prog (Tryz.f49.body.getD .skip) = some (c764 ids) := by kernel_rfl
theorem is_764 : FnIs Tryz.prog fnsS (ids.f 764) 9 [.tmp 4] (c764 ids) :=
  ⟨⟨Tryz.f49, Tryz.f49.body.getD .skip, Tryz.func49, body_49, Tryz.ntmps49, by kernel_rfl, code_49⟩, by kernel_rfl, by kernel_rfl, fun _ _ _ => by kernel_rfl⟩
theorem body_66 : Tryz.f66.body = some (Tryz.f66.body.getD .skip) := by kernel_rfl
theorem code_66 : compC Tryz.prog (Tryz.f66.body.getD .skip) = some (c696 ids) := by kernel_rfl
theorem is_696 : FnIs Tryz.prog fnsS (ids.f 696) 19 [.tmp 4] (c696 ids) :=
  ⟨⟨Tryz.f66, Tryz.f66.body.getD .skip, Tryz.func66, body_66, Tryz.ntmps66, by kernel_rfl, code_66⟩, by kernel_rfl, by kernel_rfl, fun _ _ _ => by kernel_rfl⟩
theorem body_6 : Tryz.f6.body = some (Tryz.f6.body.getD .skip) := by kernel_rfl
theorem code_6 : compC Tryz.prog (Tryz.f6.body.getD .skip) = some (c139 ids) := by kernel_rfl
theorem is_139 : FnIs Tryz.prog fnsS (ids.f 139) 143 [.tmp 6, .tmp 7] (c139 ids) :=
  ⟨⟨Tryz.f6, Tryz.f6.body.getD .skip, Tryz.func6, body_6, Tryz.ntmps6, by kernel_rfl, code_6⟩, by kernel_rfl, by kernel_rfl, fun _ _ _ => by kernel_rfl⟩
theorem body_18 : Tryz.f18.body = some (Tryz.f18.body.getD .skip) := by kernel_rfl
theorem code_18 : compC Tryz.prog (Tryz.f18.body.getD .skip) = some (c374 ids) := by kernel_rfl
theorem is_374 : FnIs Tryz.prog fnsS (ids.f 374) 108 [.tmp 2, .tmp 3] (c374 ids) :=
  ⟨⟨Tryz.f18, Tryz.f18.body.getD .skip, Tryz.func18, body_18, Tryz.ntmps18, by kernel_rfl, code_18⟩, by kernel_rfl, by kernel_rfl, fun _ _ _ => by kernel_rfl⟩
theorem body_27 : Tryz.f27.body = some (Tryz.f27.body.getD .skip) := by kernel_rfl
theorem code_27 : compC Tryz.prog (Tryz.f27.body.getD .skip) = some (c531 ids) := by kernel_rfl
theorem is_531 : FnIs Tryz.prog fnsS (ids.f 531) 39 [.tmp 2] (c531 ids) :=
  ⟨⟨Tryz.f27, Tryz.f27.body.getD .skip, Tryz.func27, body_27, Tryz.ntmps27, by kernel_rfl, code_27⟩, by kernel_rfl, by kernel_rfl, fun _ _ _ => by kernel_rfl⟩
theorem body_19 : Tryz.f19.body = some (Tryz.f19.body.getD .skip) := by kernel_rfl
theorem code_19 : compC Tryz.prog (Tryz.f19.body.getD .skip) = some (c375 ids) := by kernel_rfl
theorem is_375 : FnIs Tryz.prog fnsS (ids.f 375) 20 [.tmp 2, .tmp 3] (c375 ids) :=
  ⟨⟨Tryz.f19, Tryz.f19.body.getD .skip, Tryz.func19, body_19, Tryz.ntmps19, by kernel_rfl, code_19⟩, by kernel_rfl, by kernel_rfl, fun _ _ _ => by kernel_rfl⟩
theorem body_4 : Tryz.f4.body = some (Tryz.f4.body.getD .skip) := by kernel_rfl
theorem code_4 : compC Tryz.prog (Tryz.f4.body.getD .skip) = some (c65 ids) := by kernel_rfl
theorem is_65 : FnIs Tryz.prog fnsS (ids.f 65) 15 [.cell 2 (ids.t 33)] (c65 ids) :=
  ⟨⟨Tryz.f4, Tryz.f4.body.getD .skip, Tryz.func4, body_4, Tryz.ntmps4, by kernel_rfl, code_4⟩, by kernel_rfl, by kernel_rfl, fun _ _ _ => by kernel_rfl⟩
theorem body_11 : Tryz.f11.body = some (Tryz.f11.body.getD .skip) := by kernel_rfl
theorem code_11 : compC Tryz.prog (Tryz.f11.body.getD .skip) = some (c260 ids) := by kernel_rfl
theorem is_260 : FnIs Tryz.prog fnsS (ids.f 260) 14 [.tmp 2] (c260 ids) :=
  ⟨⟨Tryz.f11, Tryz.f11.body.getD .skip, Tryz.func11, body_11, Tryz.ntmps11, by kernel_rfl, code_11⟩, by kernel_rfl, by kernel_rfl, fun _ _ _ => by kernel_rfl⟩
theorem body_24 : Tryz.f24.body = some (Tryz.f24.body.getD .skip) := by kernel_rfl
theorem code_24 : compC Tryz.prog (Tryz.f24.body.getD .skip) = some (c108 ids) := by kernel_rfl
theorem is_108 : FnIs Tryz.prog fnsS (ids.f 108) 14 [.tmp 2] (c108 ids) :=
  ⟨⟨Tryz.f24, Tryz.f24.body.getD .skip, Tryz.func24, body_24, Tryz.ntmps24, by kernel_rfl, code_24⟩, by kernel_rfl, by kernel_rfl, fun _ _ _ => by kernel_rfl⟩
theorem body_12 : Tryz.f12.body = some (Tryz.f12.body.getD .skip) := by kernel_rfl
theorem code_12 : compC Tryz.prog (Tryz.f12.body.getD .skip) = some (c261 ids) := by kernel_rfl
theorem is_261 : FnIs Tryz.prog fnsS (ids.f 261) 36 [.tmp 2] (c261 ids) :=
  ⟨⟨Tryz.f12, Tryz.f12.body.getD .skip, Tryz.func12, body_12, Tryz.ntmps12, by kernel_rfl, code_12⟩, by kernel_rfl, by kernel_rfl, fun _ _ _ => by kernel_rfl⟩
theorem body_8 : Tryz.f8.body = some (Tryz.f8.body.getD .skip) := by kernel_rfl
theorem code_8 : compC Tryz.prog (Tryz.f8.body.getD .skip) = some (c70 ids) := by kernel_rfl
theorem is_70 : FnIs Tryz.prog fnsS (ids.f 70) 31 [.tmp 4] (c70 ids) :=
  ⟨⟨Tryz.f8, Tryz.f8.body.getD .skip, Tryz.func8, body_8, Tryz.ntmps8, by kernel_rfl, code_8⟩, by kernel_rfl, by kernel_rfl, fun _ _ _ => by kernel_rfl⟩
theorem body_20 : Tryz.f20.body = some (Tryz.f20.body.getD .skip) := by kernel_rfl
theorem code_20 : compC Tryz.prog (Tryz.f20.body.getD .skip) = some (c273 ids) := by kernel_rfl
theorem is_273 : FnIs Tryz.prog fnsS (ids.f 273) 20 [.tmp 4] (c273 ids) :=
  ⟨⟨Tryz.f20, Tryz.f20.body.getD .skip, Tryz.func20, body_20, Tryz.ntmps20, by kernel_rfl, code_20⟩, by kernel_rfl, by kernel_rfl, fun _ _ _ => by kernel_rfl⟩
theorem body_28 : Tryz.f28.body = some (Tryz.f28.body.getD .skip) := by kernel_rfl
theorem code_28 : compC Tryz.prog (Tryz.f28.body.getD .skip) = some (c251 ids) := by kernel_rfl
theorem is_251 : FnIs Tryz.prog fnsS (ids.f 251) 26 [.tmp 4] (c251 ids) :=
  ⟨⟨Tryz.f28, Tryz.f28.body.getD .skip, Tryz.func28, body_28, Tryz.ntmps28, by kernel_rfl, code_28⟩, by kernel_rfl, by kernel_rfl, fun _ _ _ => by kernel_rfl⟩
theorem body_21 : Tryz.f21.body = some (Tryz.f21.body.getD .skip) := by kernel_rfl
theorem code_21 : compC Tryz.prog (Tryz.f21.body.getD .skip) = some (c274 ids) := by kernel_rfl
theorem is_274 : FnIs Tryz.prog fnsS (ids.f 274) 55 [.tmp 4] (c274 ids) :=
  ⟨⟨Tryz.f21, Tryz.f21.body.getD .skip, Tryz.func21, body_21, Tryz.ntmps21, by kernel_rfl, code_21⟩, by kernel_rfl, by kernel_rfl, fun _ _ _ => by kernel_rfl⟩
theorem body_29 : Tryz.f29.body = some (Tryz.f29.body.getD .skip) := by kernel_rfl
theorem code_29 : compC Tryz.prog (Tryz.f29.body.getD .skip) = some (c111 ids) := by kernel_rfl
theorem is_111 : FnIs Tryz.prog fnsS (ids.f 111) 20 [.tmp 4] (c111 ids) :=
  ⟨⟨Tryz.f29, Tryz.f29.body.getD .skip, Tryz.func29, body_29, Tryz.ntmps29, by kernel_rfl, code_29⟩, by kernel_rfl, by kernel_rfl, fun _ _ _ => by kernel_rfl⟩
theorem body_7 : Tryz.f7.body = some (Tryz.f7.body.getD .skip) := by kernel_rfl
theorem code_7 : compC Tryz.prog (Tryz.f7.body.getD .skip) = some (c118 ids) := by kernel_rfl
theorem is_118 : FnIs Tryz.prog fnsS (ids.f 118) 26 [.tmp 4] (c118 ids) :=
  ⟨⟨Tryz.f7, Tryz.f7.body.getD .skip, Tryz.func7, body_7, Tryz.ntmps7, by kernel_rfl, code_7⟩, by kernel_rfl, by kernel_rfl, fun _ _ _ => by kernel_rfl⟩
theorem body_9 : Tryz.f9.body = some (Tryz.f9.body.getD .skip) := by kernel_rfl
theorem code_9 : compC Tryz.prog (Tryz.f9.body.getD .skip) = some (c140 ids) := by kernel_rfl
theorem is_140 : FnIs Tryz.prog fnsS (ids.f 140) 125 [.tmp 2] (c140 ids) :=
  ⟨⟨Tryz.f9, Tryz.f9.body.getD .skip, Tryz.func9, body_9, Tryz.ntmps9, by kernel_rfl, code_9⟩, by kernel_rfl, by kernel_rfl, fun _ _ _ => by kernel_rfl⟩
theorem ty_3 : TyIs Tryz.prog (ids.t 3) 1 8 [.int .i64 0] := ⟨by kernel_rfl, by kernel_rfl, by kernel_rfl, rfl⟩
theorem ty_9 : TyIs Tryz.prog (ids.t 9) 1 16 [.str []] := ⟨by kernel_rfl, by kernel_rfl, by kernel_rfl, rfl⟩
theorem ty_69 : TyIs Tryz.prog (ids.t 69) 1 24 [.slice none 0 (.ex 0)] := ⟨by kernel_rfl, by kernel_rfl, by kernel_rfl, rfl⟩
theorem ty_101 : TyIs Tryz.prog (ids.t 101) 2 32 [.int .i64 0, .slice none 0 (.ex 0)] := ⟨by kernel_rfl, by kernel_rfl, by kernel_rfl, rfl⟩
theorem glob0 : Glob ids h0 where
  sent := fun k hk => match k, hk with
    | 0, _ => by kernel_rfl
    | 1, _ => by kernel_rfl
    | 2, _ => by kernel_rfl
    | 3, _ => by kernel_rfl
    | 4, _ => by kernel_rfl
    | 5, _ => by kernel_rfl
    | 6, _ => by kernel_rfl
    | 7, _ => by kernel_rfl
    | 8, _ => by kernel_rfl
    | 9, _ => by kernel_rfl
    | 10, _ => by kernel_rfl
    | 11, _ => by kernel_rfl
    | 12, _ => by kernel_rfl
    | 13, _ => by kernel_rfl
    | 14, _ => by kernel_rfl
    | 15, _ => by kernel_rfl
    | k + 16, hk => absurd hk (by omega)
  low := fun k hk => match k, hk with
    | 0, _ => of_decide_eq_true (by kernel_rfl)
    | 1, _ => of_decide_eq_true (by kernel_rfl)
    | 2, _ => of_decide_eq_true (by kernel_rfl)
    | 3, _ => of_decide_eq_true (by kernel_rfl)
    | 4, _ => of_decide_eq_true (by kernel_rfl)
    | 5, _ => of_decide_eq_true (by kernel_rfl)
    | 6, _ => of_decide_eq_true (by kernel_rfl)
    | 7, _ => of_decide_eq_true (by kernel_rfl)
    | 8, _ => of_decide_eq_true (by kernel_rfl)
    | 9, _ => of_decide_eq_true (by kernel_rfl)
    | 10, _ => of_decide_eq_true (by kernel_rfl)
    | 11, _ => of_decide_eq_true (by kernel_rfl)
    | 12, _ => of_decide_eq_true (by kernel_rfl)
    | 13, _ => of_decide_eq_true (by kernel_rfl)
    | 14, _ => of_decide_eq_true (by kernel_rfl)
    | 15, _ => of_decide_eq_true (by kernel_rfl)
    | k + 16, hk => absurd hk (by omega)
theorem has0 : startHas hl0 h0 = true := by kernel_rfl
theorem low0 : (hl0.all fun e => decide (e.1 < h0.next)) = true := by kernel_rfl
theorem yes {h : Hp} (g : Grow h0 h) : Yes Tryz.prog fnsS (ids.f 124) h := fun h' g' =>
  CW_known (hl := hl0) rfl (startHas_grow has0 (g.trans g') fun e he => of_decide_eq_true (List.all_eq_true.1 low0 e he)) ⟨h', .refl _, rfl⟩
theorem gramTy : GramTy Tryz.prog 25 22 9 3 23 42 27 where
  gram := ⟨_, Tryz.underlying25, rfl⟩
  rule := ⟨_, Tryz.underlying42, rfl⟩
  strs := Tryz.underlying22
  str := Tryz.underlying9
  int := Tryz.underlying3
  ints := Tryz.underlying27
  rules := Tryz.underlying23
  cells := ⟨by kernel_rfl, by kernel_rfl, by kernel_rfl, by kernel_rfl, by kernel_rfl, by kernel_rfl, by kernel_rfl⟩
theorem plainG : plainT Tryz.prog 8 25 = true := by kernel_rfl
theorem agG : isAggT Tryz.prog (ids.t 33) = true := by kernel_rfl
theorem szG : sizeT Tryz.prog (ids.t 33) = 4 := by kernel_rfl
end Go.Proofs.YthebkalnpmkkpaaGreatDoor
