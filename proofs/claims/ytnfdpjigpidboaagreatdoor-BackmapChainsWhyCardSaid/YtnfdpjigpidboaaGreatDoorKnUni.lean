/- BackmapChainsWhy: the functions that it comes by, as they were looked up; the types; the errors. -/
import Derived.Test.YtnfdpjigpidboaaGreatDoorKnSum
import Derived.Test.YtnfdpjigpidboaaGreatDoorWpG7
import Derived.Test.YtnfdpjigpidboaaGreatDoorWpEnd
import Derived.Test.YtnfdpjigpidboaaGreatDoorWpIn
set_option linter.unusedVariables false
set_option linter.unusedSimpArgs false
namespace Go.Proofs.YtnfdpjigpidboaaGreatDoor
open Go Go.Vm
set_option maxRecDepth 100000
def ids : Ids where
  f := fun n => match n with | 20 => 3 | 141 => 5 | 138 => 4 | 334 => 11 | 372 => 9 | 373 => 10 | 142 => 7 | 124 => 6 | 324 => 8 | 503 => 15 | 650 => 22 | 363 => 21 | 527 => 36 | 502 => 14 | 649 => 20 | 764 => 35 | 696 => 52 | _ => 0
  t := fun n => match n with | 1000 => 368 | 3 => 3 | 9 => 9 | 33 => 25 | 69 => 26 | 101 => 36 | 151 => 33 | 383 => 51 | 386 => 53 | _ => 0
  g := fun n => match n with | 0 => 11 | 1 => 2 | 2 => 4 | 3 => 0 | 4 => 5 | 5 => 6 | 6 => 7 | 7 => 8 | 8 => 9 | 9 => 10 | 10 => 1 | 11 => 3 | 12 => 12 | 13 => 13 | 14 => 14 | 15 => 2 | _ => 0
  e := fun n => match n with | 0 => 30 | 1 => 21 | 2 => 23 | 3 => 19 | 4 => 24 | 5 => 25 | 6 => 26 | 7 => 27 | 8 => 28 | 9 => 29 | 10 => 20 | 11 => 22 | 12 => 31 | 13 => 32 | 14 => 33 | 15 => 21 | _ => 0
theorem body_3 : Tryz.f3.body = some (Tryz.f3.body.getD .skip) := by kernel_rfl
theorem code_3 : compC Tryz.prog (Tryz.f3.body.getD .skip) = some (c20 ids) := by kernel_rfl
theorem is_20 : FnIs Tryz.prog fnsS (ids.f 20) 134 [.tmp 6] (c20 ids) :=
  ⟨⟨Tryz.f3, Tryz.f3.body.getD .skip, Tryz.func3, body_3, Tryz.ntmps3, by kernel_rfl, code_3⟩, by kernel_rfl, by kernel_rfl, fun _ _ _ => by kernel_rfl⟩
theorem body_5 : Tryz.f5.body = some (Tryz.f5.body.getD .skip) := by kernel_rfl
theorem code_5 : compC Tryz.prog (Tryz.f5.body.getD .skip) = some (c141 ids) := by kernel_rfl
theorem is_141 : FnIs Tryz.prog fnsS (ids.f 141) 68 [.tmp 2] (c141 ids) :=
  ⟨⟨Tryz.f5, Tryz.f5.body.getD .skip, Tryz.func5, body_5, Tryz.ntmps5, by kernel_rfl, code_5⟩, by kernel_rfl, by kernel_rfl, fun _ _ _ => by kernel_rfl⟩
theorem body_4 : Tryz.f4.body = some (Tryz.f4.body.getD .skip) := by kernel_rfl
theorem code_4 : compC Tryz.prog (Tryz.f4.body.getD .skip) = some (c138 ids) := by kernel_rfl
theorem is_138 : FnIs Tryz.prog fnsS (ids.f 138) 125 [.tmp 6, .tmp 7] (c138 ids) :=
  ⟨⟨Tryz.f4, Tryz.f4.body.getD .skip, Tryz.func4, body_4, Tryz.ntmps4, by kernel_rfl, code_4⟩, by kernel_rfl, by kernel_rfl, fun _ _ _ => by kernel_rfl⟩
theorem body_11 : Tryz.f11.body = some (Tryz.f11.body.getD .skip) := by kernel_rfl
theorem code_11 : compC Tryz.prog (Tryz.f11.body.getD .skip) = some (c334 ids) := by kernel_rfl
theorem is_334 : FnIs Tryz.prog fnsS (ids.f 334) 9 [.tmp 2] (c334 ids) :=
  ⟨⟨Tryz.f11, Tryz.f11.body.getD .skip, Tryz.func11, body_11, Tryz.ntmps11, by kernel_rfl, code_11⟩, by kernel_rfl, by kernel_rfl, fun _ _ _ => by kernel_rfl⟩
theorem body_9 : Tryz.f9.body = some (Tryz.f9.body.getD .skip) := by kernel_rfl
theorem code_9 : compC Tryz.prog (Tryz.f9.body.getD .skip) = some (c372 ids) := by kernel_rfl
theorem is_372 : FnIs Tryz.prog fnsS (ids.f 372) 19 [.tmp 4] (c372 ids) :=
  ⟨⟨Tryz.f9, Tryz.f9.body.getD .skip, Tryz.func9, body_9, Tryz.ntmps9, by kernel_rfl, code_9⟩, by kernel_rfl, by kernel_rfl, fun _ _ _ => by kernel_rfl⟩
theorem body_10 : Tryz.f10.body = some (Tryz.f10.body.getD .skip) := by kernel_rfl
theorem code_10 : compC Tryz.prog (Tryz.f10.body.getD .skip) = some (c373 ids) := by kernel_rfl
theorem is_373 : FnIs Tryz.prog fnsS (ids.f 373) 31 [.tmp 4] (c373 ids) :=
  ⟨⟨Tryz.f10, Tryz.f10.body.getD .skip, Tryz.func10, body_10, Tryz.ntmps10, by kernel_rfl, code_10⟩, by kernel_rfl, by kernel_rfl, fun _ _ _ => by kernel_rfl⟩
theorem body_7 : Tryz.f7.body = some (Tryz.f7.body.getD .skip) := by kernel_rfl
theorem code_7 : compC Tryz.prog (Tryz.f7.body.getD .skip) = some (c142 ids) := by kernel_rfl
theorem is_142 : FnIs Tryz.prog fnsS (ids.f 142) 20 [.tmp 2, .tmp 3] (c142 ids) :=
  ⟨⟨Tryz.f7, Tryz.f7.body.getD .skip, Tryz.func7, body_7, Tryz.ntmps7, by kernel_rfl, code_7⟩, by kernel_rfl, by kernel_rfl, fun _ _ _ => by kernel_rfl⟩
theorem body_8 : Tryz.f8.body = some (Tryz.f8.body.getD .skip) := by kernel_rfl
theorem code_8 : compC Tryz.prog (Tryz.f8.body.getD .skip) = some (c324 ids) := by kernel_rfl
theorem is_324 : FnIs Tryz.prog fnsS (ids.f 324) 69 [.tmp 2] (c324 ids) :=
  ⟨⟨Tryz.f8, Tryz.f8.body.getD .skip, Tryz.func8, body_8, Tryz.ntmps8, by kernel_rfl, code_8⟩, by kernel_rfl, by kernel_rfl, fun _ _ _ => by kernel_rfl⟩
theorem body_15 : Tryz.f15.body = some (Tryz.f15.body.getD .skip) := by kernel_rfl
theorem code_15 : compC Tryz.prog (Tryz.f15.body.getD .skip) = some (c503 ids) := by kernel_rfl
theorem is_503 : FnIs Tryz.prog fnsS (ids.f 503) 28 [.tmp 4] (c503 ids) :=
  ⟨⟨Tryz.f15, Tryz.f15.body.getD .skip, Tryz.func15, body_15, Tryz.ntmps15, by kernel_rfl, code_15⟩, by kernel_rfl, by kernel_rfl, fun _ _ _ => by kernel_rfl⟩
theorem body_22 : Tryz.f22.body = some (Tryz.f22.body.getD .skip) := by kernel_rfl
theorem code_22 : compC Tryz.prog (Tryz.f22.body.getD .skip) = some (c650 ids) := by kernel_rfl
theorem is_650 : FnIs Tryz.prog fnsS (ids.f 650) 17 [.tmp 3] (c650 ids) :=
  ⟨⟨Tryz.f22, Tryz.f22.body.getD .skip, Tryz.func22, body_22, Tryz.ntmps22, by kernel_rfl, code_22⟩, by kernel_rfl, by kernel_rfl, fun _ _ _ => by kernel_rfl⟩
theorem body_21 : Tryz.f21.body = some (Tryz.f21.body.getD .skip) := by kernel_rfl
theorem code_21 : compC Tryz.prog (Tryz.f21.body.getD .skip) = some (c363 ids) := by kernel_rfl
theorem is_363 : FnIs Tryz.prog fnsS (ids.f 363) 9 [.tmp 4] (c363 ids) :=
  ⟨⟨Tryz.f21, Tryz.f21.body.getD .skip, Tryz.func21, body_21, Tryz.ntmps21, by kernel_rfl, code_21⟩, by kernel_rfl, by kernel_rfl, fun _ _ _ => by kernel_rfl⟩
theorem body_36 : Tryz.f36.body = some (Tryz.f36.body.getD .skip) := by kernel_rfl
theorem code_36 : compC Tryz.prog (Tryz.f36.body.getD .skip) = some (c527 ids) := by kernel_rfl
theorem is_527 : FnIs Tryz.prog fnsS (ids.f 527) 19 [.tmp 4] (c527 ids) :=
  ⟨⟨Tryz.f36, Tryz.f36.body.getD .skip, Tryz.func36, body_36, Tryz.ntmps36, by kernel_rfl, code_36⟩, by kernel_rfl, by kernel_rfl, fun _ _ _ => by kernel_rfl⟩
theorem body_14 : Tryz.f14.body = some (Tryz.f14.body.getD .skip) := by kernel_rfl
theorem code_14 : compC Tryz.prog (Tryz.f14.body.getD .skip) = some (c502 ids) := by kernel_rfl
theorem is_502 : FnIs Tryz.prog fnsS (ids.f 502) 13 [.tmp 2] (c502 ids) :=
  ⟨⟨Tryz.f14, Tryz.f14.body.getD .skip, Tryz.func14, body_14, Tryz.ntmps14, by kernel_rfl, code_14⟩, by kernel_rfl, by kernel_rfl, fun _ _ _ => by kernel_rfl⟩
theorem body_20 : Tryz.f20.body = some (Tryz.f20.body.getD .skip) := by kernel_rfl
theorem code_20 : compC Tryz.prog (Tryz.f20.body.getD .skip) = some (c649 ids) := by kernel_rfl
theorem is_649 : FnIs Tryz.prog fnsS (ids.f 649) 26 [.tmp 4] (c649 ids) :=
  ⟨⟨Tryz.f20, Tryz.f20.body.getD .skip, Tryz.func20, body_20, Tryz.ntmps20, by kernel_rfl, code_20⟩, by kernel_rfl, by kernel_rfl, fun _ _ _ => by kernel_rfl⟩
theorem body_35 : Tryz.f35.body = some (Tryz.f35.body.getD .skip) := by kernel_rfl
theorem code_35 : compC Tryz.prog (Tryz.f35.body.getD .skip) = some (c764 ids) := by kernel_rfl
theorem is_764 : FnIs Tryz.prog fnsS (ids.f 764) 9 [.tmp 4] (c764 ids) :=
  ⟨⟨Tryz.f35, Tryz.f35.body.getD .skip, Tryz.func35, body_35, Tryz.ntmps35, by kernel_rfl, code_35⟩, by kernel_rfl, by kernel_rfl, fun _ _ _ => by kernel_rfl⟩
theorem body_52 : Tryz.f52.body = some (Tryz.f52.body.getD .skip) := by kernel_rfl
theorem code_52 : compC Tryz.prog (Tryz.f52.body.getD .skip) = some (c696 ids) := by kernel_rfl
theorem is_696 : FnIs Tryz.prog fnsS (ids.f 696) 19 [.tmp 4] (c696 ids) :=
  ⟨⟨Tryz.f52, Tryz.f52.body.getD .skip, Tryz.func52, body_52, Tryz.ntmps52, by kernel_rfl, code_52⟩, by kernel_rfl, by kernel_rfl, fun _ _ _ => by kernel_rfl⟩
theorem ty_3 : TyIs Tryz.prog (ids.t 3) 1 8 [.int .i64 0] := ⟨by kernel_rfl, by kernel_rfl, by kernel_rfl, rfl⟩
theorem glob0 : Glob ids h0 where
  sent := fun k hk => match k, hk with
    | 0, _ => by kernel_rfl
    | 1, _ => by kernel_rfl
    | 2, _ => by kernel_rfl
    | 3, _ => by kernel_rfl
    | 4, _ => by kernel_rfl
    | 5, _ => by kernel_rfl
    | 6, _ => by kernel_rfl
    | 7, _ => by kernel_rfl
    | 8, _ => by kernel_rfl
    | 9, _ => by kernel_rfl
    | 10, _ => by kernel_rfl
    | 11, _ => by kernel_rfl
    | 12, _ => by kernel_rfl
    | 13, _ => by kernel_rfl
    | 14, _ => by kernel_rfl
    | 15, _ => by kernel_rfl
    | k + 16, hk => absurd hk (by omega)
  low := fun k hk => match k, hk with
    | 0, _ => of_decide_eq_true (by kernel_rfl)
    | 1, _ => of_decide_eq_true (by kernel_rfl)
    | 2, _ => of_decide_eq_true (by kernel_rfl)
    | 3, _ => of_decide_eq_true (by kernel_rfl)
    | 4, _ => of_decide_eq_true (by kernel_rfl)
    | 5, _ => of_decide_eq_true (by kernel_rfl)
    | 6, _ => of_decide_eq_true (by kernel_rfl)
    | 7, _ => of_decide_eq_true (by kernel_rfl)
    | 8, _ => of_decide_eq_true (by kernel_rfl)
    | 9, _ => of_decide_eq_true (by kernel_rfl)
    | 10, _ => of_decide_eq_true (by kernel_rfl)
    | 11, _ => of_decide_eq_true (by kernel_rfl)
    | 12, _ => of_decide_eq_true (by kernel_rfl)
    | 13, _ => of_decide_eq_true (by kernel_rfl)
    | 14, _ => of_decide_eq_true (by kernel_rfl)
    | 15, _ => of_decide_eq_true (by kernel_rfl)
    | k + 16, hk => absurd hk (by omega)
theorem has0 : startHas hl0 h0 = true := by kernel_rfl
theorem low0 : (hl0.all fun e => decide (e.1 < h0.next)) = true := by kernel_rfl
theorem yes {h : Hp} (g : Grow h0 h) : Yes Tryz.prog fnsS (ids.f 124) h := fun h' g' =>
  CW_known (hl := hl0) rfl (startHas_grow has0 (g.trans g') fun e he => of_decide_eq_true (List.all_eq_true.1 low0 e he)) ⟨h', .refl _, rfl⟩
theorem gramTy : GramTy Tryz.prog 25 22 9 3 23 36 26 where
  gram := ⟨_, Tryz.underlying25, rfl⟩
  rule := ⟨_, Tryz.underlying36, rfl⟩
  strs := Tryz.underlying22
  str := Tryz.underlying9
  int := Tryz.underlying3
  ints := Tryz.underlying26
  rules := Tryz.underlying23
  cells := ⟨by kernel_rfl, by kernel_rfl, by kernel_rfl, by kernel_rfl, by kernel_rfl, by kernel_rfl, by kernel_rfl⟩
theorem plainG : plainT Tryz.prog 8 25 = true := by kernel_rfl
end Go.Proofs.YtnfdpjigpidboaaGreatDoor
