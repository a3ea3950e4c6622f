/- ChunkMoves: the functions that it comes by, as they were looked up; the types; the errors. -/
import Derived.Test.YtaccdnpmoghidaaGreatDoorKnSum
import Derived.Test.YtaccdnpmoghidaaGreatDoorWpK11
import Derived.Test.YtaccdnpmoghidaaGreatDoorWpEnd
import Derived.Test.YtaccdnpmoghidaaGreatDoorWpIn
import Derived.Test.YtaccdnpmoghidaaGreatDoorWpInP
set_option linter.unusedVariables false
set_option linter.unusedSimpArgs false
namespace Go.Proofs.YtaccdnpmoghidaaGreatDoor
open Go Go.Vm
set_option maxRecDepth 100000
def ids : Ids where
  f := fun n => match n with | 28 => 3 | 161 => 4 | 389 => 12 | 66 => 13 | 162 => 5 | 390 => 14 | 392 => 16 | 393 => 18 | 391 => 15 | 358 => 17 | 163 => 6 | 394 => 19 | 159 => 8 | 387 => 21 | 127 => 22 | 164 => 9 | 395 => 23 | 71 => 24 | 160 => 10 | 388 => 25 | 128 => 26 | 156 => 11 | 73 => 7 | _ => 0
  t := fun n => match n with | 1000 => 375 | 34 => 23 | 163 => 49 | 175 => 22 | 177 => 25 | 197 => 47 | 480 => 43 | _ => 0
  g := fun n => match n with | 0 => 0 | 1 => 1 | 2 => 2 | 3 => 3 | 4 => 4 | 5 => 5 | 6 => 6 | 7 => 7 | 8 => 8 | 9 => 9 | 10 => 10 | 11 => 11 | 12 => 12 | 13 => 13 | 14 => 14 | 15 => 1 | _ => 0
  e := fun n => match n with | 0 => 19 | 1 => 20 | 2 => 21 | 3 => 22 | 4 => 23 | 5 => 24 | 6 => 25 | 7 => 26 | 8 => 27 | 9 => 28 | 10 => 29 | 11 => 30 | 12 => 31 | 13 => 32 | 14 => 33 | 15 => 20 | _ => 0
theorem body_3 : Tryz.f3.body = some (Tryz.f3.body.getD .skip) := by kernel_rfl
theorem code_3 : compC Tryz.prog (Tryz.f3.body.getD .skip) = some (c28 ids) := by kernel_rfl
theorem is_28 : FnIs Tryz.prog fnsS (ids.f 28) 65 [.tmp 4] (c28 ids) :=
  ⟨⟨Tryz.f3, Tryz.f3.body.getD .skip, Tryz.func3, body_3, Tryz.ntmps3, by kernel_rfl, code_3⟩, by kernel_rfl, by kernel_rfl, fun _ _ _ => by kernel_rfl⟩
theorem body_4 : Tryz.f4.body = some (Tryz.f4.body.getD .skip) := by kernel_rfl
theorem code_4 : compC Tryz.prog (Tryz.f4.body.getD .skip) = some (c161 ids) := by kernel_rfl
theorem is_161 : FnIs Tryz.prog fnsS (ids.f 161) 12 [.cell 2 (ids.t 177)] (c161 ids) :=
  ⟨⟨Tryz.f4, Tryz.f4.body.getD .skip, Tryz.func4, body_4, Tryz.ntmps4, by kernel_rfl, code_4⟩, by kernel_rfl, by kernel_rfl, fun _ _ _ => by kernel_rfl⟩
theorem body_12 : Tryz.f12.body = some (Tryz.f12.body.getD .skip) := by kernel_rfl
theorem code_12 : compC Tryz.prog (Tryz.f12.body.getD .skip) = some (c389 ids) := by kernel_rfl
theorem is_389 : FnIs Tryz.prog fnsS (ids.f 389) 15 [.tmp 2] (c389 ids) :=
  ⟨⟨Tryz.f12, Tryz.f12.body.getD .skip, Tryz.func12, body_12, Tryz.ntmps12, by kernel_rfl, code_12⟩, by kernel_rfl, by kernel_rfl, fun _ _ _ => by kernel_rfl⟩
theorem body_13 : Tryz.f13.body = some (Tryz.f13.body.getD .skip) := by kernel_rfl
theorem code_13 : compC Tryz.prog (Tryz.f13.body.getD .skip) = some (c66 ids) := by kernel_rfl
theorem is_66 : FnIs Tryz.prog fnsS (ids.f 66) 15 [.tmp 2] (c66 ids) :=
  ⟨⟨Tryz.f13, Tryz.f13.body.getD .skip, Tryz.func13, body_13, Tryz.ntmps13, by kernel_rfl, code_13⟩, by kernel_rfl, by kernel_rfl, fun _ _ _ => by kernel_rfl⟩
theorem body_5 : Tryz.f5.body = some (Tryz.f5.body.getD .skip) := by kernel_rfl
theorem code_5 : compC Tryz.prog (Tryz.f5.body.getD .skip) = some (c162 ids) := by kernel_rfl
theorem is_162 : FnIs Tryz.prog fnsS (ids.f 162) 84 [.cell 4 (ids.t 177), .tmp 5] (c162 ids) :=
  ⟨⟨Tryz.f5, Tryz.f5.body.getD .skip, Tryz.func5, body_5, Tryz.ntmps5, by kernel_rfl, code_5⟩, by kernel_rfl, by kernel_rfl, fun _ _ _ => by kernel_rfl⟩
theorem body_14 : Tryz.f14.body = some (Tryz.f14.body.getD .skip) := by kernel_rfl
theorem code_14 : compC Tryz.prog (Tryz.f14.body.getD .skip) = some (c390 ids) := by kernel_rfl
theorem is_390 : FnIs Tryz.prog fnsS (ids.f 390) 45 [] (c390 ids) :=
  ⟨⟨Tryz.f14, Tryz.f14.body.getD .skip, Tryz.func14, body_14, Tryz.ntmps14, by kernel_rfl, code_14⟩, by kernel_rfl, by kernel_rfl, fun _ _ _ => by kernel_rfl⟩
theorem body_16 : Tryz.f16.body = some (Tryz.f16.body.getD .skip) := by kernel_rfl
theorem code_16 : compC Tryz.prog (Tryz.f16.body.getD .skip) = some (c392 ids) := by kernel_rfl
theorem is_392 : FnIs Tryz.prog fnsS (ids.f 392) 8 [.tmp 2] (c392 ids) :=
  ⟨⟨Tryz.f16, Tryz.f16.body.getD .skip, Tryz.func16, body_16, Tryz.ntmps16, by kernel_rfl, code_16⟩, by kernel_rfl, by kernel_rfl, fun _ _ _ => by kernel_rfl⟩
theorem body_18 : Tryz.f18.body = some (Tryz.f18.body.getD .skip) := by kernel_rfl
theorem code_18 : compC Tryz.prog (Tryz.f18.body.getD .skip) = some (c393 ids) := by kernel_rfl
theorem is_393 : FnIs Tryz.prog fnsS (ids.f 393) 8 [.tmp 2] (c393 ids) :=
  ⟨⟨Tryz.f18, Tryz.f18.body.getD .skip, Tryz.func18, body_18, Tryz.ntmps18, by kernel_rfl, code_18⟩, by kernel_rfl, by kernel_rfl, fun _ _ _ => by kernel_rfl⟩
theorem body_15 : Tryz.f15.body = some (Tryz.f15.body.getD .skip) := by kernel_rfl
theorem code_15 : compC Tryz.prog (Tryz.f15.body.getD .skip) = some (c391 ids) := by kernel_rfl
theorem is_391 : FnIs Tryz.prog fnsS (ids.f 391) 9 [.tmp 2] (c391 ids) :=
  ⟨⟨Tryz.f15, Tryz.f15.body.getD .skip, Tryz.func15, body_15, Tryz.ntmps15, by kernel_rfl, code_15⟩, by kernel_rfl, by kernel_rfl, fun _ _ _ => by kernel_rfl⟩
theorem body_17 : Tryz.f17.body = some (Tryz.f17.body.getD .skip) := by kernel_rfl
theorem code_17 : compC Tryz.prog (Tryz.f17.body.getD .skip) = some (c358 ids) := by kernel_rfl
theorem is_358 : FnIs Tryz.prog fnsS (ids.f 358) 9 [.tmp 2] (c358 ids) :=
  ⟨⟨Tryz.f17, Tryz.f17.body.getD .skip, Tryz.func17, body_17, Tryz.ntmps17, by kernel_rfl, code_17⟩, by kernel_rfl, by kernel_rfl, fun _ _ _ => by kernel_rfl⟩
theorem body_6 : Tryz.f6.body = some (Tryz.f6.body.getD .skip) := by kernel_rfl
theorem code_6 : compC Tryz.prog (Tryz.f6.body.getD .skip) = some (c163 ids) := by kernel_rfl
theorem is_163 : FnIs Tryz.prog fnsS (ids.f 163) 136 [.cell 4 (ids.t 177), .tmp 5] (c163 ids) :=
  ⟨⟨Tryz.f6, Tryz.f6.body.getD .skip, Tryz.func6, body_6, Tryz.ntmps6, by kernel_rfl, code_6⟩, by kernel_rfl, by kernel_rfl, fun _ _ _ => by kernel_rfl⟩
theorem body_19 : Tryz.f19.body = some (Tryz.f19.body.getD .skip) := by kernel_rfl
theorem code_19 : compC Tryz.prog (Tryz.f19.body.getD .skip) = some (c394 ids) := by kernel_rfl
theorem is_394 : FnIs Tryz.prog fnsS (ids.f 394) 35 [.tmp 4, .tmp 5] (c394 ids) :=
  ⟨⟨Tryz.f19, Tryz.f19.body.getD .skip, Tryz.func19, body_19, Tryz.ntmps19, by kernel_rfl, code_19⟩, by kernel_rfl, by kernel_rfl, fun _ _ _ => by kernel_rfl⟩
theorem body_8 : Tryz.f8.body = some (Tryz.f8.body.getD .skip) := by kernel_rfl
theorem code_8 : compC Tryz.prog (Tryz.f8.body.getD .skip) = some (c159 ids) := by kernel_rfl
theorem is_159 : FnIs Tryz.prog fnsS (ids.f 159) 31 [.tmp 4] (c159 ids) :=
  ⟨⟨Tryz.f8, Tryz.f8.body.getD .skip, Tryz.func8, body_8, Tryz.ntmps8, by kernel_rfl, code_8⟩, by kernel_rfl, by kernel_rfl, fun _ _ _ => by kernel_rfl⟩
theorem body_21 : Tryz.f21.body = some (Tryz.f21.body.getD .skip) := by kernel_rfl
theorem code_21 : compC Tryz.prog (Tryz.f21.body.getD .skip) = some (c387 ids) := by kernel_rfl
theorem is_387 : FnIs Tryz.prog fnsS (ids.f 387) 26 [.tmp 4] (c387 ids) :=
  ⟨⟨Tryz.f21, Tryz.f21.body.getD .skip, Tryz.func21, body_21, Tryz.ntmps21, by kernel_rfl, code_21⟩, by kernel_rfl, by kernel_rfl, fun _ _ _ => by kernel_rfl⟩
theorem body_22 : Tryz.f22.body = some (Tryz.f22.body.getD .skip) := by kernel_rfl
theorem code_22 : compC Tryz.prog (Tryz.f22.body.getD .skip) = some (c127 ids) := by kernel_rfl
theorem is_127 : FnIs Tryz.prog fnsS (ids.f 127) 26 [.tmp 4] (c127 ids) :=
  ⟨⟨Tryz.f22, Tryz.f22.body.getD .skip, Tryz.func22, body_22, Tryz.ntmps22, by kernel_rfl, code_22⟩, by kernel_rfl, by kernel_rfl, fun _ _ _ => by kernel_rfl⟩
theorem body_9 : Tryz.f9.body = some (Tryz.f9.body.getD .skip) := by kernel_rfl
theorem code_9 : compC Tryz.prog (Tryz.f9.body.getD .skip) = some (c164 ids) := by kernel_rfl
theorem is_164 : FnIs Tryz.prog fnsS (ids.f 164) 31 [.tmp 4] (c164 ids) :=
  ⟨⟨Tryz.f9, Tryz.f9.body.getD .skip, Tryz.func9, body_9, Tryz.ntmps9, by kernel_rfl, code_9⟩, by kernel_rfl, by kernel_rfl, fun _ _ _ => by kernel_rfl⟩
theorem body_23 : Tryz.f23.body = some (Tryz.f23.body.getD .skip) := by kernel_rfl
theorem code_23 : compC Tryz.prog (Tryz.f23.body.getD .skip) = some (c395 ids) := by kernel_rfl
theorem is_395 : FnIs Tryz.prog fnsS (ids.f 395) 21 [.tmp 4] (c395 ids) :=
  ⟨⟨Tryz.f23, Tryz.f23.body.getD .skip, Tryz.func23, body_23, Tryz.ntmps23, by kernel_rfl, code_23⟩, by kernel_rfl, by kernel_rfl, fun _ _ _ => by kernel_rfl⟩
theorem body_24 : Tryz.f24.body = some (Tryz.f24.body.getD .skip) := by kernel_rfl
theorem code_24 : compC Tryz.prog (Tryz.f24.body.getD .skip) = some (c71 ids) := by kernel_rfl
theorem is_71 : FnIs Tryz.prog fnsS (ids.f 71) 21 [.tmp 4] (c71 ids) :=
  ⟨⟨Tryz.f24, Tryz.f24.body.getD .skip, Tryz.func24, body_24, Tryz.ntmps24, by kernel_rfl, code_24⟩, by kernel_rfl, by kernel_rfl, fun _ _ _ => by kernel_rfl⟩
theorem body_10 : Tryz.f10.body = some (Tryz.f10.body.getD .skip) := by kernel_rfl
theorem code_10 : compC Tryz.prog (Tryz.f10.body.getD .skip) = some (c160 ids) := by kernel_rfl
theorem is_160 : FnIs Tryz.prog fnsS (ids.f 160) 34 [.tmp 2] (c160 ids) :=
  ⟨⟨Tryz.f10, Tryz.f10.body.getD .skip, Tryz.func10, body_10, Tryz.ntmps10, by kernel_rfl, code_10⟩, by kernel_rfl, by kernel_rfl, fun _ _ _ => by kernel_rfl⟩
theorem body_25 : Tryz.f25.body = some (Tryz.f25.body.getD .skip) := by kernel_rfl
theorem code_25 : compC Tryz.prog (Tryz.f25.body.getD .skip) = some (c388 ids) := by kernel_rfl
theorem is_388 : FnIs Tryz.prog fnsS (ids.f 388) 130 [.tmp 2] (c388 ids) :=
  ⟨⟨Tryz.f25, Tryz.f25.body.getD .skip, Tryz.func25, body_25, Tryz.ntmps25, by kernel_rfl, code_25⟩, by kernel_rfl, by kernel_rfl, fun _ _ _ => by kernel_rfl⟩
theorem body_26 : Tryz.f26.body = some (Tryz.f26.body.getD .skip) := by kernel_rfl
theorem code_26 : compC Tryz.prog (Tryz.f26.body.getD .skip) = some (c128 ids) := by kernel_rfl
theorem is_128 : FnIs Tryz.prog fnsS (ids.f 128) 130 [.tmp 2] (c128 ids) :=
  ⟨⟨Tryz.f26, Tryz.f26.body.getD .skip, Tryz.func26, body_26, Tryz.ntmps26, by kernel_rfl, code_26⟩, by kernel_rfl, by kernel_rfl, fun _ _ _ => by kernel_rfl⟩
theorem ty_175 : TyIs Tryz.prog (ids.t 175) 1 24 [.slice none 0 (.ex 0)] := ⟨by kernel_rfl, by kernel_rfl, by kernel_rfl, rfl⟩
theorem ty_34 : TyIs Tryz.prog (ids.t 34) 1 24 [.slice none 0 (.ex 0)] := ⟨by kernel_rfl, by kernel_rfl, by kernel_rfl, rfl⟩
theorem glob0 : Glob ids h0 where
  sent := fun k hk => match k, hk with
    | 0, _ => by kernel_rfl
    | 1, _ => by kernel_rfl
    | 2, _ => by kernel_rfl
    | 3, _ => by kernel_rfl
    | 4, _ => by kernel_rfl
    | 5, _ => by kernel_rfl
    | 6, _ => by kernel_rfl
    | 7, _ => by kernel_rfl
    | 8, _ => by kernel_rfl
    | 9, _ => by kernel_rfl
    | 10, _ => by kernel_rfl
    | 11, _ => by kernel_rfl
    | 12, _ => by kernel_rfl
    | 13, _ => by kernel_rfl
    | 14, _ => by kernel_rfl
    | 15, _ => by kernel_rfl
    | k + 16, hk => absurd hk (by omega)
  low := fun k hk => match k, hk with
    | 0, _ => of_decide_eq_true (by kernel_rfl)
    | 1, _ => of_decide_eq_true (by kernel_rfl)
    | 2, _ => of_decide_eq_true (by kernel_rfl)
    | 3, _ => of_decide_eq_true (by kernel_rfl)
    | 4, _ => of_decide_eq_true (by kernel_rfl)
    | 5, _ => of_decide_eq_true (by kernel_rfl)
    | 6, _ => of_decide_eq_true (by kernel_rfl)
    | 7, _ => of_decide_eq_true (by kernel_rfl)
    | 8, _ => of_decide_eq_true (by kernel_rfl)
    | 9, _ => of_decide_eq_true (by kernel_rfl)
    | 10, _ => of_decide_eq_true (by kernel_rfl)
    | 11, _ => of_decide_eq_true (by kernel_rfl)
    | 12, _ => of_decide_eq_true (by kernel_rfl)
    | 13, _ => of_decide_eq_true (by kernel_rfl)
    | 14, _ => of_decide_eq_true (by kernel_rfl)
    | 15, _ => of_decide_eq_true (by kernel_rfl)
    | k + 16, hk => absurd hk (by omega)
theorem has0 : startHas hl0 h0 = true := by kernel_rfl
theorem low0 : (hl0.all fun e => decide (e.1 < h0.next)) = true := by kernel_rfl
theorem yes {h : Hp} (g : Grow h0 h) : Yes Tryz.prog fnsS (ids.f 156) h := fun h' g' =>
  CW_knownE (L := knL) (hl := hl0) (v := .bool true) rfl (by kernel_rfl) (startHas_grow has0 (g.trans g') fun e he => of_decide_eq_true (List.all_eq_true.1 low0 e he)) ⟨h', .refl _, rfl⟩
theorem says0 {h : Hp} (g : Grow h0 h) : Says Tryz.prog fnsS (ids.f 73) [.nilIface] h (.int .i64 0) := fun h' g' =>
  CW_knownE (L := knL) (hl := hl0) (v := .int .i64 0) rfl (by kernel_rfl) (startHas_grow has0 (g.trans g') fun e he => of_decide_eq_true (List.all_eq_true.1 low0 e he)) ⟨h', .refl _, rfl⟩
theorem says1 {h : Hp} (g : Grow h0 h) : Says Tryz.prog fnsS (ids.f 73) [.iface 375 (.ptr (some (19, 0)))] h (.int .i64 12) := fun h' g' =>
  CW_knownE (L := knL) (hl := hl0) (v := .int .i64 12) rfl (by kernel_rfl) (startHas_grow has0 (g.trans g') fun e he => of_decide_eq_true (List.all_eq_true.1 low0 e he)) ⟨h', .refl _, rfl⟩
theorem pieceTy : PieceTy Tryz.prog 25 3 22 47 23 49 where
  piece := ⟨_, Tryz.underlying25, rfl⟩
  item := ⟨_, Tryz.underlying47, rfl⟩
  step := ⟨_, Tryz.underlying49, rfl⟩
  int := Tryz.underlying3
  items := Tryz.underlying22
  steps := Tryz.underlying23
  cells := ⟨by kernel_rfl, by kernel_rfl, by kernel_rfl, by kernel_rfl, by kernel_rfl, by kernel_rfl⟩
  bytes := ⟨by kernel_rfl, by kernel_rfl⟩
theorem plainP : plainT Tryz.prog 8 25 = true := by kernel_rfl
theorem pcT : PcT Tryz.prog ids where
  agg := by kernel_rfl
  size := by kernel_rfl
  ri := ⟨⟨by kernel_rfl, by kernel_rfl, by kernel_rfl, rfl⟩, rfl, fun x => rfl, fun x => rfl⟩
  rs := ⟨⟨by kernel_rfl, by kernel_rfl, by kernel_rfl, rfl⟩, rfl, fun x => rfl, fun x => rfl⟩
theorem kinds {h : Hp} (g : Grow h0 h) : ∀ b, Says Tryz.prog fnsS (ids.f 73) [errV ids b] h (.int .i64 (if b then 12 else 0))
  | false => says0 g
  | true => says1 g
end Go.Proofs.YtaccdnpmoghidaaGreatDoor
