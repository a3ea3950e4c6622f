/- DocKnown: the functions of the call that is walked, as they were looked up; what is known of it. -/
import Derived.Test.YtodpkcebihbghaaGreatDoorKnBase
import Derived.Test.YtodpkcebihbghaaGreatDoorWpD8
set_option linter.unusedVariables false
set_option linter.unusedSimpArgs false
namespace Go.Proofs.YtodpkcebihbghaaGreatDoor
open Go Go.Vm
set_option maxRecDepth 100000
def ids : Ids where
  f := fun n => match n with | 232 => 7 | 432 => 17 | 433 => 20 | 431 => 16 | 561 => 28 | 563 => 32 | 562 => 31 | 697 => 48 | 564 => 33 | 702 => 53 | 794 => 77 | 352 => 30 | 157 => 54 | 363 => 27 | 527 => 47 | 385 => 78 | 175 => 38 | 179 => 40 | 392 => 66 | 391 => 65 | 405 => 71 | 393 => 68 | 358 => 67 | 544 => 114 | 511 => 151 | 669 => 206 | 693 => 156 | 785 => 221 | 176 => 79 | 404 => 113 | 406 => 74 | 546 => 116 | 103 => 29 | 104 => 117 | 339 => 137 | 227 => 184 | 434 => 21 | 545 => 115 | 547 => 118 | 548 => 119 | 668 => 205 | 698 => 49 | 699 => 50 | 700 => 51 | 701 => 52 | 786 => 222 | 787 => 223 | 788 => 224 | 789 => 225 | 790 => 226 | 791 => 227 | 792 => 228 | _ => 0
  t := fun n => match n with | 3 => 3 | 9 => 9 | 50 => 27 | 69 => 29 | 163 => 52 | 177 => 58 | 197 => 140 | 266 => 22 | 272 => 35 | 379 => 161 | 382 => 163 | 491 => 146 | 519 => 41 | 528 => 65 | 697 => 69 | _ => 0
  g := fun n => match n with | 0 => 1 | 1 => 0 | 2 => 4 | 3 => 5 | 4 => 6 | 5 => 7 | 6 => 8 | 7 => 9 | 8 => 2 | 9 => 10 | 10 => 11 | 11 => 12 | 12 => 13 | 13 => 14 | 14 => 3 | 15 => 15 | _ => 0
  e := fun n => match n with | 0 => 21 | 1 => 20 | 2 => 24 | 3 => 25 | 4 => 26 | 5 => 27 | 6 => 28 | 7 => 29 | 8 => 22 | 9 => 30 | 10 => 31 | 11 => 32 | 12 => 33 | 13 => 34 | 14 => 23 | 15 => 35 | _ => 0
theorem bodyB_7 : Tryz.f7.body = some (Tryz.f7.body.getD .skip) := by kernel_rfl
theorem code_7 : compC Tryz.prog (Tryz.f7.body.getD .skip) = some (c232 ids) := by kernel_rfl
theorem is_232 : FnIs Tryz.prog fns (ids.f 232) 75 [.tmp 8] (c232 ids) :=
  ⟨⟨Tryz.f7, Tryz.f7.body.getD .skip, Tryz.func7, bodyB_7, Tryz.ntmps7, by kernel_rfl, code_7⟩, by kernel_rfl, by kernel_rfl, fun _ _ _ => by kernel_rfl⟩
theorem bodyB_17 : Tryz.f17.body = some (Tryz.f17.body.getD .skip) := by kernel_rfl
theorem code_17 : compC Tryz.prog (Tryz.f17.body.getD .skip) = some (c432 ids) := by kernel_rfl
theorem is_432 : FnIs Tryz.prog fns (ids.f 432) 150 [.tmp 8] (c432 ids) :=
  ⟨⟨Tryz.f17, Tryz.f17.body.getD .skip, Tryz.func17, bodyB_17, Tryz.ntmps17, by kernel_rfl, code_17⟩, by kernel_rfl, by kernel_rfl, fun _ _ _ => by kernel_rfl⟩
theorem bodyB_20 : Tryz.f20.body = some (Tryz.f20.body.getD .skip) := by kernel_rfl
theorem code_20 : compC Tryz.prog (Tryz.f20.body.getD .skip) = some (c433 ids) := by kernel_rfl
theorem is_433 : FnIs Tryz.prog fns (ids.f 433) 7 [.tmp 2] (c433 ids) :=
  ⟨⟨Tryz.f20, Tryz.f20.body.getD .skip, Tryz.func20, bodyB_20, Tryz.ntmps20, by kernel_rfl, code_20⟩, by kernel_rfl, by kernel_rfl, fun _ _ _ => by kernel_rfl⟩
theorem bodyB_16 : Tryz.f16.body = some (Tryz.f16.body.getD .skip) := by kernel_rfl
theorem code_16 : compC Tryz.prog (Tryz.f16.body.getD .skip) = some (c431 ids) := by kernel_rfl
theorem is_431 : FnIs Tryz.prog fns (ids.f 431) 9 [.tmp 4] (c431 ids) :=
  ⟨⟨Tryz.f16, Tryz.f16.body.getD .skip, Tryz.func16, bodyB_16, Tryz.ntmps16, by kernel_rfl, code_16⟩, by kernel_rfl, by kernel_rfl, fun _ _ _ => by kernel_rfl⟩
theorem bodyB_28 : Tryz.f28.body = some (Tryz.f28.body.getD .skip) := by kernel_rfl
theorem code_28 : compC Tryz.prog (Tryz.f28.body.getD .skip) = some (c561 ids) := by kernel_rfl
theorem is_561 : FnIs Tryz.prog fns (ids.f 561) 12 [.tmp 3] (c561 ids) :=
  ⟨⟨Tryz.f28, Tryz.f28.body.getD .skip, Tryz.func28, bodyB_28, Tryz.ntmps28, by kernel_rfl, code_28⟩, by kernel_rfl, by kernel_rfl, fun _ _ _ => by kernel_rfl⟩
theorem bodyB_32 : Tryz.f32.body = some (Tryz.f32.body.getD .skip) := by kernel_rfl
theorem code_32 : compC Tryz.prog (Tryz.f32.body.getD .skip) = some (c563 ids) := by kernel_rfl
theorem is_563 : FnIs Tryz.prog fns (ids.f 563) 224 [.tmp 8] (c563 ids) :=
  ⟨⟨Tryz.f32, Tryz.f32.body.getD .skip, Tryz.func32, bodyB_32, Tryz.ntmps32, by kernel_rfl, code_32⟩, by kernel_rfl, by kernel_rfl, fun _ _ _ => by kernel_rfl⟩
theorem bodyB_31 : Tryz.f31.body = some (Tryz.f31.body.getD .skip) := by kernel_rfl
theorem code_31 : compC Tryz.prog (Tryz.f31.body.getD .skip) = some (c562 ids) := by kernel_rfl
theorem is_562 : FnIs Tryz.prog fns (ids.f 562) 36 [.tmp 2] (c562 ids) :=
  ⟨⟨Tryz.f31, Tryz.f31.body.getD .skip, Tryz.func31, bodyB_31, Tryz.ntmps31, by kernel_rfl, code_31⟩, by kernel_rfl, by kernel_rfl, fun _ _ _ => by kernel_rfl⟩
theorem bodyB_48 : Tryz.f48.body = some (Tryz.f48.body.getD .skip) := by kernel_rfl
theorem code_48 : compC Tryz.prog (Tryz.f48.body.getD .skip) = some (c697 ids) := by kernel_rfl
theorem is_697 : FnIs Tryz.prog fns (ids.f 697) 27 [.tmp 4] (c697 ids) :=
  ⟨⟨Tryz.f48, Tryz.f48.body.getD .skip, Tryz.func48, bodyB_48, Tryz.ntmps48, by kernel_rfl, code_48⟩, by kernel_rfl, by kernel_rfl, fun _ _ _ => by kernel_rfl⟩
theorem bodyB_33 : Tryz.f33.body = some (Tryz.f33.body.getD .skip) := by kernel_rfl
theorem code_33 : compC Tryz.prog (Tryz.f33.body.getD .skip) = some (c564 ids) := by kernel_rfl
theorem is_564 : FnIs Tryz.prog fns (ids.f 564) 42 [.tmp 4] (c564 ids) :=
  ⟨⟨Tryz.f33, Tryz.f33.body.getD .skip, Tryz.func33, bodyB_33, Tryz.ntmps33, by kernel_rfl, code_33⟩, by kernel_rfl, by kernel_rfl, fun _ _ _ => by kernel_rfl⟩
theorem bodyB_53 : Tryz.f53.body = some (Tryz.f53.body.getD .skip) := by kernel_rfl
theorem code_53 : compC Tryz.prog (Tryz.f53.body.getD .skip) = some (c702 ids) := by kernel_rfl
theorem is_702 : FnIs Tryz.prog fns (ids.f 702) 9 [.tmp 4] (c702 ids) :=
  ⟨⟨Tryz.f53, Tryz.f53.body.getD .skip, Tryz.func53, bodyB_53, Tryz.ntmps53, by kernel_rfl, code_53⟩, by kernel_rfl, by kernel_rfl, fun _ _ _ => by kernel_rfl⟩
theorem bodyB_77 : Tryz.f77.body = some (Tryz.f77.body.getD .skip) := by kernel_rfl
theorem code_77 : compC Tryz.prog (Tryz.f77.body.getD .skip) = some (c794 ids) := by kernel_rfl
theorem is_794 : FnIs Tryz.prog fns (ids.f 794) 31 [] (c794 ids) :=
  ⟨⟨Tryz.f77, Tryz.f77.body.getD .skip, Tryz.func77, bodyB_77, Tryz.ntmps77, by kernel_rfl, code_77⟩, by kernel_rfl, by kernel_rfl, fun _ _ _ => by kernel_rfl⟩
theorem bodyB_30 : Tryz.f30.body = some (Tryz.f30.body.getD .skip) := by kernel_rfl
theorem code_30 : compC Tryz.prog (Tryz.f30.body.getD .skip) = some (c352 ids) := by kernel_rfl
theorem is_352 : FnIs Tryz.prog fns (ids.f 352) 8 [.tmp 2] (c352 ids) :=
  ⟨⟨Tryz.f30, Tryz.f30.body.getD .skip, Tryz.func30, bodyB_30, Tryz.ntmps30, by kernel_rfl, code_30⟩, by kernel_rfl, by kernel_rfl, fun _ _ _ => by kernel_rfl⟩
theorem bodyB_54 : Tryz.f54.body = some (Tryz.f54.body.getD .skip) := by kernel_rfl
theorem code_54 : compC Tryz.prog (Tryz.f54.body.getD .skip) = some (c157 ids) := by kernel_rfl
theorem is_157 : FnIs Tryz.prog fns (ids.f 157) 81 [.cell 8 (ids.t 177), .tmp 9] (c157 ids) :=
  ⟨⟨Tryz.f54, Tryz.f54.body.getD .skip, Tryz.func54, bodyB_54, Tryz.ntmps54, by kernel_rfl, code_54⟩, by kernel_rfl, by kernel_rfl, fun _ _ _ => by kernel_rfl⟩
theorem bodyB_27 : Tryz.f27.body = some (Tryz.f27.body.getD .skip) := by kernel_rfl
theorem code_27 : compC Tryz.prog (Tryz.f27.body.getD .skip) = some (c363 ids) := by kernel_rfl
theorem is_363 : FnIs Tryz.prog fns (ids.f 363) 9 [.tmp 4] (c363 ids) :=
  ⟨⟨Tryz.f27, Tryz.f27.body.getD .skip, Tryz.func27, bodyB_27, Tryz.ntmps27, by kernel_rfl, code_27⟩, by kernel_rfl, by kernel_rfl, fun _ _ _ => by kernel_rfl⟩
theorem bodyB_47 : Tryz.f47.body = some (Tryz.f47.body.getD .skip) := by kernel_rfl
theorem code_47 : compC Tryz.prog (Tryz.f47.body.getD .skip) = some (c527 ids) := by kernel_rfl
theorem is_527 : FnIs Tryz.prog fns (ids.f 527) 19 [.tmp 4] (c527 ids) :=
  ⟨⟨Tryz.f47, Tryz.f47.body.getD .skip, Tryz.func47, bodyB_47, Tryz.ntmps47, by kernel_rfl, code_47⟩, by kernel_rfl, by kernel_rfl, fun _ _ _ => by kernel_rfl⟩
theorem bodyB_78 : Tryz.f78.body = some (Tryz.f78.body.getD .skip) := by kernel_rfl
theorem code_78 : compC Tryz.prog (Tryz.f78.body.getD .skip) = some (c385 ids) := by kernel_rfl
theorem is_385 : FnIs Tryz.prog fns (ids.f 385) 12 [.tmp 3] (c385 ids) :=
  ⟨⟨Tryz.f78, Tryz.f78.body.getD .skip, Tryz.func78, bodyB_78, Tryz.ntmps78, by kernel_rfl, code_78⟩, by kernel_rfl, by kernel_rfl, fun _ _ _ => by kernel_rfl⟩
theorem bodyB_38 : Tryz.f38.body = some (Tryz.f38.body.getD .skip) := by kernel_rfl
theorem code_38 : compC Tryz.prog (Tryz.f38.body.getD .skip) = some (c175 ids) := by kernel_rfl
theorem is_175 : FnIs Tryz.prog fns (ids.f 175) 20 [.tmp 4] (c175 ids) :=
  ⟨⟨Tryz.f38, Tryz.f38.body.getD .skip, Tryz.func38, bodyB_38, Tryz.ntmps38, by kernel_rfl, code_38⟩, by kernel_rfl, by kernel_rfl, fun _ _ _ => by kernel_rfl⟩
theorem bodyB_40 : Tryz.f40.body = some (Tryz.f40.body.getD .skip) := by kernel_rfl
theorem code_40 : compC Tryz.prog (Tryz.f40.body.getD .skip) = some (c179 ids) := by kernel_rfl
theorem is_179 : FnIs Tryz.prog fns (ids.f 179) 40 [.cell 2 (ids.t 177), .tmp 3] (c179 ids) :=
  ⟨⟨Tryz.f40, Tryz.f40.body.getD .skip, Tryz.func40, bodyB_40, Tryz.ntmps40, by kernel_rfl, code_40⟩, by kernel_rfl, by kernel_rfl, fun _ _ _ => by kernel_rfl⟩
theorem bodyB_66 : Tryz.f66.body = some (Tryz.f66.body.getD .skip) := by kernel_rfl
theorem code_66 : compC Tryz.prog (Tryz.f66.body.getD .skip) = some (c392 ids) := by kernel_rfl
theorem is_392 : FnIs Tryz.prog fns (ids.f 392) 8 [.tmp 2] (c392 ids) :=
  ⟨⟨Tryz.f66, Tryz.f66.body.getD .skip, Tryz.func66, bodyB_66, Tryz.ntmps66, by kernel_rfl, code_66⟩, by kernel_rfl, by kernel_rfl, fun _ _ _ => by kernel_rfl⟩
theorem bodyB_65 : Tryz.f65.body = some (Tryz.f65.body.getD .skip) := by kernel_rfl
theorem code_65 : compC Tryz.prog (Tryz.f65.body.getD .skip) = some (c391 ids) := by kernel_rfl
theorem is_391 : FnIs Tryz.prog fns (ids.f 391) 9 [.tmp 2] (c391 ids) :=
  ⟨⟨Tryz.f65, Tryz.f65.body.getD .skip, Tryz.func65, bodyB_65, Tryz.ntmps65, by kernel_rfl, code_65⟩, by kernel_rfl, by kernel_rfl, fun _ _ _ => by kernel_rfl⟩
theorem bodyB_71 : Tryz.f71.body = some (Tryz.f71.body.getD .skip) := by kernel_rfl
theorem code_71 : compC Tryz.prog (Tryz.f71.body.getD .skip) = some (c405 ids) := by kernel_rfl
theorem is_405 : FnIs Tryz.prog fns (ids.f 405) 10 [.tmp 2] (c405 ids) :=
  ⟨⟨Tryz.f71, Tryz.f71.body.getD .skip, Tryz.func71, bodyB_71, Tryz.ntmps71, by kernel_rfl, code_71⟩, by kernel_rfl, by kernel_rfl, fun _ _ _ => by kernel_rfl⟩
theorem bodyB_68 : Tryz.f68.body = some (Tryz.f68.body.getD .skip) := by kernel_rfl
theorem code_68 : compC Tryz.prog (Tryz.f68.body.getD .skip) = some (c393 ids) := by kernel_rfl
theorem is_393 : FnIs Tryz.prog fns (ids.f 393) 8 [.tmp 2] (c393 ids) :=
  ⟨⟨Tryz.f68, Tryz.f68.body.getD .skip, Tryz.func68, bodyB_68, Tryz.ntmps68, by kernel_rfl, code_68⟩, by kernel_rfl, by kernel_rfl, fun _ _ _ => by kernel_rfl⟩
theorem bodyB_67 : Tryz.f67.body = some (Tryz.f67.body.getD .skip) := by kernel_rfl
theorem code_67 : compC Tryz.prog (Tryz.f67.body.getD .skip) = some (c358 ids) := by kernel_rfl
theorem is_358 : FnIs Tryz.prog fns (ids.f 358) 9 [.tmp 2] (c358 ids) :=
  ⟨⟨Tryz.f67, Tryz.f67.body.getD .skip, Tryz.func67, bodyB_67, Tryz.ntmps67, by kernel_rfl, code_67⟩, by kernel_rfl, by kernel_rfl, fun _ _ _ => by kernel_rfl⟩
theorem bodyB_114 : Tryz.f114.body = some (Tryz.f114.body.getD .skip) := by kernel_rfl
theorem code_114 : compC Tryz.prog (Tryz.f114.body.getD .skip) = some (c544 ids) := by kernel_rfl
theorem is_544 : FnIs Tryz.prog fns (ids.f 544) 14 [] (c544 ids) :=
  ⟨⟨Tryz.f114, Tryz.f114.body.getD .skip, Tryz.func114, bodyB_114, Tryz.ntmps114, by kernel_rfl, code_114⟩, by kernel_rfl, by kernel_rfl, fun _ _ _ => by kernel_rfl⟩
theorem bodyB_151 : Tryz.f151.body = some (Tryz.f151.body.getD .skip) := by kernel_rfl
theorem code_151 : compC Tryz.prog (Tryz.f151.body.getD .skip) = some (c511 ids) := by kernel_rfl
theorem is_511 : FnIs Tryz.prog fns (ids.f 511) 8 [.tmp 2] (c511 ids) :=
  ⟨⟨Tryz.f151, Tryz.f151.body.getD .skip, Tryz.func151, bodyB_151, Tryz.ntmps151, by kernel_rfl, code_151⟩, by kernel_rfl, by kernel_rfl, fun _ _ _ => by kernel_rfl⟩
theorem bodyB_206 : Tryz.f206.body = some (Tryz.f206.body.getD .skip) := by kernel_rfl
theorem code_206 : compC Tryz.prog (Tryz.f206.body.getD .skip) = some (c669 ids) := by kernel_rfl
theorem is_669 : FnIs Tryz.prog fns (ids.f 669) 25 [.tmp 2] (c669 ids) :=
  ⟨⟨Tryz.f206, Tryz.f206.body.getD .skip, Tryz.func206, bodyB_206, Tryz.ntmps206, by kernel_rfl, code_206⟩, by kernel_rfl, by kernel_rfl, fun _ _ _ => by kernel_rfl⟩
theorem bodyB_156 : Tryz.f156.body = some (Tryz.f156.body.getD .skip) := by kernel_rfl
theorem code_156 : compC Tryz.prog (Tryz.f156.body.getD .skip) = some (c693 ids) := by kernel_rfl
theorem is_693 : FnIs Tryz.prog fns (ids.f 693) 148 [] (c693 ids) :=
  ⟨⟨Tryz.f156, Tryz.f156.body.getD .skip, Tryz.func156, bodyB_156, Tryz.ntmps156, by kernel_rfl, code_156⟩, by kernel_rfl, by kernel_rfl, fun _ _ _ => by kernel_rfl⟩
theorem bodyB_221 : Tryz.f221.body = some (Tryz.f221.body.getD .skip) := by kernel_rfl
theorem code_221 : compC Tryz.prog (Tryz.f221.body.getD .skip) = some (c785 ids) := by kernel_rfl
theorem is_785 : FnIs Tryz.prog fns (ids.f 785) 53 [] (c785 ids) :=
  ⟨⟨Tryz.f221, Tryz.f221.body.getD .skip, Tryz.func221, bodyB_221, Tryz.ntmps221, by kernel_rfl, code_221⟩, by kernel_rfl, by kernel_rfl, fun _ _ _ => by kernel_rfl⟩
theorem bodyB_79 : Tryz.f79.body = some (Tryz.f79.body.getD .skip) := by kernel_rfl
theorem code_79 : compC Tryz.prog (Tryz.f79.body.getD .skip) = some (c176 ids) := by kernel_rfl
theorem is_176 : FnIs Tryz.prog fns (ids.f 176) 47 [.tmp 4] (c176 ids) :=
  ⟨⟨Tryz.f79, Tryz.f79.body.getD .skip, Tryz.func79, bodyB_79, Tryz.ntmps79, by kernel_rfl, code_79⟩, by kernel_rfl, by kernel_rfl, fun _ _ _ => by kernel_rfl⟩
theorem bodyB_113 : Tryz.f113.body = some (Tryz.f113.body.getD .skip) := by kernel_rfl
theorem code_113 : compC Tryz.prog (Tryz.f113.body.getD .skip) = some (c404 ids) := by kernel_rfl
theorem is_404 : FnIs Tryz.prog fns (ids.f 404) 50 [.tmp 4] (c404 ids) :=
  ⟨⟨Tryz.f113, Tryz.f113.body.getD .skip, Tryz.func113, bodyB_113, Tryz.ntmps113, by kernel_rfl, code_113⟩, by kernel_rfl, by kernel_rfl, fun _ _ _ => by kernel_rfl⟩
theorem bodyB_74 : Tryz.f74.body = some (Tryz.f74.body.getD .skip) := by kernel_rfl
theorem code_74 : compC Tryz.prog (Tryz.f74.body.getD .skip) = some (c406 ids) := by kernel_rfl
theorem is_406 : FnIs Tryz.prog fns (ids.f 406) 68 [.tmp 4] (c406 ids) :=
  ⟨⟨Tryz.f74, Tryz.f74.body.getD .skip, Tryz.func74, bodyB_74, Tryz.ntmps74, by kernel_rfl, code_74⟩, by kernel_rfl, by kernel_rfl, fun _ _ _ => by kernel_rfl⟩
theorem bodyB_116 : Tryz.f116.body = some (Tryz.f116.body.getD .skip) := by kernel_rfl
theorem code_116 : compC Tryz.prog (Tryz.f116.body.getD .skip) = some (c546 ids) := by kernel_rfl
theorem is_546 : FnIs Tryz.prog fns (ids.f 546) 44 [.tmp 4, .tmp 5] (c546 ids) :=
  ⟨⟨Tryz.f116, Tryz.f116.body.getD .skip, Tryz.func116, bodyB_116, Tryz.ntmps116, by kernel_rfl, code_116⟩, by kernel_rfl, by kernel_rfl, fun _ _ _ => by kernel_rfl⟩
theorem bodyB_29 : Tryz.f29.body = some (Tryz.f29.body.getD .skip) := by kernel_rfl
theorem code_29 : compC Tryz.prog (Tryz.f29.body.getD .skip) = some (c103 ids) := by kernel_rfl
theorem is_103 : FnIs Tryz.prog fns (ids.f 103) 12 [.tmp 2] (c103 ids) :=
  ⟨⟨Tryz.f29, Tryz.f29.body.getD .skip, Tryz.func29, bodyB_29, Tryz.ntmps29, by kernel_rfl, code_29⟩, by kernel_rfl, by kernel_rfl, fun _ _ _ => by kernel_rfl⟩
theorem bodyB_117 : Tryz.f117.body = some (Tryz.f117.body.getD .skip) := by kernel_rfl
theorem code_117 : compC Tryz.prog (Tryz.f117.body.getD .skip) = some (c104 ids) := by kernel_rfl
theorem is_104 : FnIs Tryz.prog fns (ids.f 104) 17 [.tmp 6] (c104 ids) :=
  ⟨⟨Tryz.f117, Tryz.f117.body.getD .skip, Tryz.func117, bodyB_117, Tryz.ntmps117, by kernel_rfl, code_117⟩, by kernel_rfl, by kernel_rfl, fun _ _ _ => by kernel_rfl⟩
theorem bodyB_137 : Tryz.f137.body = some (Tryz.f137.body.getD .skip) := by kernel_rfl
theorem code_137 : compC Tryz.prog (Tryz.f137.body.getD .skip) = some (c339 ids) := by kernel_rfl
theorem is_339 : FnIs Tryz.prog fns (ids.f 339) 18 [.tmp 6] (c339 ids) :=
  ⟨⟨Tryz.f137, Tryz.f137.body.getD .skip, Tryz.func137, bodyB_137, Tryz.ntmps137, by kernel_rfl, code_137⟩, by kernel_rfl, by kernel_rfl, fun _ _ _ => by kernel_rfl⟩
theorem bodyB_184 : Tryz.f184.body = some (Tryz.f184.body.getD .skip) := by kernel_rfl
theorem code_184 : compC Tryz.prog (Tryz.f184.body.getD .skip) = some (c227 ids) := by kernel_rfl
theorem is_227 : FnIs Tryz.prog fns (ids.f 227) 62 [.tmp 8] (c227 ids) :=
  ⟨⟨Tryz.f184, Tryz.f184.body.getD .skip, Tryz.func184, bodyB_184, Tryz.ntmps184, by kernel_rfl, code_184⟩, by kernel_rfl, by kernel_rfl, fun _ _ _ => by kernel_rfl⟩
theorem ty_3 : TyIs Tryz.prog (ids.t 3) 1 8 [.int .i64 0] := ⟨by kernel_rfl, by kernel_rfl, by kernel_rfl, rfl⟩
theorem ty_197 : TyIs Tryz.prog (ids.t 197) 4 32 [.int .i64 0, .int .i64 0, .int .i64 0, .int .i64 0] := ⟨by kernel_rfl, by kernel_rfl, by kernel_rfl, rfl⟩
theorem ty_272 : TyIs Tryz.prog (ids.t 272) 1 8 [.nilFunc] := ⟨by kernel_rfl, by kernel_rfl, by kernel_rfl, rfl⟩
theorem ty_528 : TyIs Tryz.prog (ids.t 528) 6 104 [.slice none 0 (.ex 0), .int .i64 0, .int .i64 0, .slice none 0 (.ex 0), .slice none 0 (.ex 0), .nilIface] := ⟨by kernel_rfl, by kernel_rfl, by kernel_rfl, rfl⟩
theorem agP : isAggT Tryz.prog (ids.t 177) = true := by kernel_rfl
theorem szP : sizeT Tryz.prog (ids.t 177) = 4 := by kernel_rfl
theorem hu69 : Tryz.prog.underlying (ids.t 69) = some (.slice (ids.t 3)) := by kernel_rfl
theorem hk3 : Tryz.prog.underlying (ids.t 3) = some (.int .i64) := by kernel_rfl
theorem rt1 : RowT Tryz.prog 1 (ids.t 3) 8 [V.int .i64 0] [] := ⟨ty_3, rfl, fun _ => rfl, fun _ => rfl⟩
theorem rt4 : RowT Tryz.prog 4 (ids.t 197) 32 [V.int .i64 0, .int .i64 0, .int .i64 0, .int .i64 0] [0, 0, 0] := ⟨ty_197, rfl, fun _ => rfl, fun _ => rfl⟩
def fnsS : Fns := { fns with sum := docOf 7 65 35 }
theorem hypS : VmHyp Tryz.prog fnsS where
  mixed := hyp.mixed
  ext := hyp.ext
  num := hyp.num
  fns := ⟨hyp.fns.ok, hyp.fns.ins, fun g args md h r hr rs kind μ w c0 cs R ha hc => docOf_ok hyp (fun h bd ed bt ba bk bn bu o laid c ck x1 x2 x3 x4 x5 y1 y2 xs t htb od hba hbal hbad hxc hbk hbkl hbkd hbu hxs hbul hbud hbua hI hbn hbd hlaid => docReplace_ok is_232 is_432 is_433 is_431 is_561 ty_272 is_563 is_562 is_697 hu69 hk3 is_564 is_702 is_794 is_352 is_157 is_363 is_527 is_385 is_175 is_179 is_392 is_391 is_405 is_393 is_358 is_544 is_511 is_669 is_693 is_785 is_176 is_404 is_406 is_546 is_103 is_104 is_339 is_227 ty_3 rt1 rt4 ty_528 agP szP t htb od hba hbal hbad hxc hbk hbkl hbkd hbu hxs hbul hbud hbua hI hbn hbd hlaid) g args md h r hr rs kind μ w c0 cs R ha hc⟩
end Go.Proofs.YtodpkcebihbghaaGreatDoor
