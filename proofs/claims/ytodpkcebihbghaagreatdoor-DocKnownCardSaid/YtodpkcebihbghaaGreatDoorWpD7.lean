/- slices.Replace, list.put as a document's change calls them. -/
import Derived.Test.YtodpkcebihbghaaGreatDoorWpD5
set_option linter.unusedVariables false
set_option linter.unusedSimpArgs false
namespace Go.Vm
variable {P : Program} {Y : Fns} {I : Ids}
theorem app_over {h : Hp} {e w bytes b M : Nat} {z : List V} (T : TyIs P e w bytes z) (hw : w ≠ 0) {y : V} {x new : List V} (hb : h.get b = some (ambB x e)) (hy : srcCells h w y = some (M, new)) (hm : new.length = M * w) (hM : M ≠ 0) (hx : x.length < M * w) (hc : new.all V.isCell = true) (hbd : 2 * M * bytes ≤ 281474976710656) (hb2 : M ≤ 4611686018427387904) :
    appV P h e w (.slice (some (b, 0)) 0 (.tl 0)) y = .val (.slice (some (h.next, 0)) M (.tl 0)) ((h.put b .dead).new (ambB new e)) := by
  unfold appV
  simp only [hy]
  unfold appendV
  have guard : (decide (2 * (0 + M) * ((P.info? e).map (·.bytes)).getD 0 > 2 ^ 48) || decide (0 + M > 2 ^ 62) || !((zeroT P e).any fun z => decide (z.length = sizeT P e))) = false := by
    rw [T.bytes, T.zero, T.size]
    simp [T.len]
    omega
  simp only [guard, Bool.false_eq_true, if_false]
  rw [if_neg hM, hb]
  simp only [ambB, T.size]
  have hzm : (0 + M) * w = M * w := by rw [Nat.zero_add]
  rw [if_neg (by simp [hw]), if_neg (by omega), if_pos (by simp [hc])]
  simp
theorem repl_ok (H : FnIs P Y (I.f 563) 224 [.tmp 8] (c563 I)) (T528 : TyIs P (I.t 528) 6 104 [.slice none 0 (.ex 0), .int .i64 0, .int .i64 0, .slice none 0 (.ex 0), .slice none 0 (.ex 0), .nilIface]) {h : Hp} {ba bv M : Nat} {x rows : List V} (hba : h.get ba = some (ambB x (I.t 528))) (hx : x.length = 6) (hbv : h.get bv = some (ambB rows (I.t 528))) (hr : rows.length = M * 6) (hM : 1 < M) (hM2 : M ≤ 2048) (hc : rows.all V.isCell = true) :
    CW P Y (I.f 563) [.slice (some (ba, 0)) 1 (.tl 0), .int .i64 0, .int .i64 1, .slice (some (bv, 0)) M (.tl 0)] none h (fun q => q = .ret (.slice (some (h.next, 0)) M (.tl 0)) none ((h.put ba .dead).new (ambB rows (I.t 528)))) := by
  refine CW_ic H (Nat.le_of_ble_eq_true rfl) ?_
  unfold c563
  have hsrc : srcCells h 6 (.slice (some (bv, 0)) M (.tl 0)) = some (M, rows) := by
    show (if M * 6 = 0 then some (M, []) else (loadL h bv 0 (M * 6)).map fun l => (M, l)) = _
    rw [if_neg (by omega)]
    have : loadL h bv 0 (M * 6) = some rows := by
      unfold loadL
      rw [hbv]
      show (if 0 + M * 6 ≤ rows.length then some ((rows.drop 0).take (M * 6)) else none) = _
      rw [if_pos (by omega), List.drop_zero, ← hr, List.take_length]
    rw [this]
    rfl
  have ha := app_over T528 (by omega) hba hsrc hr (by omega) (by omega) hc (by omega) (by omega)
  have d1 : ((0 : Int) == 1) = false := rfl
  have d2 : ((1 : Int) == ((1 : Nat) : Int)) = true := rfl
  have d3 : decide ((M : Int) < ((1 : Nat) : Int)) = false := decide_eq_false (by omega)
  have s1 : decide (0 ≤ 1) = true := rfl
  have s2 : decide (1 ≤ 1) = true := rfl
  have s3 : decide (0 ≤ 0) = true := rfl
  simp only [zaa, zab, zac, zae, zah, zai, zaj, zak, zal, zam, zao, zap, zaq, zax, zay, zaz, zbi, zbk, zbl, zbm, Nat.reduceEqDiff, Option.map_some, Nat.reduceAdd, zck, zcq, zcu, Bool.and_self, Nat.zero_add, Nat.add_zero, r_1, Nat.zero_mul, Bool.true_and, zdk, zdl, zdm, Option.getD_none, Option.getD_some, Nat.zero_le, decide_true, Nat.sub_zero, Option.isSome_some, Bool.true_or, Bool.or_true, a_t, a_v, zdo, zdp, zdt, zdu, zeo, zep, zfa, zfb, zfd, zfe, zfh, if_true, if_false, Nat.reduceLeDiff, d1, d2, d3, ha]
theorem put_ok2 (H : FnIs P Y (I.f 432) 150 [.tmp 8] (c432 I)) (HRp : FnIs P Y (I.f 563) 224 [.tmp 8] (c563 I)) (HCo : FnIs P Y (I.f 562) 36 [.tmp 2] (c562 I)) (HG : FnIs P Y (I.f 697) 27 [.tmp 4] (c697 I)) {k : IntKind} (hu : P.underlying (I.t 69) = some (.slice (I.t 3))) (hk : P.underlying (I.t 3) = some (.int k))
    (HPa : FnIs P Y (I.f 564) 42 [.tmp 4] (c564 I)) (HK : FnIs P Y (I.f 702) 9 [.tmp 4] (c702 I)) (HIt : FnIs P Y (I.f 794) 31 [] (c794 I)) (HCl : FnIs P Y (I.f 352) 8 [.tmp 2] (c352 I))
    (H0 : FnIs P Y (I.f 157) 81 [.cell 8 (I.t 177), .tmp 9] (c157 I)) (HC : FnIs P Y (I.f 363) 9 [.tmp 4] (c363 I)) (HX : FnIs P Y (I.f 527) 19 [.tmp 4] (c527 I)) (HF : FnIs P Y (I.f 385) 12 [.tmp 3] (c385 I)) (HN : FnIs P Y (I.f 175) 20 [.tmp 4] (c175 I))
    (HPi : FnIs P Y (I.f 179) 40 [.cell 2 (I.t 177), .tmp 3] (c179 I)) (C1 : FnIs P Y (I.f 392) 8 [.tmp 2] (c392 I)) (D1 : FnIs P Y (I.f 391) 9 [.tmp 2] (c391 I)) (H4 : FnIs P Y (I.f 405) 10 [.tmp 2] (c405 I)) (H1 : FnIs P Y (I.f 393) 8 [.tmp 2] (c393 I)) (H2 : FnIs P Y (I.f 358) 9 [.tmp 2] (c358 I)) (HSo : FnIs P Y (I.f 544) 14 [] (c544 I)) (HLe : FnIs P Y (I.f 511) 8 [.tmp 2] (c511 I)) (H6 : FnIs P Y (I.f 669) 25 [.tmp 2] (c669 I)) (HP : FnIs P Y (I.f 693) 148 [] (c693 I)) (HI : FnIs P Y (I.f 785) 53 [] (c785 I))
    (HS : FnIs P Y (I.f 176) 47 [.tmp 4] (c176 I)) (HL : FnIs P Y (I.f 404) 50 [.tmp 4] (c404 I)) (HR : FnIs P Y (I.f 406) 68 [.tmp 4] (c406 I)) (H5 : FnIs P Y (I.f 546) 44 [.tmp 4, .tmp 5] (c546 I)) (HT : FnIs P Y (I.f 103) 12 [.tmp 2] (c103 I))
    (HRel : FnIs P Y (I.f 104) 17 [.tmp 6] (c104 I)) (HA : FnIs P Y (I.f 339) 18 [.tmp 6] (c339 I)) (HH : FnIs P Y (I.f 227) 62 [.tmp 8] (c227 I)) (T3 : TyIs P (I.t 3) 1 8 [.int .i64 0]) (T1 : RowT P 1 (I.t 3) 8 [V.int .i64 0] [])
    (T : RowT P 4 (I.t 197) 32 [V.int .i64 0, .int .i64 0, .int .i64 0, .int .i64 0] [0, 0, 0]) (T528 : TyIs P (I.t 528) 6 104 [.slice none 0 (.ex 0), .int .i64 0, .int .i64 0, .slice none 0 (.ex 0), .slice none 0 (.ex 0), .nilIface]) (ag : isAggT P (I.t 177) = true) (sz : sizeT P (I.t 177) = 4)
    {h : Hp} {bd ed bt ba bk bn o laid : Nat} {c ck : Cap} {x1 x2 x3 x4 x5 vundo : V} {y1 y2 : Int} (t : Tab h bt) (htb : bt ≠ bd) (od : Own h bd [.ptr (some (bt, 0)), .slice (some (ba, 0)) 1 (.tl 0), .int .i64 (laid : Int), .int .i64 2, vundo] ed)
    (hba : h.get ba = some (ambB [.slice (some (bk, 0)) 2 ck, x1, x2, x3, x4, x5] (I.t 528))) (hbal : ba < h.next) (hbad : ba ≠ bd) (hxc : [x1, x2, x3, x4, x5].all V.isCell = true) (hbk : loadL h bk 0 2 = some [.int .i64 y1, .int .i64 y2]) (hbkl : bk < h.next) (hbkd : bk ≠ bd)
    (hI : Ints h (some (bn, o)) (List.replicate 65536 0)) (hbn : bn < h.next) (hbd : bn ≠ bd) (hlaid : laid ≤ 1099511627776) :
    CW P Y (I.f 432) [.ptr (some (bd, 0)), .int .i64 0, .int .i64 2, .slice (some (bn, o)) 65536 c] none h (fun q => ∃ v1 v2 v3 a n c' h', (∀ b, b < h.next → b ≠ bd → b ≠ ba → h'.get b = h.get b) ∧ h.next ≤ h'.next ∧ Own h' bd [.ptr (some (bt, 0)), v1, v2, v3, vundo] ed ∧ q = .ret (.slice a n c') none h') := by
  refine CW_ic H (Nat.le_of_ble_eq_true rfl) ?_
  unfold c432
  have l1 : load1 h bd 1 = some (.slice (some (ba, 0)) 1 (.tl 0)) := by rw [od.load1]; rfl
  have la : load1 h ba 0 = some (.slice (some (bk, 0)) 2 ck) := by unfold load1; rw [hba]; rfl
  have d01 : decide ((0 : Int) < ((1 : Nat) : Int)) = true := rfl
  have d11 : decide ((1 : Int) < ((1 : Nat) : Int)) = false := rfl
  have d20 : decide ((2 : Int) < 0) = false := rfl
  have d02 : decide ((0 : Int) < 2) = true := rfl
  have w2 : IntKind.i64.wrap (0 + ((2 : Nat) : Int)) = 2 := rfl
  have w1 : IntKind.i64.wrap (0 + 1) = 1 := rfl
  simp only [zaa, zac, zaf, zai, zaj, zak, zal, zam, zaq, zax, zay, zbi, zbl, zbm, Nat.reduceAdd, Nat.zero_add, a_v, zdp]
  refine s_loop (fun kk st => ∃ F, kk = 0 ∧ st = ⟨F, [], none, h⟩ ∧ gt F 0 = .ptr (some (bd, 0)) ∧ gt F 1 = .int .i64 0 ∧ gt F 2 = .int .i64 2 ∧ gt F 3 = .slice (some (bn, o)) 65536 c ∧ gt F 9 = .int .i64 0 ∧ gt F 10 = .int .i64 0) 0 ⟨_, rfl, rfl, by simp only [zbk, Nat.reduceEqDiff, if_true, if_false], by simp only [zbk, Nat.reduceEqDiff, if_true, if_false], by simp only [zbk, Nat.reduceEqDiff, if_true, if_false], by simp only [zbk, Nat.reduceEqDiff, if_true, if_false], by simp only [zbk, Nat.reduceEqDiff, if_true, if_false], by simp only [zbk, Nat.reduceEqDiff, if_true, if_false]⟩ ?_
  rintro kk _ ⟨F, rfl, rfl, q0, q1, q2, q3, q9, q10⟩
  simp only [zaa, zac, zae, zaf, zag, zai, zaj, zak, zal, zam, zap, zaq, zax, zay, zba, zbe, zbi, zbk, Nat.reduceEqDiff, zch, zck, Bool.and_self, Nat.zero_add, Nat.add_zero, zdb, zdc, zdg, Nat.zero_mul, Int.toNat_zero, zdi, a_t, a_v, zdo, zdp, zdq, zdr, zdt, zeb, zec, zed, zee, zef, zeg, zeo, zep, if_true, if_false, zgm, zgn, zgm, zgn, q0, q1, q9, q10, l1, la, d01, w2, d20]
  refine s_loop (fun kk st => ∃ F, st = ⟨F, [], none, h⟩ ∧ gt F 0 = .ptr (some (bd, 0)) ∧ gt F 1 = .int .i64 0 ∧ gt F 2 = .int .i64 2 ∧ gt F 3 = .slice (some (bn, o)) 65536 c ∧ gt F 9 = .int .i64 0 ∧ gt F 10 = .int .i64 0 ∧ ((kk = 1 ∧ gt F 11 = .int .i64 0 ∧ gt F 12 = .int .i64 0) ∨ (kk = 0 ∧ gt F 11 = .int .i64 1 ∧ gt F 12 = .int .i64 2))) 1
    ⟨_, rfl, by simp only [zbk, Nat.reduceEqDiff, if_false, q0], by simp only [zbk, Nat.reduceEqDiff, if_false, q1], by simp only [zbk, Nat.reduceEqDiff, if_false, q2], by simp only [zbk, Nat.reduceEqDiff, if_false, q3], by simp only [zbk, Nat.reduceEqDiff, if_false, q9], by simp only [zbk, Nat.reduceEqDiff, if_false, q10], .inl ⟨rfl, by simp only [zbk, Nat.reduceEqDiff, if_true, if_false], by simp only [zbk, Nat.reduceEqDiff, if_true, if_false]⟩⟩ ?_
  rintro kk _ ⟨F2, rfl, r0, r1, r2, r3, r9, r10, hc⟩
  rcases hc with ⟨rfl, r11, r12⟩ | ⟨rfl, r11, r12⟩
  · simp only [zaa, zab, zac, zae, zaf, zai, zaj, zak, zal, zam, zan, zao, zaq, zax, zay, zbc, zbi, zbk, Nat.reduceEqDiff, zch, zck, Bool.and_self, Nat.zero_add, Nat.add_zero, zdb, zdc, zdf, zdg, Nat.zero_mul, Int.toNat_zero, zdi, a_t, a_v, zdo, zdp, zdq, zdr, zdt, zeb, zec, zed, zee, zef, zeg, zeo, zep, if_true, if_false, zgm, zgn, zgm, zgn, r0, r2, r11, r12, l1, la, d01, d02, w2, w1]
    exact ⟨0, by omega, _, rfl, by simp only [zbk, Nat.reduceEqDiff, if_false, r0], by simp only [zbk, Nat.reduceEqDiff, if_false, r1], by simp only [zbk, Nat.reduceEqDiff, if_false, r2], by simp only [zbk, Nat.reduceEqDiff, if_false, r3], by simp only [zbk, Nat.reduceEqDiff, if_false, r9], by simp only [zbk, Nat.reduceEqDiff, if_false, r10], .inr ⟨rfl, by simp only [zbk, Nat.reduceEqDiff, if_true, if_false], by simp only [zbk, Nat.reduceEqDiff, if_true, if_false]⟩⟩
  · have s01 : decide (0 ≤ 1) = true := rfl
    have s11 : decide (1 ≤ 1) = true := rfl
    simp only [zaa, zac, zae, zaf, zag, zai, zaj, zak, zal, zam, zan, zap, zaq, zax, zay, zba, zbe, zbi, zbk, Nat.reduceEqDiff, Option.map_some, zck, Bool.and_self, Nat.zero_add, Nat.add_zero, zdb, zdc, zde, Nat.zero_mul, Bool.true_and, zdk, zdl, zdm, Option.getD_some, Nat.zero_le, decide_true, Nat.sub_zero, Option.isSome_some, Bool.true_or, a_t, a_v, zdo, zdp, zdq, zds, zdt, zeb, zec, zef, zeg, zeo, zep, zfa, zfb, zfd, zfe, if_true, if_false, Nat.reduceLeDiff, zgm, zgn, zgm, zgn, w_und, r0, r9, r11, l1, d11]
    refine s_loop (fun kk st => ∃ F h', st = ⟨F, [], none, h'⟩ ∧ Grow h h' ∧ gt F 0 = .ptr (some (bd, 0)) ∧ gt F 1 = .int .i64 0 ∧ gt F 2 = .int .i64 2 ∧ gt F 3 = .slice (some (bn, o)) 65536 c ∧ gt F 9 = .int .i64 0 ∧ gt F 10 = .int .i64 0 ∧ gt F 11 = .int .i64 1 ∧ gt F 91 = .slice (some (ba, 0)) 1 (.tl 0) ∧ gt F 92 = .int .i64 1 ∧
        ((kk = 1 ∧ gt F 93 = .int .i64 0 ∧ gt F 13 = .slice none 0 (.ex 0)) ∨ (kk = 0 ∧ gt F 93 = .int .i64 1 ∧ ∃ bo, gt F 13 = .slice (some (bo, 0)) 2 (.tl 0) ∧ h'.get bo = some (ambB [.int .i64 y1, .int .i64 y2] (I.t 3)) ∧ h.next ≤ bo ∧ bo < h'.next))) 1
      ⟨_, h, rfl, .refl _, by simp only [zbk, Nat.reduceEqDiff, if_false, r0], by simp only [zbk, Nat.reduceEqDiff, if_false, r1], by simp only [zbk, Nat.reduceEqDiff, if_false, r2], by simp only [zbk, Nat.reduceEqDiff, if_false, r3], by simp only [zbk, Nat.reduceEqDiff, if_false, r9], by simp only [zbk, Nat.reduceEqDiff, if_false, r10], by simp only [zbk, Nat.reduceEqDiff, if_false, r11], by simp only [zbk, Nat.reduceEqDiff, if_true, if_false] <;> rfl, by simp only [zbk, Nat.reduceEqDiff, if_true, if_false] <;> rfl, .inl ⟨rfl, by simp only [zbk, Nat.reduceEqDiff, if_true, if_false], by simp only [zbk, Nat.reduceEqDiff, if_true, if_false]⟩⟩ ?_
    rintro kk _ ⟨F3, h', rfl, hg, p0, p1, p2, p3, p9, p10, p11, p91, p92, hc⟩
    have n' := hg.next
    rcases hc with ⟨rfl, p93, p13⟩ | ⟨rfl, p93, bo, p13, hbo, bo1, bo2⟩
    · have d1 : decide ((0 : Int) < 1) = true := rfl
      have d2 : decide ((0 : Int) < ((1 : Nat) : Int)) = true := rfl
      have la6 : loadL h' ba 0 6 = some [.slice (some (bk, 0)) 2 ck, x1, x2, x3, x4, x5] := by
        unfold loadL
        rw [hg.get ba hbal, hba]
        rfl
      simp only [List.all_cons, List.all_nil, Bool.and_true, Bool.and_eq_true] at hxc
      obtain ⟨z1, z2, z3, z4, z5⟩ := hxc
      have g1 := Grow.new h' (newBlk [.slice none 0 (.ex 0), .int .i64 0, .int .i64 0, .slice none 0 (.ex 0), .slice none 0 (.ex 0), .nilIface] (I.t 528))
      have o1 := Own.of_new h' [.slice none 0 (.ex 0), .int .i64 0, .int .i64 0, .slice none 0 (.ex 0), .slice none 0 (.ex 0), .nilIface] (I.t 528)
      have n1 : (h'.new (newBlk [.slice none 0 (.ex 0), .int .i64 0, .int .i64 0, .slice none 0 (.ex 0), .slice none 0 (.ex 0), .nilIface] (I.t 528))).next = h'.next + 1 := rfl
      generalize hh1 : h'.new (newBlk [.slice none 0 (.ex 0), .int .i64 0, .int .i64 0, .slice none 0 (.ex 0), .slice none 0 (.ex 0), .nilIface] (I.t 528)) = h1 at g1 o1 n1
      have hs2 : storeL h1 h'.next 0 [.slice (some (bk, 0)) 2 ck, x1, x2, x3, x4, x5] = some (h1.put h'.next (newBlk [.slice (some (bk, 0)) 2 ck, x1, x2, x3, x4, x5] (I.t 528))) := o1.storeL 0 _ (by simp) (by simp) (by simp [zcc, z1, z2, z3, z4, z5])
      have o2 := o1.put [.slice (some (bk, 0)) 2 ck, x1, x2, x3, x4, x5]
      have g2 : Grow h (h1.put h'.next (newBlk [.slice (some (bk, 0)) 2 ck, x1, x2, x3, x4, x5] (I.t 528))) := (hg.trans g1).put n' _
      generalize hh2 : h1.put h'.next (newBlk [.slice (some (bk, 0)) 2 ck, x1, x2, x3, x4, x5] (I.t 528)) = h2 at hs2 o2 g2
      have l2 : load1 h2 h'.next 0 = some (.slice (some (bk, 0)) 2 ck) := by rw [o2.load1]; rfl
      have hsrc : srcCells h2 1 (.slice (some (bk, 0)) 2 ck) = some (2, [.int .i64 y1, .int .i64 y2]) := by
        show (if 2 * 1 = 0 then some (2, []) else (loadL h2 bk 0 (2 * 1)).map fun l => (2, l)) = _
        rw [if_neg (by omega), show 2 * 1 = 2 from rfl, loadL_grow g2 hbkl, hbk]
        rfl
      obtain ⟨v', h3, happ, hL, hK⟩ := app_nil T3 (by omega) h2 hsrc rfl rfl (by omega) (by omega)
      simp only [zaa, zab, zac, zae, zaf, zai, zaj, zak, zal, zam, zao, zaq, zar, zax, zay, zbc, zbi, zbj, zbk, Nat.reduceEqDiff, Option.map_some, Nat.reduceAdd, zbo, zch, zck, Bool.and_self, Nat.zero_add, Nat.add_zero, Nat.zero_mul, Int.toNat_zero, zdi, a_t, a_v, zdo, zdp, zdt, zeb, zec, zed, zee, zef, zeg, zeh, zei, zej, zek, zel, zem, zfh, if_true, if_false, List.length_cons, List.length_nil, p91, p92, p93, p13, d1, d2, la6, hh1, hs2, l2, happ, w1]
      have g3 : Grow h h3 := g2.trans hK.grow
      rcases hL.is with ⟨_, e⟩ | ⟨bo, kq, e1, e2, e3, e4, e5⟩
      · cases e
      · obtain rfl : kq = 2 := by
          simp at e2
          omega
        have n2 := g2.next
        exact ⟨0, by omega, _, h3, rfl, g3, by simp only [zbk, Nat.reduceEqDiff, if_false, p0], by simp only [zbk, Nat.reduceEqDiff, if_false, p1], by simp only [zbk, Nat.reduceEqDiff, if_false, p2], by simp only [zbk, Nat.reduceEqDiff, if_false, p3], by simp only [zbk, Nat.reduceEqDiff, if_false, p9], by simp only [zbk, Nat.reduceEqDiff, if_false, p10], by simp only [zbk, Nat.reduceEqDiff, if_false, p11], by simp only [zbk, Nat.reduceEqDiff, if_false, p91], by simp only [zbk, Nat.reduceEqDiff, if_false, p92], .inr ⟨rfl, by simp only [zbk, Nat.reduceEqDiff, if_true, if_false], bo, by simp only [zbk, Nat.reduceEqDiff, if_true, if_false, e1], e3, by omega, e5⟩⟩
    · have d1 : decide ((1 : Int) < 1) = false := rfl
      have w20 : IntKind.i64.wrap (2 - 0) = 2 := rfl
      have w00 : IntKind.i64.wrap (0 - 0) = 0 := rfl
      have nb2 : natBound (.int .i64 2) = some 2 := rfl
      have s02 : decide (0 ≤ 2) = true := rfl
      have s22 : decide (2 ≤ 2) = true := rfl
      have s00 : decide (0 ≤ 0) = true := rfl
      have hIo : Ints h' (some (bo, 0)) [y1, y2] := ⟨fun r hr => by
        simp at hr
        rcases hr with rfl | rfl <;> rfl, .inr ⟨bo, 0, rfl, ⟨_, hbo, by simp, by simp⟩, bo2⟩⟩
      simp only [zaa, zac, zae, zag, zai, zaj, zak, zal, zam, zap, zaq, zas, zax, zay, zba, zbe, zbi, zbk, List.map_cons, List.map_nil, Nat.reduceEqDiff, Option.map_some, zci, zck, Bool.and_self, Nat.add_zero, Nat.mul_one, Bool.true_and, zdk, zdm, Option.getD_some, Nat.zero_le, decide_true, Nat.sub_zero, Option.isSome_some, Bool.true_or, a_t, zdo, zdp, zdt, zet, zfa, zfb, zfd, zfe, if_true, if_false, Nat.reduceLeDiff, p1, p2, p10, p92, p93, p13, d1, w20, w00, nb2]
      refine (clone_ints HCl T1 hIo (n := 2) rfl (by omega) (by omega)).mono fun q hq => ?_
      obtain ⟨bg, cg, h2, g2, _, _, _, hq⟩ := hq
      have g02 := hg.trans g2
      have f1 : fillV (reps 3 [V.slice none 0 (.ex 0)]) [(0, 1, .slice (some (bo, 0)) 0 (.tl 0)), (1, 1, .slice (some (bn, o)) 65536 c), (2, 1, .slice (some (bo, 2)) 0 (.tl 2))] = some [.slice (some (bo, 0)) 0 (.tl 0), .slice (some (bn, o)) 65536 c, .slice (some (bo, 2)) 0 (.tl 2)] := rfl
      have g3 := Grow.new h2 (newBlk [.slice (some (bo, 0)) 0 (.tl 0), .slice (some (bn, o)) 65536 c, .slice (some (bo, 2)) 0 (.tl 2)] (I.t 69))
      have o3 := Own.of_new h2 [.slice (some (bo, 0)) 0 (.tl 0), .slice (some (bn, o)) 65536 c, .slice (some (bo, 2)) 0 (.tl 2)] (I.t 69)
      have n3 : (h2.new (newBlk [.slice (some (bo, 0)) 0 (.tl 0), .slice (some (bn, o)) 65536 c, .slice (some (bo, 2)) 0 (.tl 2)] (I.t 69))).next = h2.next + 1 := rfl
      generalize hh3 : h2.new (newBlk [.slice (some (bo, 0)) 0 (.tl 0), .slice (some (bn, o)) 65536 c, .slice (some (bo, 2)) 0 (.tl 2)] (I.t 69)) = h3 at g3 o3 n3
      have g03 := g02.trans g3
      have ct0 : capOff (.tl 0) 2 = .tl 2 := rfl
      simp only [hq, zaa, zad, zai, zaj, zak, zal, zam, zaq, zas, zav, zax, zay, zbi, zbk, List.map_cons, List.map_nil, Nat.reduceEqDiff, Option.map_some, zci, Bool.and_self, Nat.zero_add, Nat.add_zero, Nat.mul_one, zdk, zdm, Option.getD_none, Option.getD_some, Nat.zero_le, decide_true, Nat.sub_zero, Option.isSome_some, Option.isSome_none, Bool.or_true, Bool.or_false, Bool.false_and, a_t, zdo, zdp, zdt, zet, zfa, zfb, zfd, zfe, zfi, if_true, if_false, Nat.reduceLeDiff, p1, p2, p3, p10, p13, w20, w00, nb2, ct0, f1, hh3]
      refine (concat_ok HCo HG hu hk T3 o3 (hI.grow g03) (by omega) (by omega)).mono fun q hq => ?_
      obtain ⟨h4, g4, n4, k4, hq⟩ := hq
      have g04 := g03.trans g4
      have od4 := od.grow g04
      have l14 : load1 h4 bd 1 = some (.slice (some (ba, 0)) 1 (.tl 0)) := by rw [od4.load1]; rfl
      have odl := od.low
      have n03 := g03.next
      simp only [hq, zaa, zai, zaj, zak, zal, zam, zaq, zas, zav, zax, zay, zbg, zbi, zbk, List.map_cons, List.map_nil, Nat.reduceEqDiff, Nat.reduceAdd, Nat.zero_add, a_t, zdo, zdp, zeb, zec, zef, zeg, zet, if_true, if_false, zfl, zfn, zfo, zfq, zfr, zfs, zfv, zfw, true_and, zgm, zgn, zgm, zgn, p0, p9, p11, l14]
      refine (parsed_ok HPa HK HIt HCl H0 HC HX HF HN HPi C1 D1 H4 H1 H2 HSo HLe H6 HP HI HS HL HR H5 HT HRel HA HH T3 T1 T T528 ag sz (M := 2048) (o := 0) (t.grow g04) htb od4 (amb_zeros k4 (by omega)) (by omega) (by omega) (by omega) hlaid).mono fun q hq => ?_
      obtain ⟨ov, rows, h5, k5, n5, od5, L5, r5, c5, hq⟩ := hq
      obtain ⟨bv, rfl, hbv, hbv1⟩ : ∃ bv, ov = .slice (some (bv, 0)) 2048 (.tl 0) ∧ h5.get bv = some (ambB rows (I.t 528)) ∧ h4.next ≤ bv ∧ bv < h5.next := by
        rcases L5.is with ⟨_, e⟩ | ⟨bv, kq, e1, e2, e3, e4, e5⟩
        · rw [e] at r5
          cases r5
        · obtain rfl : kq = 2048 := by omega
          exact ⟨bv, e1, e3, e4, e5⟩
      have l15 : load1 h5 bd 1 = some (.slice (some (ba, 0)) 1 (.tl 0)) := by rw [od5.load1]; rfl
      have n04 := g04.next
      have hba5 : h5.get ba = some (ambB [.slice (some (bk, 0)) 2 ck, x1, x2, x3, x4, x5] (I.t 528)) := (k5 ba (by omega) hbad).trans ((g04.get ba hbal).trans hba)
      simp only [hq, zas, zav, zax, zbi, zbk, List.map_cons, List.map_nil, Nat.reduceEqDiff, Nat.reduceAdd, a_t, zdo, zef, zeg, zet, if_true, if_false, zfn, zfo, zfq, zfu, zfy, zfz, zge, zgf, zgg, zgh, zgj, zgl, Nat.reduceBEq, true_and, and_true, l15]
      refine (repl_ok HRp T528 hba5 rfl hbv r5 (by omega) (by omega) c5).mono fun q hq => ?_
      have od6 : Own ((h5.put ba .dead).new (ambB rows (I.t 528))) bd [.ptr (some (bt, 0)), .slice (some (ba, 0)) 1 (.tl 0), .int .i64 ((laid + 2048 * 32 : Nat) : Int), .int .i64 2, vundo] ed := by
        refine ⟨?_, by rw [next_new, next_put]; omega⟩
        rw [get_new _ (by rw [next_put]; omega), get_put_ne _ hbad]
        exact od5.is
      have k6 : ∀ b, b < h.next → b ≠ bd → b ≠ ba → ((h5.put ba .dead).new (ambB rows (I.t 528))).get b = h.get b := fun b hb h1 h2 => by
        rw [get_new _ (by rw [next_put]; omega), get_put_ne _ (Ne.symm h2), k5 b (by omega) h1, g04.get b hb]
      have n6 : ((h5.put ba .dead).new (ambB rows (I.t 528))).next = h5.next + 1 := rfl
      generalize hh6 : (h5.put ba .dead).new (ambB rows (I.t 528)) = h6 at od6 k6 n6 hq
      have hs7 : storeL h6 bd 1 [.slice (some (h5.next, 0)) 2048 (.tl 0)] = some (h6.put bd (newBlk [.ptr (some (bt, 0)), .slice (some (h5.next, 0)) 2048 (.tl 0), .int .i64 ((laid + 2048 * 32 : Nat) : Int), .int .i64 2, vundo] ed)) := od6.storeL 1 _ (by simp) (by simp) rfl
      have od7 := od6.put [.ptr (some (bt, 0)), .slice (some (h5.next, 0)) 2048 (.tl 0), .int .i64 ((laid + 2048 * 32 : Nat) : Int), .int .i64 2, vundo]
      have k7 : ∀ b, b ≠ bd → (h6.put bd (newBlk [.ptr (some (bt, 0)), .slice (some (h5.next, 0)) 2048 (.tl 0), .int .i64 ((laid + 2048 * 32 : Nat) : Int), .int .i64 2, vundo] ed)).get b = h6.get b := fun b hb => get_put_ne _ (Ne.symm hb)
      have n7 : (h6.put bd (newBlk [.ptr (some (bt, 0)), .slice (some (h5.next, 0)) 2048 (.tl 0), .int .i64 ((laid + 2048 * 32 : Nat) : Int), .int .i64 2, vundo] ed)).next = h6.next := rfl
      generalize hh7 : h6.put bd (newBlk [.ptr (some (bt, 0)), .slice (some (h5.next, 0)) 2048 (.tl 0), .int .i64 ((laid + 2048 * 32 : Nat) : Int), .int .i64 2, vundo] ed) = h7 at hs7 od7 k7 n7
      have l37 : load1 h7 bd 3 = some (.int .i64 2) := by rw [od7.load1]; rfl
      have w8 : IntKind.i64.wrap (((65536 : Nat) : Int) - ((2 : Nat) : Int)) = 65534 := rfl
      have w9 : IntKind.i64.wrap (2 + 65534) = 65536 := rfl
      have hs8 : storeL h7 bd 3 [.int .i64 65536] = some (h7.put bd (newBlk [.ptr (some (bt, 0)), .slice (some (h5.next, 0)) 2048 (.tl 0), .int .i64 ((laid + 2048 * 32 : Nat) : Int), .int .i64 65536, vundo] ed)) := od7.storeL 3 _ (by simp) (by simp) rfl
      have od8 := od7.put [.ptr (some (bt, 0)), .slice (some (h5.next, 0)) 2048 (.tl 0), .int .i64 ((laid + 2048 * 32 : Nat) : Int), .int .i64 65536, vundo]
      have k8 : ∀ b, b ≠ bd → (h7.put bd (newBlk [.ptr (some (bt, 0)), .slice (some (h5.next, 0)) 2048 (.tl 0), .int .i64 ((laid + 2048 * 32 : Nat) : Int), .int .i64 65536, vundo] ed)).get b = h7.get b := fun b hb => get_put_ne _ (Ne.symm hb)
      have n8 : (h7.put bd (newBlk [.ptr (some (bt, 0)), .slice (some (h5.next, 0)) 2048 (.tl 0), .int .i64 ((laid + 2048 * 32 : Nat) : Int), .int .i64 65536, vundo] ed)).next = h7.next := rfl
      generalize hh8 : h7.put bd (newBlk [.ptr (some (bt, 0)), .slice (some (h5.next, 0)) 2048 (.tl 0), .int .i64 ((laid + 2048 * 32 : Nat) : Int), .int .i64 65536, vundo] ed) = h8 at hs8 od8 k8 n8
      simp only [hq, zaa, zac, zah, zai, zaj, zak, zal, zam, zaq, zar, zav, zax, zay, zbi, zbj, zbk, Nat.reduceEqDiff, Nat.reduceAdd, zbp, zbt, zch, zci, Nat.zero_add, r_1, a_t, zdo, zdp, zdt, zeb, zec, zef, zeg, zej, zek, zel, zeo, zep, if_true, if_false, List.length_cons, List.length_nil, zfm, zfn, zfo, zfq, zfr, zfu, zfy, true_and, zgm, zgn, zgm, zgn, p0, p3, hs7, l37, w8, w9, hs8]
      exact ⟨_, _, _, _, _, _, h8, fun b hb h1 h2 => (k8 b h1).trans ((k7 b h1).trans (k6 b hb h1 h2)), by omega, od8, rfl⟩
end Go.Vm
/- A document's change by 65536 as. -/
namespace Go.Vm
variable {P : Program} {Y : Fns} {I : Ids}
theorem app_fn {h : Hp} {e b : Nat} (T : TyIs P e 1 8 [.nilFunc]) {y v : V} {xs : List V} (hb : h.get b = some (ambB xs e)) (hy : srcCells h 1 y = some (1, [v])) (hx : 1 ≤ xs.length) (hv : v.isCell = true) :
    ∃ h', appV P h e 1 (.slice (some (b, 0)) 0 (.tl 0)) y = .val (.slice (some (b, 0)) 1 (.tl 0)) h' ∧ (∀ c, c ≠ b → h'.get c = h.get c) ∧ h'.next = h.next := by
  have hst : storeL h b (0 + 0 * 1) [v] = some (h.put b (.cells { l := splice xs (0 + 0 * 1) [v], elem := e, exact := false, rw := true, frz := (0, 0) })) := by
    cases xs with
    | nil => simp at hx
    | cons x xs =>
      unfold storeL
      rw [hb]
      simp [ambB, hv]
  refine ⟨h.put b (.cells { l := splice xs (0 + 0 * 1) [v], elem := e, exact := false, rw := true, frz := (0, 0) }), ?_, fun c hc => get_put_ne _ (Ne.symm hc), rfl⟩
  unfold appV
  simp only [hy]
  unfold appendV
  have guard : (decide (2 * (0 + 1) * ((P.info? e).map (·.bytes)).getD 0 > 2 ^ 48) || decide (0 + 1 > 2 ^ 62) || !((zeroT P e).any fun z => decide (z.length = sizeT P e))) = false := by
    rw [T.bytes, T.zero, T.size]
    simp
  simp only [guard, Bool.false_eq_true, if_false]
  rw [if_neg (by omega), hb]
  simp only [ambB, T.size]
  rw [if_neg (by simp), if_pos (by omega), hst]
  simp [orBad]
theorem docReplace_ok (H : FnIs P Y (I.f 232) 75 [.tmp 8] (c232 I)) (HPu : FnIs P Y (I.f 432) 150 [.tmp 8] (c432 I)) (HLn : FnIs P Y (I.f 433) 7 [.tmp 2] (c433 I)) (HRi : FnIs P Y (I.f 431) 9 [.tmp 4] (c431 I)) (HCr : FnIs P Y (I.f 561) 12 [.tmp 3] (c561 I)) (T272 : TyIs P (I.t 272) 1 8 [.nilFunc]) (HRp : FnIs P Y (I.f 563) 224 [.tmp 8] (c563 I)) (HCo : FnIs P Y (I.f 562) 36 [.tmp 2] (c562 I)) (HG : FnIs P Y (I.f 697) 27 [.tmp 4] (c697 I)) {k : IntKind} (hu : P.underlying (I.t 69) = some (.slice (I.t 3))) (hk : P.underlying (I.t 3) = some (.int k))
    (HPa : FnIs P Y (I.f 564) 42 [.tmp 4] (c564 I)) (HK : FnIs P Y (I.f 702) 9 [.tmp 4] (c702 I)) (HIt : FnIs P Y (I.f 794) 31 [] (c794 I)) (HCl : FnIs P Y (I.f 352) 8 [.tmp 2] (c352 I))
    (H0 : FnIs P Y (I.f 157) 81 [.cell 8 (I.t 177), .tmp 9] (c157 I)) (HC : FnIs P Y (I.f 363) 9 [.tmp 4] (c363 I)) (HX : FnIs P Y (I.f 527) 19 [.tmp 4] (c527 I)) (HF : FnIs P Y (I.f 385) 12 [.tmp 3] (c385 I)) (HN : FnIs P Y (I.f 175) 20 [.tmp 4] (c175 I))
    (HPi : FnIs P Y (I.f 179) 40 [.cell 2 (I.t 177), .tmp 3] (c179 I)) (C1 : FnIs P Y (I.f 392) 8 [.tmp 2] (c392 I)) (D1 : FnIs P Y (I.f 391) 9 [.tmp 2] (c391 I)) (H4 : FnIs P Y (I.f 405) 10 [.tmp 2] (c405 I)) (H1 : FnIs P Y (I.f 393) 8 [.tmp 2] (c393 I)) (H2 : FnIs P Y (I.f 358) 9 [.tmp 2] (c358 I)) (HSo : FnIs P Y (I.f 544) 14 [] (c544 I)) (HLe : FnIs P Y (I.f 511) 8 [.tmp 2] (c511 I)) (H6 : FnIs P Y (I.f 669) 25 [.tmp 2] (c669 I)) (HP : FnIs P Y (I.f 693) 148 [] (c693 I)) (HI : FnIs P Y (I.f 785) 53 [] (c785 I))
    (HS : FnIs P Y (I.f 176) 47 [.tmp 4] (c176 I)) (HL : FnIs P Y (I.f 404) 50 [.tmp 4] (c404 I)) (HR : FnIs P Y (I.f 406) 68 [.tmp 4] (c406 I)) (H5 : FnIs P Y (I.f 546) 44 [.tmp 4, .tmp 5] (c546 I)) (HT : FnIs P Y (I.f 103) 12 [.tmp 2] (c103 I))
    (HRel : FnIs P Y (I.f 104) 17 [.tmp 6] (c104 I)) (HA : FnIs P Y (I.f 339) 18 [.tmp 6] (c339 I)) (HH : FnIs P Y (I.f 227) 62 [.tmp 8] (c227 I)) (T3 : TyIs P (I.t 3) 1 8 [.int .i64 0]) (T1 : RowT P 1 (I.t 3) 8 [V.int .i64 0] [])
    (T : RowT P 4 (I.t 197) 32 [V.int .i64 0, .int .i64 0, .int .i64 0, .int .i64 0] [0, 0, 0]) (T528 : TyIs P (I.t 528) 6 104 [.slice none 0 (.ex 0), .int .i64 0, .int .i64 0, .slice none 0 (.ex 0), .slice none 0 (.ex 0), .nilIface]) (ag : isAggT P (I.t 177) = true) (sz : sizeT P (I.t 177) = 4)
    {h : Hp} {bd ed bt ba bk bn bu o laid : Nat} {c ck : Cap} {x1 x2 x3 x4 x5 : V} {y1 y2 : Int} {xs : List V} (t : Tab h bt) (htb : bt ≠ bd) (od : Own h bd [.ptr (some (bt, 0)), .slice (some (ba, 0)) 1 (.tl 0), .int .i64 (laid : Int), .int .i64 2, .slice (some (bu, 0)) 0 (.tl 0)] ed)
    (hba : h.get ba = some (ambB [.slice (some (bk, 0)) 2 ck, x1, x2, x3, x4, x5] (I.t 528))) (hbal : ba < h.next) (hbad : ba ≠ bd) (hxc : [x1, x2, x3, x4, x5].all V.isCell = true) (hbk : loadL h bk 0 2 = some [.int .i64 y1, .int .i64 y2]) (hbkl : bk < h.next) (hbkd : bk ≠ bd)
    (hbu : h.get bu = some (ambB xs (I.t 272))) (hxs : 1 ≤ xs.length) (hbul : bu < h.next) (hbud : bu ≠ bd) (hbua : bu ≠ ba)
    (hI : Ints h (some (bn, o)) (List.replicate 65536 0)) (hbn : bn < h.next) (hbd : bn ≠ bd) (hlaid : laid ≤ 1099511627776) :
    CW P Y (I.f 232) [.ptr (some (bd, 0)), .int .i64 0, .int .i64 2, .slice (some (bn, o)) 65536 c] none h (fun q => ∃ h', q = .ret .nilIface none h') := by
  refine CW_ic H (Nat.le_of_ble_eq_true rfl) ?_
  unfold c232
  have g1 := Grow.new h (newBlk [.ptr (some (bd, 0))] (I.t 266))
  have o1 := Own.of_new h [.ptr (some (bd, 0))] (I.t 266)
  have n1 : (h.new (newBlk [.ptr (some (bd, 0))] (I.t 266))).next = h.next + 1 := rfl
  generalize hh1 : h.new (newBlk [.ptr (some (bd, 0))] (I.t 266)) = h1 at g1 o1 n1
  have g2 := Grow.new h1 (newBlk [.int .i64 0] (I.t 3))
  have o2 := Own.of_new h1 [.int .i64 0] (I.t 3)
  have n2 : (h1.new (newBlk [.int .i64 0] (I.t 3))).next = h1.next + 1 := rfl
  generalize hh2 : h1.new (newBlk [.int .i64 0] (I.t 3)) = h2 at g2 o2 n2
  have g02 := g1.trans g2
  have o1' := o1.grow g2
  have lp : load1 h2 h.next 0 = some (.ptr (some (bd, 0))) := by rw [o1'.load1]; rfl
  have lf : load1 h2 h1.next 0 = some (.int .i64 0) := by rw [o2.load1]; rfl
  have od2 := od.grow g02
  have l3 : load1 h2 bd 3 = some (.int .i64 2) := by rw [od2.load1]; rfl
  have l0 : load1 h2 bd 0 = some (.ptr (some (bt, 0))) := by rw [od2.load1]; rfl
  have d00 : decide ((0 : Int) < 0) = false := rfl
  have d22 : decide ((2 : Int) > 2) = false := rfl
  have d20 : decide ((2 : Int) < 0) = false := rfl
  have w20 : IntKind.i64.wrap (2 - 0) = 2 := rfl
  have w22 : IntKind.i64.wrap (2 - 2) = 0 := rfl
  have wM : IntKind.i64.wrap (65536 - 0) = 65536 := rfl
  have dM : decide (((65536 : Nat) : Int) > 65536) = false := rfl
  have dl : decide (h1.next < h2.next) = true := decide_eq_true (by omega)
  simp only [zaa, zac, zae, zaf, zai, zaj, zak, zal, zam, zap, zaq, zas, zax, zay, zbi, zbk, List.map_cons, List.map_nil, zbl, zbm, Nat.reduceEqDiff, Option.map_some, Nat.reduceAdd, zbp, zbs, zby, zcb, zck, zcu, zcy, List.all_cons, List.all_nil, Bool.and_self, Nat.zero_add, Nat.add_zero, zdb, zdc, zdd, a_t, a_v, zdo, zdp, zdt, zdv, zeb, zec, zef, zeg, zen, zet, if_true, if_false, List.all_cons, List.all_nil, zgm, zgn, zgm, zgn, hh1, hh2, lp, lf, d00]
  refine (length_ok HLn l3).mono fun q hq => ?_
  simp only [hq, zaa, zae, zai, zaj, zak, zal, zam, zap, zaq, zas, zav, zax, zay, zbi, zbk, List.map_cons, List.map_nil, Nat.reduceEqDiff, Nat.reduceAdd, zck, zcm, Nat.zero_add, Nat.add_zero, zdb, zdc, zdd, a_t, a_v, zdo, zdp, zdq, zds, zdt, zeb, zec, zef, zeg, zeo, zep, zet, if_true, if_false, zfl, zfn, zfo, zfq, zfr, zfs, zfv, zfw, true_and, zgm, zgn, zgm, zgn, lp, lf, d22, d20]
  refine (length_ok HLn l3).mono fun q hq => ?_
  simp only [hq, zaa, zac, zae, zai, zaj, zal, zam, zap, zaq, zas, zav, zax, zay, zbi, zbk, List.map_cons, List.map_nil, Nat.reduceEqDiff, Nat.reduceAdd, zci, zcm, List.all_cons, List.all_nil, Bool.and_self, Nat.add_zero, a_t, a_v, zdo, zdp, zdt, zeb, zec, zef, zeg, zet, if_true, if_false, zfm, zfn, zfo, zfq, zfr, zfs, zfu, zfv, zfw, zfx, zfy, zgb, zgf, zgg, zgh, zgj, zgk, zgl, Nat.reduceBEq, true_and, and_true, List.all_cons, List.all_nil, zgm, zgn, zgm, zgn, lp, lf, l0, dl, w20, w22, wM, dM]
  refine (right_ok HRi HC HX HCr HT (t.grow g02) (hI.grow g02) (by omega)).mono fun q hq => ?_
  obtain ⟨h3, g3, hq⟩ := hq
  have g03 := g02.trans g3
  have n3 := g3.next
  have n03 := g03.next
  have lp3 : load1 h3 h.next 0 = some (.ptr (some (bd, 0))) := (load1_grow g3 (by omega)).trans lp
  have lf3 : load1 h3 h1.next 0 = some (.int .i64 0) := (load1_grow g3 (by omega)).trans lf
  have od3 := od.grow g03
  have hba3 := (g03.get ba hbal).trans hba
  have hbk3 : loadL h3 bk 0 2 = some [.int .i64 y1, .int .i64 y2] := (loadL_grow g03 hbkl).trans hbk
  simp only [hq, zaa, zab, zae, zai, zaj, zak, zal, zam, zap, zaq, zas, zav, zax, zay, zbc, zbi, zbk, List.map_cons, List.map_nil, Nat.reduceEqDiff, Nat.reduceAdd, zcp, Bool.not_true, Nat.zero_add, Nat.add_zero, a_t, zdo, zdp, zdw, zeb, zec, zef, zeg, zet, if_true, if_false, zfl, zfn, zfo, zfq, zfr, zfs, zfv, zfw, true_and, zgm, zgn, zgm, zgn, lp3, lf3]
  refine (put_ok2 HPu HRp HCo HG hu hk HPa HK HIt HCl H0 HC HX HF HN HPi C1 D1 H4 H1 H2 HSo HLe H6 HP HI HS HL HR H5 HT HRel HA HH T3 T1 T T528 ag sz (t.grow g03) htb od3 hba3 (by omega) hbad hxc hbk3 (by omega) hbkd (hI.grow g03) (by omega) hbd hlaid).mono fun q hq => ?_
  obtain ⟨v1, v2, v3, a, n, c', h4, k4, n4, od4, hq⟩ := hq
  have odl := od.low
  have lp4 : load1 h4 h.next 0 = some (.ptr (some (bd, 0))) := by unfold load1; rw [k4 _ (by omega) (by omega) (by omega)]; exact lp3
  have hbu4 : h4.get bu = some (ambB xs (I.t 272)) := (k4 bu (by omega) hbud hbua).trans ((g03.get bu hbul).trans hbu)
  have g5 := Grow.new h4 (newBlk [.slice none 0 (.ex 0)] (I.t 69))
  have o5 := Own.of_new h4 [.slice none 0 (.ex 0)] (I.t 69)
  have n5 : (h4.new (newBlk [.slice none 0 (.ex 0)] (I.t 69))).next = h4.next + 1 := rfl
  generalize hh5 : h4.new (newBlk [.slice none 0 (.ex 0)] (I.t 69)) = h5 at g5 o5 n5
  have hs6 : storeL h5 h4.next 0 [.slice a n c'] = some (h5.put h4.next (newBlk [.slice a n c'] (I.t 69))) := o5.storeL 0 _ (by simp) (by simp) rfl
  have g6 : Grow h4 (h5.put h4.next (newBlk [.slice a n c'] (I.t 69))) := g5.put (Nat.le_refl _) _
  have n6 : (h5.put h4.next (newBlk [.slice a n c'] (I.t 69))).next = h5.next := rfl
  generalize hh6 : h5.put h4.next (newBlk [.slice a n c'] (I.t 69)) = h6 at hs6 g6 n6
  have g7 := Grow.new h6 (newBlk [.int .i64 0] (I.t 3))
  have o7 := Own.of_new h6 [.int .i64 0] (I.t 3)
  have n7 : (h6.new (newBlk [.int .i64 0] (I.t 3))).next = h6.next + 1 := rfl
  generalize hh7 : h6.new (newBlk [.int .i64 0] (I.t 3)) = h7 at g7 o7 n7
  have hs8 : storeL h7 h6.next 0 [.int .i64 ((65536 : Nat) : Int)] = some (h7.put h6.next (newBlk [.int .i64 ((65536 : Nat) : Int)] (I.t 3))) := o7.storeL 0 _ (by simp) (by simp) rfl
  have g8 : Grow h4 (h7.put h6.next (newBlk [.int .i64 ((65536 : Nat) : Int)] (I.t 3))) := (g6.trans g7).put (by omega) _
  have n8 : (h7.put h6.next (newBlk [.int .i64 ((65536 : Nat) : Int)] (I.t 3))).next = h7.next := rfl
  generalize hh8 : h7.put h6.next (newBlk [.int .i64 ((65536 : Nat) : Int)] (I.t 3)) = h8 at hs8 g8 n8
  have lp8 : load1 h8 h.next 0 = some (.ptr (some (bd, 0))) := (load1_grow g8 (by omega)).trans lp4
  have od8 := od4.grow g8
  have l48 : load1 h8 bd 4 = some (.slice (some (bu, 0)) 0 (.tl 0)) := by rw [od8.load1]; rfl
  have f9 : fillV (reps 1 [V.nilFunc]) [(0, 1, .func (I.f 434) [] [.ptr (some (h.next, 0)), .ptr (some (h1.next, 0)), .ptr (some (h6.next, 0)), .ptr (some (h4.next, 0))])] = some [.func (I.f 434) [] [.ptr (some (h.next, 0)), .ptr (some (h1.next, 0)), .ptr (some (h6.next, 0)), .ptr (some (h4.next, 0))]] := rfl
  have g9 := Grow.new h8 (newBlk [.func (I.f 434) [] [.ptr (some (h.next, 0)), .ptr (some (h1.next, 0)), .ptr (some (h6.next, 0)), .ptr (some (h4.next, 0))]] (I.t 272))
  have o9 := Own.of_new h8 [.func (I.f 434) [] [.ptr (some (h.next, 0)), .ptr (some (h1.next, 0)), .ptr (some (h6.next, 0)), .ptr (some (h4.next, 0))]] (I.t 272)
  generalize hh9 : h8.new (newBlk [.func (I.f 434) [] [.ptr (some (h.next, 0)), .ptr (some (h1.next, 0)), .ptr (some (h6.next, 0)), .ptr (some (h4.next, 0))]] (I.t 272)) = h9 at g9 o9
  have hbu9 : h9.get bu = some (ambB xs (I.t 272)) := (g9.get bu (by omega)).trans ((g8.get bu (by omega)).trans hbu4)
  obtain ⟨h10, happ, k10, n10⟩ := app_fn T272 hbu9 (src_own o9 rfl (by omega)) hxs rfl
  have od10 : Own h10 bd [.ptr (some (bt, 0)), v1, v2, v3, .slice (some (bu, 0)) 0 (.tl 0)] ed := ⟨(k10 bd (Ne.symm hbud)).trans (od8.grow g9).is, by rw [n10]; exact (od8.grow g9).low⟩
  have lp10 : load1 h10 h.next 0 = some (.ptr (some (bd, 0))) := by unfold load1; rw [k10 _ (by omega), g9.get _ (by have := g8.next; omega)]; exact lp8
  have lp9 : load1 h9 h.next 0 = some (.ptr (some (bd, 0))) := (load1_grow g9 (by have := g8.next; omega)).trans lp8
  have hs11 : storeL h10 bd 4 [.slice (some (bu, 0)) 1 (.tl 0)] = some (h10.put bd (newBlk [.ptr (some (bt, 0)), v1, v2, v3, .slice (some (bu, 0)) 1 (.tl 0)] ed)) := od10.storeL 4 _ (by simp) (by simp) rfl
  simp only [hq, zaa, zac, zah, zai, zaj, zak, zal, zam, zaq, zar, zav, zax, zay, zbi, zbj, zbk, List.map_cons, List.map_nil, Nat.reduceEqDiff, Nat.reduceAdd, zbp, zbt, List.all_nil, Nat.zero_add, r_1, Nat.mul_one, a_t, a_v, zdo, zdp, zea, zeb, zec, zef, zeg, zej, zek, zel, zem, zeo, zep, zfh, zfi, if_true, if_false, List.length_cons, List.length_nil, zfl, zfm, zfn, zfo, zfq, zfr, zfs, zft, zfu, zfv, zfw, zfx, zfy, zfz, zgc, zge, zgf, zgg, zgh, zgi, zgj, zgl, Nat.reduceBEq, true_and, and_true, List.all_nil, zgm, zgn, zgm, zgn, hh5, hs6, hh7, hs8, lp8, lp10, l48, f9, hh9, happ, hs11]
  exact ⟨_, rfl⟩
end Go.Vm
