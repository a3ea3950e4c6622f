/- What a document's change comes by: small functions. -/
import Derived.Test.YtodpkcebihbghaaGreatDoorWpF14
import Derived.Test.YtodpkcebihbghaaGreatDoorWpP3
import Derived.Test.YtodpkcebihbghaaGreatDoorWpK6
set_option linter.unusedVariables false
set_option linter.unusedSimpArgs false
namespace Go.Vm
variable {P : Program} {Y : Fns} {I : Ids}
theorem Lst.rowsD {n k e : Nat} {h : Hp} {v : V} {rs : List (List Int)} (s : Lst n h v (fl rs) k e) (hk : k ≠ 0) (hw : ∀ r ∈ rs, r.length = k) : ∃ a c, v = .slice a rs.length c ∧ Rw h k a rs := by
  have hl := fl_len hw
  rcases s.is with ⟨rfl, h2⟩ | ⟨b, m, rfl, h2, h3, h4, h5⟩
  · have : rs = [] := by
      rw [h2] at hl
      cases rs with
      | nil => rfl
      | cons r rs => simp [Nat.succ_mul] at hl; omega
    subst this
    exact ⟨none, .ex 0, rfl, ⟨fun _ h => (by cases h), .inl rfl⟩⟩
  · have : m = rs.length := by
      have : m * k = rs.length * k := by rw [← h2, hl]
      exact Nat.eq_of_mul_eq_mul_right (Nat.pos_of_ne_zero hk) this
    subst this
    refine ⟨some (b, 0), .tl 0, rfl, ⟨fun r hr => ?_, .inr ⟨b, 0, rfl, ?_⟩⟩⟩
    · obtain ⟨x, hx, rfl⟩ := List.mem_map.1 hr
      rw [rv_len]; exact hw x hx
    · have : h.get b = some (ambB (fl rs ++ []) e) := by rw [List.append_nil]; exact h3
      exact at_amb this h5
theorem gclos_ok {f : FuncId} (H : FnIs P Y f 12 [.tmp 3] (c364 I)) (HT : FnIs P Y (I.f 103) 12 [.tmp 2] (c103 I)) {h : Hp} {bt b : Nat} (t : Tab h bt) (lb : load1 h b 0 = some (.ptr (some (bt, 0)))) :
    CW P Y f [.int .i64 0, .ptr (some (b, 0))] none h (fun q => q = .ret (.bool false) none h) := by
  refine CW_ic H (Nat.le_of_ble_eq_true rfl) ?_
  unfold c364
  have d1 : decide ((0 : Int) < 0) = false := rfl
  have d2 : decide ((0 : Int) ≥ 2) = false := rfl
  simp only [zaa, zac, zai, zaj, zak, zal, zam, zaq, zas, zax, zay, zbi, zbk, List.map_cons, List.map_nil, zbl, zbm, Nat.reduceEqDiff, Nat.reduceAdd, zck, Nat.zero_add, zdb, zdc, zdd, a_t, a_v, zdo, zdp, zdt, zef, zeg, zet, if_true, if_false, d1, lb]
  refine (terms_ok HT t).mono fun q hq => ?_
  simp only [hq, zah, zai, zaj, zak, zal, zam, zaq, zav, zax, zay, zbi, zbk, Nat.reduceEqDiff, zcn, zdb, zdc, zdd, r_1, a_t, a_v, zdo, zdp, zdq, zds, zdt, if_true, if_false, d2]
theorem length_ok (H : FnIs P Y (I.f 433) 7 [.tmp 2] (c433 I)) {h : Hp} {bd : Nat} {v : V} (l3 : load1 h bd 3 = some v) :
    CW P Y (I.f 433) [.ptr (some (bd, 0))] none h (fun q => q = .ret v none h) := by
  refine CW_ic H (Nat.le_of_ble_eq_true rfl) ?_
  unfold c433
  simp only [zaa, zac, zah, zai, zaj, zak, zal, zam, zaq, zax, zay, zbi, zbk, zbl, zbm, Nat.reduceEqDiff, Nat.zero_add, r_1, a_t, a_v, zdo, zdp, zeb, zec, zef, zeg, if_true, if_false, zgm, zgn, zgm, zgn, l3]
theorem right_ok (H : FnIs P Y (I.f 431) 9 [.tmp 4] (c431 I)) (HC : FnIs P Y (I.f 363) 9 [.tmp 4] (c363 I)) (HX : FnIs P Y (I.f 527) 19 [.tmp 4] (c527 I)) (HF : FnIs P Y (I.f 561) 12 [.tmp 3] (c561 I)) (HT : FnIs P Y (I.f 103) 12 [.tmp 2] (c103 I))
    {h : Hp} {bt n : Nat} {a : Option (Nat × Nat)} {c : Cap} (t : Tab h bt) (hI : Ints h a (List.replicate n 0)) (hn : n ≤ 65536) :
    CW P Y (I.f 431) [.ptr (some (bt, 0)), .slice a n c] none h (fun q => ∃ h', Grow h h' ∧ q = .ret (.bool true) none h') := by
  refine CW_ic H (Nat.le_of_ble_eq_true rfl) ?_
  unfold c431
  have HF' : FnIs P Y (I.f 561) 12 [.tmp 3] (c364 I) := HF
  have g1 := Grow.new h (newBlk [.ptr (some (bt, 0))] (I.t 50))
  have o1 := Own.of_new h [.ptr (some (bt, 0))] (I.t 50)
  have n1 : (h.new (newBlk [.ptr (some (bt, 0))] (I.t 50))).next = h.next + 1 := rfl
  generalize hh1 : h.new (newBlk [.ptr (some (bt, 0))] (I.t 50)) = h1 at g1 o1 n1
  have l1 : load1 h1 h.next 0 = some (.ptr (some (bt, 0))) := by rw [o1.load1]; rfl
  simp only [zaa, zac, zai, zaj, zak, zal, zam, zaq, zas, zax, zay, zbi, zbk, List.map_cons, List.map_nil, zbl, zbm, Nat.reduceEqDiff, Nat.reduceAdd, zbs, zcb, List.all_cons, List.all_nil, Bool.and_self, Nat.zero_add, a_t, a_v, zdp, zea, zen, zet, if_true, if_false, List.all_cons, List.all_nil, hh1]
  refine (contI_ok (p := fun _ => false) HC HX (hI.grow g1) (n := n) (by simp) (by omega) (callV_is HF) fun x hx => ⟨fun h' g => ?_⟩).mono fun q hq => ?_
  · obtain rfl : x = 0 := List.eq_of_mem_replicate hx
    refine (gclos_ok HF' HT (t.grow (g1.trans g)) ((load1_grow g (by omega)).trans l1)).mono fun q hq => ⟨h', .refl _, hq⟩
  · obtain ⟨h3, g3, hq⟩ := hq
    have ha : (List.replicate n (0 : Int)).any (fun _ => false) = false := by simp
    rw [ha] at hq
    simp only [hq, zah, zai, zaj, zak, zal, zam, zaq, zav, zax, zay, zbi, zbk, Nat.reduceEqDiff, zcp, Bool.not_false, r_1, a_t, zdo, zdp, zdw, if_true, if_false]
    exact ⟨h3, g1.trans g3, rfl⟩
theorem new_ok2 (H : FnIs P Y (I.f 175) 20 [.tmp 4] (c175 I)) {h : Hp} {bt : Nat} :
    CW P Y (I.f 175) [.ptr (some (bt, 0)), .int .i64 0] none h (fun q => q = .ret (.ptr (some (h.next, 0))) none (h.new (newBlk (stkC bt 0 false false false (.slice none 0 (.ex 0)) (.slice none 0 (.ex 0))) (I.t 491)))) := by
  refine CW_ic H (Nat.le_of_ble_eq_true rfl) ?_
  unfold c175
  have f1 : fillV [(.ptr none), (.int .i64 0), (.int .i64 0), (.bool false), (.bool false), (.bool false), (.slice none 0 (.ex 0)), (.slice none 0 (.ex 0)), (.slice none 0 (.ex 0)), (.slice none 0 (.ex 0))] [(0, 1, .ptr (some (bt, 0))), (1, 1, .int .i64 0), (2, 1, .int .i64 0)] = some (stkC bt 0 false false false (.slice none 0 (.ex 0)) (.slice none 0 (.ex 0))) := rfl
  have f2 : (stkC bt 0 false false false (.slice none 0 (.ex 0)) (.slice none 0 (.ex 0))).all V.isCell = true := rfl
  have d1 : decide ((0 : Int) < 0) = false := rfl
  have d2 : decide ((0 : Int) > 65536) = false := rfl
  simp only [zaa, zab, zac, zae, zah, zai, zaj, zak, zal, zam, zap, zaq, zax, zay, zbi, zbk, List.map_cons, List.map_nil, zbl, zbm, Nat.reduceEqDiff, Option.map_some, Nat.reduceAdd, zbo, zck, zcm, zcu, zcy, Nat.zero_add, zdb, zdc, zdd, r_1, a_t, a_v, zdo, zdp, zdq, zds, zdt, zdv, zen, zez, if_true, if_false, f1, f2, d1, d2]
theorem ins0_ok (H : FnIs P Y (I.f 785) 53 [] (c785 I)) {h : Hp} {f : V} {x : V} :
    CW P Y (I.f 785) [x, .int .i64 0, .int .i64 0, f] none h (fun q => q = .ret (.tuple []) none h) := by
  refine CW_ic H (Nat.le_of_ble_eq_true rfl) ?_
  unfold c785
  have w1 : IntKind.i64.wrap (0 + 1) = 1 := rfl
  have d1 : decide ((1 : Int) < 0) = false := rfl
  simp only [zaa, zac, zaf, zai, zaj, zak, zal, zam, zaq, zax, zay, zbi, zbk, zbl, zbm, Nat.reduceEqDiff, Nat.reduceAdd, zch, Nat.zero_add, a_t, a_v, zdo, zdp, zdt, if_true, if_false, w1]
  refine s_loop (fun kk st => ∃ F, kk = 0 ∧ st = ⟨F, [], none, h⟩ ∧ gt F 2 = .int .i64 0 ∧ gt F 8 = .int .i64 1) 0 ⟨_, rfl, rfl, by simp only [zbk, Nat.reduceEqDiff, if_true, if_false], by simp only [zbk, Nat.reduceEqDiff, if_true, if_false]⟩ ?_
  rintro kk _ ⟨F, rfl, rfl, g2, g8⟩
  simp only [zaa, zac, zae, zag, zai, zaj, zak, zal, zam, zap, zaq, zax, zay, zba, zbe, zbi, zbk, Nat.reduceEqDiff, zck, n_0, a_t, zdo, zdp, zdt, if_true, if_false, g2, g8, d1]
theorem v_ixS0 {F : Frm} {h : Hp} {L : List UInt8} {i : IA} (hg : ia F i = .int .u8 0) : iV P F h (.ixS (.v (.str (0 :: L))) i) = .val (.int .u8 0) h := by
  show (match V.str (0 :: L), ia F i with
    | .str s, .int _ n => if 0 ≤ n then orVal h ((s[n.toNat]?).map fun (b : UInt8) => V.int .u8 (b.toNat : Int)) else .bad ""
    | _, _ => .bad "") = _
  rw [hg]
  rfl
set_option maxRecDepth 20000 in
theorem len64_ok (H : FnIs P Y (I.f 669) 25 [.tmp 2] (c669 I)) {h : Hp} :
    CW P Y (I.f 669) [.int .u64 0] none h (fun q => q = .ret (.int .i64 0) none h) := by
  refine CW_ic H (Nat.le_of_ble_eq_true rfl) ?_
  unfold c669
  have b1 : binV P .geq 0 false (.int .u64 0) (.int .u64 4294967296) = some (.bool false) := rfl
  have b2 : binV P .geq 0 false (.int .u64 0) (.int .u64 65536) = some (.bool false) := rfl
  have b3 : binV P .geq 0 false (.int .u64 0) (.int .u64 256) = some (.bool false) := rfl
  have w1 : IntKind.u8.wrap 0 = 0 := rfl
  have w2 : IntKind.i64.wrap 0 = 0 := rfl
  have w3 : IntKind.i64.wrap (0 + 0) = 0 := rfl
  simp only [zaa, zab, zac, zae, zah, zai, zaj, zak, zal, zam, zap, zaq, zax, zay, zbi, zbk, zbl, zbm, Nat.reduceEqDiff, zch, Nat.zero_add, r_1, a_t, a_v, zdo, zdp, zdt, zdx, zdy, if_true, if_false, b1, b2, b3, v_ixS0, w1, w2, w3]
theorem len_ok (H : FnIs P Y (I.f 511) 8 [.tmp 2] (c511 I)) (H6 : FnIs P Y (I.f 669) 25 [.tmp 2] (c669 I)) {h : Hp} :
    CW P Y (I.f 511) [.int .u64 0] none h (fun q => q = .ret (.int .i64 0) none h) := by
  refine CW_ic H (Nat.le_of_ble_eq_true rfl) ?_
  unfold c511
  simp only [zaa, zab, zac, zae, zai, zaj, zak, zal, zam, zap, zaq, zas, zax, zay, zbi, zbk, List.map_cons, List.map_nil, zbl, zbm, Nat.reduceEqDiff, Nat.zero_add, a_t, a_v, zdp, zet, if_true, if_false]
  refine (len64_ok H6).mono fun q hq => ?_
  simp only [hq, zah, zai, zaj, zak, zal, zam, zaq, zav, zax, zay, zbi, zbk, Nat.reduceEqDiff, r_1, a_t, zdp, if_true, if_false]
theorem pdq0_ok (H : FnIs P Y (I.f 693) 148 [] (c693 I)) (HI : FnIs P Y (I.f 785) 53 [] (c785 I)) {h : Hp} {f : V} {x : V} :
    CW P Y (I.f 693) [x, .int .i64 0, .int .i64 0, .int .i64 0, f] none h (fun q => q = .ret (.tuple []) none h) := by
  refine CW_ic H (Nat.le_of_ble_eq_true rfl) ?_
  unfold c693
  have w1 : IntKind.i64.wrap (0 - 0) = 0 := rfl
  have d1 : decide ((0 : Int) ≤ 12) = true := rfl
  simp only [zaa, zac, zaf, zai, zaj, zak, zal, zam, zaq, zax, zay, zbi, zbl, zbm, Nat.reduceAdd, Nat.zero_add, a_v, zdp]
  refine s_loop (fun kk st => ∃ F, kk = 0 ∧ st = ⟨F, [], none, h⟩ ∧ gt F 0 = x ∧ gt F 1 = .int .i64 0 ∧ gt F 2 = .int .i64 0 ∧ gt F 4 = f) 0 ⟨_, rfl, rfl, by simp only [zbk, Nat.reduceEqDiff, if_true, if_false], by simp only [zbk, Nat.reduceEqDiff, if_true, if_false], by simp only [zbk, Nat.reduceEqDiff, if_true, if_false], by simp only [zbk, Nat.reduceEqDiff, if_true, if_false]⟩ ?_
  rintro kk _ ⟨F, rfl, rfl, g0, g1, g2, g4⟩
  simp only [zaa, zac, zae, zaf, zai, zaj, zak, zal, zam, zao, zaq, zas, zax, zay, zbi, zbk, List.map_cons, List.map_nil, Nat.reduceEqDiff, zci, zcl, a_t, a_v, zdo, zdp, zdt, zet, if_true, if_false, g0, g1, g2, g4, w1, d1]
  refine (ins0_ok HI).mono fun q hq => ?_
  simp only [hq, zah, zai, zaj, zak, zav, zay, zaz, zbd, zbi, r_0]
theorem sort0_ok (H : FnIs P Y (I.f 544) 14 [] (c544 I)) (HL : FnIs P Y (I.f 511) 8 [.tmp 2] (c511 I)) (H6 : FnIs P Y (I.f 669) 25 [.tmp 2] (c669 I)) (HP : FnIs P Y (I.f 693) 148 [] (c693 I)) (HI : FnIs P Y (I.f 785) 53 [] (c785 I)) {h : Hp} {f : V} {a : Option (Nat × Nat)} {c : Cap} :
    CW P Y (I.f 544) [.slice a 0 c, f] none h (fun q => q = .ret (.tuple []) none h) := by
  refine CW_ic H (Nat.le_of_ble_eq_true rfl) ?_
  unfold c544
  have w1 : IntKind.u64.wrap ((0 : Nat) : Int) = 0 := rfl
  simp only [zaa, zac, zai, zaj, zak, zal, zam, zaq, zas, zax, zay, zbi, zbk, List.map_cons, List.map_nil, zbl, zbm, Nat.reduceEqDiff, Nat.reduceAdd, Nat.zero_add, a_t, zdp, zdx, zdy, zeo, zep, zet, if_true, if_false, w1]
  refine (len_ok HL H6).mono fun q hq => ?_
  simp only [hq, zaj, zal, zam, zaq, zas, zav, zax, zbi, zbk, List.map_cons, List.map_nil, Nat.reduceEqDiff, a_t, a_v, zdp, zet, if_true, if_false]
  refine (pdq0_ok HP HI).mono fun q hq => ?_
  simp only [hq, zaj, zak, zav, zbi, n_0]
theorem pre0_ok (H : FnIs P Y (I.f 405) 10 [.tmp 2] (c405 I)) (H1 : FnIs P Y (I.f 393) 8 [.tmp 2] (c393 I)) (H2 : FnIs P Y (I.f 358) 9 [.tmp 2] (c358 I)) (HS : FnIs P Y (I.f 544) 14 [] (c544 I)) (HL : FnIs P Y (I.f 511) 8 [.tmp 2] (c511 I)) (H6 : FnIs P Y (I.f 669) 25 [.tmp 2] (c669 I)) (HP : FnIs P Y (I.f 693) 148 [] (c693 I)) (HI : FnIs P Y (I.f 785) 53 [] (c785 I)) {h : Hp} :
    CW P Y (I.f 405) [.slice none 0 (.ex 0)] none h (fun q => q = .ret (.slice none 0 (.ex 0)) none h) := by
  refine CW_ic H (Nat.le_of_ble_eq_true rfl) ?_
  unfold c405
  have hc : CW P Y (I.f 393) [.slice none 0 (.ex 0)] none h (fun q => q = .ret (.slice none 0 (.ex 0)) none h) := by
    refine CW_ic H1 (Nat.le_of_ble_eq_true rfl) ?_
    unfold c393
    simp only [zaa, zac, zae, zah, zai, zaj, zak, zal, zam, zao, zaq, zax, zay, zaz, zbi, zbk, zbl, zbm, Nat.reduceEqDiff, Option.map_some, zcu, Nat.zero_add, r_1, a_t, a_v, zdo, zdp, zdv, if_true, if_false, in_slN]
  have hd : CW P Y (I.f 358) [.slice none 0 (.ex 0)] none h (fun q => q = .ret (.slice none 0 (.ex 0)) none h) := gClip_ok H2 none 0 (.ex 0)
  simp only [zaa, zac, zai, zaj, zak, zal, zam, zaq, zas, zax, zay, zbi, zbk, List.map_cons, List.map_nil, zbl, zbm, Nat.reduceEqDiff, Nat.zero_add, a_t, a_v, zdp, zet, if_true, if_false]
  refine hc.mono fun q hq => ?_
  simp only [hq, zaa, zac, zai, zaj, zak, zal, zam, zaq, zas, zav, zax, zay, zbi, zbk, List.map_cons, List.map_nil, Nat.reduceEqDiff, a_t, a_v, zdp, zet, if_true, if_false]
  refine (sort0_ok HS HL H6 HP HI).mono fun q hq => ?_
  simp only [hq, zaa, zac, zai, zaj, zak, zal, zam, zaq, zas, zav, zax, zay, zbi, zbk, List.map_cons, List.map_nil, Nat.reduceEqDiff, a_t, zdp, zet, if_true, if_false]
  refine hd.mono fun q hq => ?_
  simp only [hq, zah, zai, zaj, zak, zal, zam, zaq, zav, zax, zay, zbi, zbk, Nat.reduceEqDiff, r_1, a_t, zdp, if_true, if_false]
end Go.Vm
/- A piece of as: stack.Piece, chunk.Parse. -/
namespace Go.Vm
variable {P : Program} {Y : Fns} {I : Ids}
def itR (k : Nat) : List (List Int) := (List.range k).map fun (j : Nat) => [0, -1, (j : Int), ((j + 1 : Nat) : Int)]
theorem itR_fl (k : Nat) : fl (itR k) = itsC k := by
  induction k with
  | zero => rfl
  | succ k ih =>
    rw [itsC_succ, ← ih]
    simp [itR, fl, List.range_succ, rv, itC]
theorem itR_len (k : Nat) : (itR k).length = k := by simp [itR]
theorem itR_wid (k : Nat) : ∀ r ∈ itR k, r.length = 4 := fun r hr => by
  obtain ⟨j, _, rfl⟩ := List.mem_map.1 hr
  rfl
theorem piece_ok2 (H : FnIs P Y (I.f 179) 40 [.cell 2 (I.t 177), .tmp 3] (c179 I)) (C1 : FnIs P Y (I.f 392) 8 [.tmp 2] (c392 I)) (D1 : FnIs P Y (I.f 391) 9 [.tmp 2] (c391 I)) (H4 : FnIs P Y (I.f 405) 10 [.tmp 2] (c405 I)) (H1 : FnIs P Y (I.f 393) 8 [.tmp 2] (c393 I)) (H2 : FnIs P Y (I.f 358) 9 [.tmp 2] (c358 I)) (HS : FnIs P Y (I.f 544) 14 [] (c544 I)) (HL : FnIs P Y (I.f 511) 8 [.tmp 2] (c511 I)) (H6 : FnIs P Y (I.f 669) 25 [.tmp 2] (c669 I)) (HP : FnIs P Y (I.f 693) 148 [] (c693 I)) (HI : FnIs P Y (I.f 785) 53 [] (c785 I))
    (T : RowT P 4 (I.t 197) 32 [V.int .i64 0, .int .i64 0, .int .i64 0, .int .i64 0] [0, 0, 0]) (ag : isAggT P (I.t 177) = true) (sz : sizeT P (I.t 177) = 4)
    {n : Nat} {h : Hp} {bs bt k : Nat} {itv tmv : V} (s : Stk I n h bs bt k false false itv tmv) (hk : k ≤ 65536) :
    CW P Y (I.f 179) [.ptr (some (bs, 0))] none h (fun q => ∃ cs h', cs.length = 4 ∧ cs.all V.isCell = true ∧ Grow h h' ∧ q = .ret (.tuple [.agg cs, .nilIface]) none h') := by
  refine CW_ic H (Nat.le_of_ble_eq_true rfl) ?_
  unfold c179
  obtain ⟨ia, ic, rfl, hrw⟩ := Lst.rowsD (rs := itR k) (by rw [itR_fl]; exact s.it) (by omega) (itR_wid k)
  rw [itR_len] at s
  have g1 := Grow.new h (newBlk [.int .i64 0, .int .i64 0, .slice none 0 (.ex 0), .slice none 0 (.ex 0)] (I.t 177))
  have o1 := Own.of_new h [.int .i64 0, .int .i64 0, .slice none 0 (.ex 0), .slice none 0 (.ex 0)] (I.t 177)
  have n1 : (h.new (newBlk [.int .i64 0, .int .i64 0, .slice none 0 (.ex 0), .slice none 0 (.ex 0)] (I.t 177))).next = h.next + 1 := rfl
  generalize hh1 : h.new (newBlk [.int .i64 0, .int .i64 0, .slice none 0 (.ex 0), .slice none 0 (.ex 0)] (I.t 177)) = h1 at g1 o1 n1
  have ow := s.own.grow g1
  have lw := s.own.low
  have l3 : load1 h1 bs 3 = some (.bool false) := by rw [ow.load1]; rfl
  have l5 : load1 h1 bs 5 = some (.bool false) := by rw [ow.load1]; rfl
  have l1 : load1 h1 bs 1 = some (.int .i64 0) := by rw [ow.load1]; rfl
  have l2 : load1 h1 bs 2 = some (.int .i64 k) := by rw [ow.load1]; rfl
  have l6 : load1 h1 bs 6 = some (.slice ia k ic) := by rw [ow.load1]; rfl
  have l8 : load1 h1 bs 8 = some (.slice none 0 (.ex 0)) := by rw [ow.load1]; rfl
  have C1' : FnIs P Y (I.f 392) 8 [.tmp 2] (gClone 4 (I.t 197)) := C1
  have D1' : FnIs P Y (I.f 391) 9 [.tmp 2] (gClip 4 (I.t 197)) := D1
  simp only [zaa, zab, zac, zae, zai, zaj, zak, zal, zam, zap, zaq, zas, zax, zay, zbi, zbk, List.map_cons, List.map_nil, zbl, zbm, Nat.reduceEqDiff, Option.map_some, Nat.reduceAdd, zcu, zcy, Nat.zero_add, zdb, zdc, zdd, a_t, a_v, zdo, zdp, zdq, zds, zdv, zeb, zec, zef, zeg, zem, zet, if_true, if_false, zfl, zfn, zfo, zfq, zfr, zfs, zfv, zfw, true_and, zgm, zgn, zgm, zgn, hh1, l3, l5, l1, l2, l6]
  refine (gClone_ok C1' T (hrw.grow g1) (itR_len k).symm (by omega) (by omega)).mono fun q hq => ?_
  obtain ⟨a', c', h2, g2, hm, hq⟩ := hq
  have m1 : load1 h2 bs 1 = some (.int .i64 0) := (load1_grow g2 (by omega)).trans l1
  have m2 : load1 h2 bs 2 = some (.int .i64 k) := (load1_grow g2 (by omega)).trans l2
  have m8 : load1 h2 bs 8 = some (.slice none 0 (.ex 0)) := (load1_grow g2 (by omega)).trans l8
  have o2 := o1.grow g2
  have dl : decide (bs < h1.next) = true := decide_eq_true (by omega)
  have dl2 : decide (bs < h2.next) = true := decide_eq_true (by have := g2.next; omega)
  simp only [hq, zas, zav, zax, zbi, zbk, List.map_cons, List.map_nil, Nat.reduceEqDiff, Nat.reduceAdd, a_t, zdo, zef, zeg, zet, if_true, if_false, zfn, zfo, zfq, zfu, zfy, zfz, zge, zgf, zgg, zgh, zgi, zgj, zgl, Nat.reduceBEq, true_and, and_true, m1, m2]
  refine (gClip_ok D1' a' k c').mono fun q hq => ?_
  simp only [hq, zaq, zas, zav, zax, zbi, zbk, List.map_cons, List.map_nil, Nat.reduceEqDiff, Nat.reduceAdd, List.all_cons, List.all_nil, Bool.and_self, Nat.zero_add, a_t, zdo, zdp, zeb, zec, zef, zeg, zet, if_true, if_false, zfn, zfo, zfq, zfr, zfs, zfu, zfv, zfw, zfx, zfy, zfz, zgb, zge, zgf, zgg, zgh, zgi, zgj, zgk, zgl, Nat.reduceBEq, true_and, and_true, List.all_cons, List.all_nil, zgm, zgn, zgm, zgn, m1, m2, m8, l8, dl, dl2]
  refine (pre0_ok H4 H1 H2 HS HL H6 HP HI).mono fun q hq => ?_
  have f1 : fillV [V.int .i64 0, .int .i64 0, .slice none 0 (.ex 0), .slice none 0 (.ex 0)] [(0, 1, .int .i64 0), (1, 1, .int .i64 k), (2, 1, .slice a' k (.ex k)), (3, 1, .slice none 0 (.ex 0))] = some [.int .i64 0, .int .i64 k, .slice a' k (.ex k), .slice none 0 (.ex 0)] := rfl
  have hs : storeL h2 h.next 0 [.int .i64 0, .int .i64 k, .slice a' k (.ex k), .slice none 0 (.ex 0)] = some (h2.put h.next (newBlk [.int .i64 0, .int .i64 k, .slice a' k (.ex k), .slice none 0 (.ex 0)] (I.t 177))) := o2.storeL 0 _ (by simp) (by simp) rfl
  have g3 : Grow h (h2.put h.next (newBlk [.int .i64 0, .int .i64 k, .slice a' k (.ex k), .slice none 0 (.ex 0)] (I.t 177))) := (g1.trans g2).put (Nat.le_refl _) _
  have o3 := o2.put [.int .i64 0, .int .i64 k, .slice a' k (.ex k), .slice none 0 (.ex 0)]
  generalize hh3 : h2.put h.next (newBlk [.int .i64 0, .int .i64 k, .slice a' k (.ex k), .slice none 0 (.ex 0)] (I.t 177)) = h3 at hs g3 o3
  have ld : loadL h3 h.next 0 4 = some [.int .i64 0, .int .i64 k, .slice a' k (.ex k), .slice none 0 (.ex 0)] := by rw [o3.loadL]; rfl
  simp only [hq, zah, zai, zaq, zar, zav, zax, zay, zbi, zbj, zbk, List.map_cons, List.map_nil, Nat.reduceEqDiff, Option.map_some, Nat.reduceAdd, zbo, Nat.zero_add, a_t, a_v, zdo, zdp, zef, zeg, zej, zek, zel, zez, if_true, if_false, List.length_cons, List.length_nil, zfm, zfn, zfo, zfq, zfr, zfu, zfy, zfz, zge, zgf, zgg, zgh, zgi, zgj, zgl, Nat.reduceBEq, true_and, and_true, m1, m2, f1, hs]
  refine r_ret ((r_cell ag sz (by simp only [zbk, Nat.reduceEqDiff, if_true, if_false]) ld).trans ((congrArg _ r_tmp).trans rfl)) ?_
  simp only [zbk, Nat.reduceEqDiff, if_true, if_false, retV]
  exact ⟨_, h3, rfl, rfl, g3, rfl⟩
theorem chunk_ok (H0 : FnIs P Y (I.f 157) 81 [.cell 8 (I.t 177), .tmp 9] (c157 I)) (HC : FnIs P Y (I.f 363) 9 [.tmp 4] (c363 I)) (HX : FnIs P Y (I.f 527) 19 [.tmp 4] (c527 I)) (HF : FnIs P Y (I.f 385) 12 [.tmp 3] (c385 I)) (HN : FnIs P Y (I.f 175) 20 [.tmp 4] (c175 I))
    (HPi : FnIs P Y (I.f 179) 40 [.cell 2 (I.t 177), .tmp 3] (c179 I)) (C1 : FnIs P Y (I.f 392) 8 [.tmp 2] (c392 I)) (D1 : FnIs P Y (I.f 391) 9 [.tmp 2] (c391 I)) (H4 : FnIs P Y (I.f 405) 10 [.tmp 2] (c405 I)) (H1 : FnIs P Y (I.f 393) 8 [.tmp 2] (c393 I)) (H2 : FnIs P Y (I.f 358) 9 [.tmp 2] (c358 I)) (HSo : FnIs P Y (I.f 544) 14 [] (c544 I)) (HLe : FnIs P Y (I.f 511) 8 [.tmp 2] (c511 I)) (H6 : FnIs P Y (I.f 669) 25 [.tmp 2] (c669 I)) (HP : FnIs P Y (I.f 693) 148 [] (c693 I)) (HI : FnIs P Y (I.f 785) 53 [] (c785 I))
    (HS : FnIs P Y (I.f 176) 47 [.tmp 4] (c176 I)) (HL : FnIs P Y (I.f 404) 50 [.tmp 4] (c404 I)) (HR : FnIs P Y (I.f 406) 68 [.tmp 4] (c406 I)) (H5 : FnIs P Y (I.f 546) 44 [.tmp 4, .tmp 5] (c546 I)) (HT : FnIs P Y (I.f 103) 12 [.tmp 2] (c103 I))
    (HRel : FnIs P Y (I.f 104) 17 [.tmp 6] (c104 I)) (HA : FnIs P Y (I.f 339) 18 [.tmp 6] (c339 I)) (HH : FnIs P Y (I.f 227) 62 [.tmp 8] (c227 I)) (T3 : TyIs P (I.t 3) 1 8 [.int .i64 0])
    (T : RowT P 4 (I.t 197) 32 [V.int .i64 0, .int .i64 0, .int .i64 0, .int .i64 0] [0, 0, 0]) (ag : isAggT P (I.t 177) = true) (sz : sizeT P (I.t 177) = 4)
    {h : Hp} {bt b o m : Nat} {c : Cap} (t : Tab h bt) (hI : Ints h (some (b, o)) (List.replicate m 0)) (hm : m ≤ 65536) (hb : b < h.next) :
    CW P Y (I.f 157) [.ptr (some (bt, 0)), .slice (some (b, o)) m c, .int .i64 0, .int .i64 m] none h (fun q => ∃ cs h', cs.length = 4 ∧ cs.all V.isCell = true ∧ Grow h h' ∧ q = .ret (.tuple [.agg cs, .nilIface]) none h') := by
  refine CW_ic H0 (Nat.le_of_ble_eq_true rfl) ?_
  unfold c157
  have HF' : FnIs P Y (I.f 385) 12 [.tmp 3] (c364 I) := HF
  have g1 := Grow.new h (newBlk [.ptr (some (bt, 0))] (I.t 50))
  have o1 := Own.of_new h [.ptr (some (bt, 0))] (I.t 50)
  have n1 : (h.new (newBlk [.ptr (some (bt, 0))] (I.t 50))).next = h.next + 1 := rfl
  generalize hh1 : h.new (newBlk [.ptr (some (bt, 0))] (I.t 50)) = h1 at g1 o1 n1
  have g2 := Grow.new h1 (newBlk [.int .i64 0, .int .i64 0, .slice none 0 (.ex 0), .slice none 0 (.ex 0)] (I.t 177))
  have o2 := Own.of_new h1 [.int .i64 0, .int .i64 0, .slice none 0 (.ex 0), .slice none 0 (.ex 0)] (I.t 177)
  have n2 : (h1.new (newBlk [.int .i64 0, .int .i64 0, .slice none 0 (.ex 0), .slice none 0 (.ex 0)] (I.t 177))).next = h1.next + 1 := rfl
  generalize hh2 : h1.new (newBlk [.int .i64 0, .int .i64 0, .slice none 0 (.ex 0), .slice none 0 (.ex 0)] (I.t 177)) = h2 at g2 o2 n2
  have d1 : decide ((m : Int) > 65536) = false := decide_eq_false (by omega)
  have d2 : decide ((0 : Int) < 0) = false := rfl
  have d3 : decide ((m : Int) > (m : Int)) = false := decide_eq_false (by omega)
  have d4 : decide ((m : Int) < 0) = false := decide_eq_false (by omega)
  have d5 : decide (m ≤ m) = true := decide_eq_true (Nat.le_refl _)
  have l1 : load1 h2 h.next 0 = some (.ptr (some (bt, 0))) := by rw [(o1.grow g2).load1]; rfl
  simp only [zaa, zac, zae, zaf, zai, zaj, zak, zal, zam, zap, zaq, zas, zax, zay, zbi, zbk, List.map_cons, List.map_nil, zbl, zbm, Nat.reduceEqDiff, Option.map_some, Nat.reduceAdd, zbs, zcb, zck, zcm, zcu, zcy, List.all_cons, List.all_nil, Bool.and_self, Nat.zero_add, Nat.add_zero, zdb, zdc, zdd, Nat.mul_one, Bool.true_and, zdj, zdk, zdm, Option.getD_some, Nat.zero_le, decide_true, Nat.sub_zero, Option.isSome_some, Bool.true_or, a_t, a_v, zdo, zdp, zdq, zds, zdt, zdv, zea, zef, zeg, zem, zen, zeo, zep, zet, zfa, zfb, zfd, zfe, if_true, if_false, List.all_cons, List.all_nil, hh1, hh2, l1, d1, d2, d3, d4, d5]
  refine (contI_ok (p := fun _ => false) HC HX (hI.grow (g1.trans g2)) (n := m) (by simp) (by omega) (callV_is HF) fun x hx => ⟨fun h' g => ?_⟩).mono fun q hq => ?_
  · obtain rfl : x = 0 := List.eq_of_mem_replicate hx
    refine (gclos_ok HF' HT (t.grow (g1.trans (g2.trans g))) ((load1_grow g (by omega)).trans l1)).mono fun q hq => ⟨h', .refl _, hq⟩
  · obtain ⟨h3, g3, hq⟩ := hq
    have ha : (List.replicate m (0 : Int)).any (fun _ => false) = false := by simp
    rw [ha] at hq
    have g13 := g1.trans (g2.trans g3)
    have l3 : load1 h3 h.next 0 = some (.ptr (some (bt, 0))) := (load1_grow g3 (by omega)).trans l1
    have n3 := g3.next
    simp only [hq, zaa, zab, zac, zae, zai, zaj, zak, zal, zam, zap, zaq, zas, zav, zax, zay, zbc, zbi, zbk, List.map_cons, List.map_nil, Nat.reduceEqDiff, a_t, zdo, zdp, zef, zeg, zet, if_true, if_false, l3]
    refine (new_ok2 HN).mono fun q hq => ?_
    have g4 := Grow.new h3 (newBlk (stkC bt 0 false false false (.slice none 0 (.ex 0)) (.slice none 0 (.ex 0))) (I.t 491))
    have o4 := Own.of_new h3 (stkC bt 0 false false false (.slice none 0 (.ex 0)) (.slice none 0 (.ex 0))) (I.t 491)
    have n4 : (h3.new (newBlk (stkC bt 0 false false false (.slice none 0 (.ex 0)) (.slice none 0 (.ex 0))) (I.t 491))).next = h3.next + 1 := rfl
    generalize hh4 : h3.new (newBlk (stkC bt 0 false false false (.slice none 0 (.ex 0)) (.slice none 0 (.ex 0))) (I.t 491)) = h4 at g4 o4 n4 hq
    simp only [hq, zaa, zac, zaf, zai, zaj, zak, zal, zam, zaq, zav, zax, zay, zbi, zbk, Nat.reduceEqDiff, Option.map_some, Bool.and_self, Nat.add_zero, Nat.mul_one, Bool.true_and, zdj, zdk, zdm, Option.getD_some, Nat.zero_le, decide_true, Nat.sub_zero, Option.isSome_some, Bool.true_or, a_t, a_v, zdp, zeo, zep, zfa, zfb, zfd, zfe, if_true, if_false, d5]
    refine s_loop (fun kk st => ∃ (k : Nat) (F : Frm) (h' : Hp) (itv tmv : V), kk + k = m ∧ st = ⟨F, [], none, h'⟩ ∧ gt F 8 = .ptr (some (h1.next, 0)) ∧ gt F 9 = .nilIface ∧ gt F 10 = .ptr (some (h3.next, 0)) ∧ gt F 56 = .slice (some (b, o)) m c ∧ gt F 57 = .int .i64 m ∧ gt F 58 = .int .i64 k ∧
      Grow h h' ∧ Own h' h1.next [.int .i64 0, .int .i64 0, .slice none 0 (.ex 0), .slice none 0 (.ex 0)] (I.t 177) ∧ Stk I h4.next h' h3.next bt k false false itv tmv) m
      ⟨0, _, h4, _, _, by omega, rfl, by simp only [zbk, Nat.reduceEqDiff, if_true, if_false], by simp only [zbk, Nat.reduceEqDiff, if_true, if_false], by simp only [zbk, Nat.reduceEqDiff, if_true, if_false], by simp only [zbk, Nat.reduceEqDiff, if_true, if_false], by simp only [zbk, Nat.reduceEqDiff, if_true, if_false], by simp only [zbk, Nat.reduceEqDiff, if_true, if_false]; rfl, g13.trans g4, (o2.grow g3).grow g4,
        ⟨fun b c i j i' j' x y e1 _ => (by cases e1), o4, by omega, Nat.le_refl _, ⟨.inl ⟨rfl, rfl⟩⟩, ⟨.inl ⟨rfl, rfl⟩⟩⟩⟩ ?_
    rintro kk _ ⟨k, F, h', itv, tmv, hkk, rfl, q8, q9, q10, q56, q57, q58, hg, oo, hs⟩
    by_cases hk : k < m
    · have d6 : decide ((k : Int) < (m : Int)) = true := decide_eq_true (by omega)
      have w1 : IntKind.i64.wrap ((k : Int) + 1) = ((k + 1 : Nat) : Int) := by rw [wrap_i64 (by omega) (by omega)]; rfl
      have lz : load1 h' b (o + k) = some (.int .i64 0) := by
        obtain ⟨b', o', e, k1, k2⟩ := (hI.grow hg).get (i := k) (by simpa using hk)
        cases e
        rw [k1, List.getElem_replicate]
      have tg := t.grow hg
      simp only [zaa, zab, zac, zae, zaf, zai, zaj, zak, zal, zam, zao, zaq, zas, zax, zay, zbi, zbk, List.map_cons, List.map_nil, Nat.reduceEqDiff, zck, Bool.and_self, Nat.mul_one, Int.toNat_natCast, zdh, a_t, zdo, zdp, zdt, zed, zee, zef, zeg, zet, if_true, if_false, q10, q56, q57, q58, d6, lz]
      refine (shift_ok HS HL HR H5 HT T3 T.ty tg (tg.rel3 HRel HA HH) hs (by omega)).mono fun q hq => ?_
      obtain ⟨h6, itv', tmv', m1, m2, m3, hq⟩ := hq
      have n6 := m1.next
      have g6 : Grow h h6 := ⟨by have := hg.next; omega, fun b hb => (m1.get b (by omega)).trans (hg.get b hb)⟩
      simp only [hq, zaa, zab, zac, zae, zai, zaj, zak, zal, zam, zap, zaq, zav, zax, zay, zbc, zbi, zbk, Nat.reduceEqDiff, Option.map_some, zch, zct, zcv, Bool.not_true, a_t, a_v, zdo, zdp, zdt, zdv, if_true, if_false, w1, q58]
      exact ⟨kk - 1, by omega, k + 1, _, h6, itv', tmv', by omega, rfl, by simp only [zbk, Nat.reduceEqDiff, if_false, q8], by simp only [zbk, Nat.reduceEqDiff, if_false, q9], by simp only [zbk, Nat.reduceEqDiff, if_false, q10], by simp only [zbk, Nat.reduceEqDiff, if_false, q56], by simp only [zbk, Nat.reduceEqDiff, if_false, q57], by simp only [zbk, Nat.reduceEqDiff, if_true, if_false], g6, oo.keep (by omega) m1, m3⟩
    · have d6 : decide ((k : Int) < (m : Int)) = false := decide_eq_false (by omega)
      obtain rfl : k = m := by omega
      simp only [zaa, zac, zae, zag, zai, zaj, zak, zal, zam, zap, zaq, zas, zax, zay, zba, zbe, zbi, zbk, List.map_cons, List.map_nil, Nat.reduceEqDiff, zck, a_t, zdo, zdp, zdt, zet, if_true, if_false, q10, q57, q58, d6]
      refine (piece_ok2 HPi C1 D1 H4 H1 H2 HSo HLe H6 HP HI T ag sz hs hm).mono fun q hq => ?_
      obtain ⟨cs, h6, e1, e2, g6, hq⟩ := hq
      have o6 := oo.grow g6
      have hne : cs ≠ [] := fun e => by rw [e] at e1; cases e1
      have hst : storeL h6 h1.next 0 cs = some (h6.put h1.next (newBlk (splice [.int .i64 0, .int .i64 0, .slice none 0 (.ex 0), .slice none 0 (.ex 0)] 0 cs) (I.t 177))) := o6.storeL 0 cs hne (by simp [e1]) e2
      have hsp : splice [V.int .i64 0, .int .i64 0, .slice none 0 (.ex 0), .slice none 0 (.ex 0)] 0 cs = cs := by
        unfold splice
        simp [e1]
      rw [hsp] at hst
      have o7 := o6.put cs
      have g7 : Grow h (h6.put h1.next (newBlk cs (I.t 177))) := (hg.trans g6).put (by omega) _
      generalize hh7 : h6.put h1.next (newBlk cs (I.t 177)) = h7 at hst o7 g7
      have ld : loadL h7 h1.next 0 4 = some cs := by
        rw [o7.loadL, if_pos (by omega), List.drop_zero, ← e1, List.take_length]
      have hcl : (V.agg cs).cells = cs := rfl
      simp only [hq, zah, zai, zaj, zak, zal, zam, zaq, zar, zav, zax, zay, zbi, zbj, zbk, Nat.reduceEqDiff, zbo, List.getElem?_cons_zero, List.getElem?_cons_succ, a_t, zdo, zdp, zej, zek, zel, zex, zey, if_true, if_false, q8, hst, e1]
      refine r_ret ((r_cell ag sz (by simp only [zbk, Nat.reduceEqDiff, if_false, q8]) ld).trans ((congrArg _ r_tmp).trans rfl)) ?_
      simp only [zbk, Nat.reduceEqDiff, if_true, if_false, retV]
      exact ⟨cs, h7, e1, e2, g7, rfl⟩
end Go.Vm
/- Ranges over slices.Chunk: the iterator, and a document's slices parsed. -/
namespace Go.Vm
variable {P : Program} {Y : Fns} {I : Ids}
def rngK (P : Program) (Y : Fns) (ctx : Ctx) (f : IA) (ps : List Tmp) (a b : IC) (s : S) (Q : X → S → Prop) : Prop := ∀ ca cb, compC P ca = some a → compC P cb = some b → rngCall P Y ctx ps ca cb s Q (ia s.F f) (rngStart ctx.rnd s)
theorem s_rng {ctx : Ctx} {s : S} {Q : X → S → Prop} (f : IA) (ps : List Tmp) (a b : IC) : IXW P Y ctx (.rng f ps a b) s Q = rngK P Y ctx f ps a b s Q := _root_.id rfl
theorem rs_none {F : Frm} {ds : List Dfr} {md : Option Md} {h : Hp} : rngStart none ⟨F, ds, md, h⟩ = some (h.next, Dfr.mark h.next :: ds, h.new (.deferred true)) := _root_.id rfl
theorem rc_func {ctx : Ctx} {ps : List Tmp} {ca cb : Code} {s : S} {Q : X → S → Prop} (g : FuncId) (first caps : List V) (d : Nat) (ds : List Dfr) (h1 : Hp) :
    rngCall P Y ctx ps ca cb s Q (.func g first caps) (some (d, ds, h1)) = (((P.funcs[g]?).bind (·.body)).isSome = true ∧
        CW P Y g (first ++ [.yield h1.next] ++ caps) none (h1.new (.loop { state := .ready, pending := none, fn := ctx.fn, F := s.F, params := ps.map Pos.of, assign := ca, body := cb, defers := d })) (rngEnd P Y ctx s ds h1.next Q)) := _root_.id rfl
theorem rngEnd_ret {ctx : Ctx} {s : S} {ds : List Dfr} {l : Nat} {Q : X → S → Prop} {v : V} {m : Option Md} {h3 : Hp} {r : Lp} (hl : h3.get l = some (.loop r)) (hs : r.state = .ready) (hp : r.pending = none) (hq : Q .normal { s with ds, h := h3.put l (.loop { r with state := .exhausted }) }) :
    rngEnd P Y ctx s ds l Q (.ret v m h3) := by
  unfold rngEnd
  dsimp only
  rw [hl]
  obtain ⟨st, pe, fn, F, ps, ca, cb, d⟩ := r
  dsimp only at hs hp hq ⊢
  subst hs hp
  exact ⟨rfl, hq⟩
theorem isSome_of {f nt : Nat} {res : List ResultVar} {ic : IC} (H : FnIs P Y f nt res ic) : ((P.funcs[f]?).bind (·.body)).isSome = true := by
  obtain ⟨fn, c, e1, e2, _⟩ := H.is
  rw [e1, Option.bind_some, e2]
  rfl
theorem setPs_one (d : Nat) (v : V) (F : Frm) : setPs [Pos.of d] [v] F = setO (some d) v F := _root_.id rfl
def mxV (h : Hp) (b : Bool) (l : List V) : OR := orVal h (maxV b l)
theorem v_mx {F : Frm} {h : Hp} (b : Bool) (xs : List IA) : iV P F h (.mx b xs) = mxV h b (xs.map (ia F)) := _root_.id rfl
theorem mx_min {h : Hp} (a b : Int) : mxV h false [.int .i64 a, .int .i64 b] = .val (.int .i64 (if b < a then b else a)) h := _root_.id rfl
theorem mkChunk_ok (H : FnIs P Y (I.f 702) 9 [.tmp 4] (c702 I)) {h : Hp} {v : V} (hv : v.cells.all V.isCell = true) (hc : v.cells = [v]) :
    CW P Y (I.f 702) [v, .int .i64 32] none h (fun q => q = .ret (.func (I.f 794) [] [.ptr (some (h.next, 0)), .ptr (some (h.next + 1, 0))]) none ((h.new (newBlk [v] (I.t 69))).new (newBlk [.int .i64 32] (I.t 3)))) := by
  refine CW_ic H (Nat.le_of_ble_eq_true rfl) ?_
  unfold c702
  have d1 : decide ((32 : Int) < 1) = false := rfl
  have hv' : v.isCell = true := by rw [hc] at hv; simpa using hv
  have o1 := Own.of_new h [v] (I.t 69)
  have n1 : (h.new (newBlk [v] (I.t 69))).next = h.next + 1 := rfl
  generalize hh1 : h.new (newBlk [v] (I.t 69)) = h1 at o1 n1
  have o2 := Own.of_new h1 [.int .i64 32] (I.t 3)
  rw [n1] at o2
  generalize hh2 : h1.new (newBlk [.int .i64 32] (I.t 3)) = h2 at o2
  have l3 : load1 h2 (h.next + 1) 0 = some (.int .i64 32) := by rw [o2.load1]; rfl
  simp only [zaa, zab, zac, zae, zah, zai, zaj, zak, zal, zam, zap, zaq, zax, zay, zbi, zbk, List.map_cons, List.map_nil, zbl, zbm, Nat.reduceEqDiff, Nat.reduceAdd, zbp, zby, zck, List.all_cons, List.all_nil, Bool.and_self, Nat.zero_add, r_1, a_t, a_v, zdo, zdp, zdt, zea, zef, zeg, zen, if_true, if_false, List.all_cons, List.all_nil, hc, hv', d1, n1, hh1, hh2, l3]
/-- slices.Chunk's iterator: whole chunks. -/
theorem chunkIt_ok (H : FnIs P Y (I.f 794) 31 [] (c794 I)) {h : Hp} {l b1 b2 bn o M : Nat} {c : Cap} (Inv : Nat → Hp → Prop) (h0 : Inv 0 h) (hM : M * 32 ≤ 65536)
    (hf : ∀ i h', Inv i h' → load1 h' b1 0 = some (.slice (some (bn, o)) (M * 32) c) ∧ load1 h' b2 0 = some (.int .i64 32))
    (hr : ∀ i h', i < M → Inv i h' → RW P Y l [.slice (some (bn, o + i * 32)) 32 (.ex 32)] h' (fun r => ∃ h'', Inv (i + 1) h'' ∧ r = .ret (.bool true) none h'')) :
    CW P Y (I.f 794) [.yield l, .ptr (some (b1, 0)), .ptr (some (b2, 0))] none h (fun r => ∃ h', Inv M h' ∧ r = .ret (.tuple []) none h') := by
  refine CW_ic H (Nat.le_of_ble_eq_true rfl) ?_
  unfold c794
  simp only [zaa, zac, zaf, zai, zaj, zak, zal, zam, zaq, zax, zay, zbi, zbl, zbm, Nat.reduceAdd, Nat.zero_add, a_v, zdp]
  refine s_loop (fun kk st => ∃ (i : Nat) (F : Frm) (h' : Hp), kk + i = M ∧ st = ⟨F, [], none, h'⟩ ∧ gt F 0 = .yield l ∧ gt F 1 = .ptr (some (b1, 0)) ∧ gt F 2 = .ptr (some (b2, 0)) ∧ gt F 4 = .int .i64 ((i * 32 : Nat) : Int) ∧ Inv i h') M
    ⟨0, _, h, by omega, rfl, by simp only [zbk, Nat.reduceEqDiff, if_true, if_false], by simp only [zbk, Nat.reduceEqDiff, if_true, if_false], by simp only [zbk, Nat.reduceEqDiff, if_true, if_false], by simp only [zbk, Nat.reduceEqDiff, Nat.zero_mul, if_true, if_false]; rfl, h0⟩ ?_
  rintro kk _ ⟨i, F, h', hkk, rfl, q0, q1, q2, q4, hi⟩
  obtain ⟨l1, l2⟩ := hf i h' hi
  by_cases him : i < M
  · have d1 : decide (((i * 32 : Nat) : Int) < ((M * 32 : Nat) : Int)) = true := decide_eq_true (by omega)
    have d2 : decide (i * 32 ≤ M * 32) = true := decide_eq_true (by omega)
    have d3 : decide (M * 32 ≤ M * 32) = true := decide_eq_true (by omega)
    have e1 : (if (((M * 32 - i * 32 : Nat) : Int)) < 32 then (((M * 32 - i * 32 : Nat) : Int)) else 32) = 32 := if_neg (by omega)
    have w1 : IntKind.i64.wrap (((i * 32 : Nat) : Int) + 32) = (((i + 1) * 32 : Nat) : Int) := by rw [wrap_i64 (by omega) (by omega)]; omega
    have d4 : decide (i * 32 ≤ (i + 1) * 32) = true := decide_eq_true (by omega)
    have d5 : decide ((i + 1) * 32 ≤ (i + 1) * 32) = true := decide_eq_true (by omega)
    have d6 : decide ((i + 1) * 32 ≤ M * 32) = true := decide_eq_true (by omega)
    have s1 : (i + 1) * 32 - i * 32 = 32 := by omega
    simp only [zaa, zab, zac, zad, zae, zaf, zai, zaj, zak, zal, zam, zao, zaq, zat, zax, zay, zbg, zbi, zbk, List.map_cons, List.map_nil, Nat.reduceEqDiff, Option.map_some, zch, zck, Bool.and_self, Nat.mul_one, zdj, Option.getD_none, Option.getD_some, Option.isSome_some, Option.isSome_none, Bool.or_false, Bool.false_and, a_t, zdo, zdp, zdt, zef, zeg, zeo, zep, zeu, zew, zfa, zfb, zfc, zfd, zfe, if_true, if_false, q0, q1, q2, q4, l1, l2, d1, d2, d3, v_mx, mx_min, e1, w1, d4, d5, d6, s1]
    refine (hr i h' him hi).mono fun r hr2 => ?_
    obtain ⟨h'', hi2, hr2⟩ := hr2
    obtain ⟨m1, m2⟩ := hf (i + 1) h'' hi2
    simp only [hr2, zab, zac, zae, zai, zaj, zak, zal, zam, zap, zaq, zav, zax, zay, zbc, zbi, zbk, Nat.reduceEqDiff, zch, zcp, Bool.not_true, a_t, zdo, zdp, zdt, zdw, zef, zeg, if_true, if_false, q4, q2, m2, w1]
    exact ⟨kk - 1, by omega, i + 1, _, h'', by omega, rfl, by simp only [zbk, Nat.reduceEqDiff, if_false, q0], by simp only [zbk, Nat.reduceEqDiff, if_false, q1], by simp only [zbk, Nat.reduceEqDiff, if_false, q2], by simp only [zbk, Nat.reduceEqDiff, if_true, if_false], hi2⟩
  · obtain rfl : i = M := by omega
    have d1 : decide (((i * 32 : Nat) : Int) < ((i * 32 : Nat) : Int)) = false := decide_eq_false (by omega)
    simp only [zaa, zac, zae, zag, zai, zaj, zak, zal, zam, zap, zaq, zax, zay, zba, zbe, zbi, zbk, Nat.reduceEqDiff, zck, n_0, a_t, zdo, zdp, zdt, zef, zeg, zeo, zep, if_true, if_false, q1, q4, l1, d1]
    exact ⟨h', hi, rfl⟩
theorem ints_rw {h : Hp} {a : Option (Nat × Nat)} {l : List Int} (hI : Ints h a l) : Rw h 1 a (l.map fun n => [n]) := by
  unfold Rw
  rw [List.map_map]
  exact hI
theorem rw_ints {h : Hp} {a : Option (Nat × Nat)} {l : List Int} (hI : Rw h 1 a (l.map fun n => [n])) : Ints h a l := by
  unfold Rw at hI
  rw [List.map_map] at hI
  exact hI
theorem clone_ints (H : FnIs P Y (I.f 352) 8 [.tmp 2] (c352 I)) (T : RowT P 1 (I.t 3) 8 [V.int .i64 0] []) {h : Hp} {a : Option (Nat × Nat)} {c : Cap} {l : List Int} (hI : Ints h a l) {n : Nat} (hn : n = l.length) (h0 : n ≠ 0) (hb : 2 * n * 8 ≤ 281474976710656) :
    CW P Y (I.f 352) [.slice a n c] none h (fun q => ∃ b c' h', Grow h h' ∧ h.next ≤ b ∧ b < h'.next ∧ Ints h' (some (b, 0)) l ∧ q = .ret (.slice (some (b, 0)) n c') none h') := by
  have H' : FnIs P Y (I.f 352) 8 [.tmp 2] (gClone 1 (I.t 3)) := H
  refine (gClone_ok H' T (ints_rw hI) (by simpa using hn) hb (by omega)).mono fun q hq => ?_
  obtain ⟨a', c', h', g, hm, hq⟩ := hq
  have hr := rw_ints (hm.rw (by omega) fun r hr => by
    obtain ⟨x, _, rfl⟩ := List.mem_map.1 hr
    rfl)
  rcases hm.is with ⟨rfl, hf⟩ | ⟨ex, b, rfl, h1, h2⟩
  · have h3 : (fl (l.map fun n => [n])).length = (l.map fun n => [n]).length * 1 := fl_len fun r hr => by
      obtain ⟨x, _, rfl⟩ := List.mem_map.1 hr
      rfl
    rw [hf] at h3
    simp at h3
    omega
  · exact ⟨b, c', h', g, h1, h2.low, hr, hq⟩
end Go.Vm
