/- Rules and grammars that were lent are still as they were; a grammar lent. -/
import Derived.Test.YthebkalnpmkkpaaGreatDoorWpL2
set_option linter.unusedVariables false
set_option linter.unusedSimpArgs false
namespace Go.Vm
variable {P : Program} {Y : Fns} {I : Ids}
theorem eq_ints (l : List Int) : ∀ v ∈ l.map iv, eqK 1 v v = some true := fun v hv => by
  obtain ⟨x, _, rfl⟩ := List.mem_map.1 hv
  simp [eqK]
theorem eq_strs (l : List (List UInt8)) : ∀ v ∈ l.map V.str, eqK 2 v v = some true := fun v hv => by
  obtain ⟨x, _, rfl⟩ := List.mem_map.1 hv
  simp [eqK]
set_option maxHeartbeats 2000000 in
theorem keptRules_ok (H : FnIs P Y (I.f 274) 55 [.tmp 4] (c274 I)) (HK : FnIs P Y (I.f 111) 20 [.tmp 4] (c111 I)) (HQ : FnIs P Y (I.f 118) 26 [.tmp 4] (c118 I)) {h : Hp} {a : Option (Nat × Nat)} {c : Cap} {v : V} {rs : List GRule} {nn : Nat} (hl : LentR nn I h v rs) (hm : Rules h a rs) {n : Nat} (hn : n = rs.length)
    (hb : rs.length < 9223372036854775807) (hr : ∀ r ∈ rs, r.right.length < 9223372036854775807) :
    CW P Y (I.f 274) [v, .slice a n c] none h (fun q => q = .ret (.bool true) none h) := by
  subst hn
  refine CW_ic H (Nat.le_of_ble_eq_true rfl) ?_
  have HK' : FnIs P Y (I.f 111) 20 [.tmp 4] (gK1 (I.t 3) (I.f 118) 1 mkI) := HK
  have HQ' : FnIs P Y (I.f 118) 26 [.tmp 4] (gE1 1) := HQ
  obtain ⟨b, rows, rfl, hget, _, hlow, hrl, hw2, hall⟩ := hl
  have sl : Sl h 2 (some (b, 0)) rows := ⟨hw2, .inr ⟨b, 0, rfl, at_amb hget hlow⟩⟩
  have hfl : rows.flatten.length = rs.length * 2 := by
    rw [← hrl]
    clear hget sl hall hrl
    induction rows with
    | nil => rfl
    | cons r rows ih =>
      have h1 := hw2 r List.mem_cons_self
      have h2 := ih fun x hx => hw2 x (List.mem_cons_of_mem _ hx)
      simp only [List.flatten_cons, List.length_append, h1, h2, List.length_cons]
      omega
  have hcap : capI h (some (b, 0)) (I.t 101) 2 (.tl 0) = rs.length + 1 := by
    unfold capI
    simp only [hget, ambB]
    rw [if_pos (by simp), List.length_append, hfl]
    simp
  have hmk : load1 h b (rs.length * 2) = some mkI := by
    unfold load1
    rw [hget]
    simp only [ambB]
    rw [List.getElem?_append_right (by omega), hfl, Nat.sub_self]
    rfl
  have w1 : IntKind.i64.wrap ((rs.length : Int) + 1) = ((rs.length + 1 : Nat) : Int) := by rw [wrap_i64 (by omega) (by omega)]; rfl
  have e0 : ((rs.length : Int) == (rs.length : Int)) = true := bq_eq rfl
  have e1 : decide (0 ≤ rs.length + 1) = true := by simp
  have e2 : decide (rs.length + 1 ≤ rs.length) = false := by simp
  have e3 : decide (rs.length + 1 ≤ rs.length + 1) = true := by simp
  have e5 : decide (rs.length ≤ rs.length) = true := by simp
  have e4 : decide ((rs.length : Int) < ((rs.length + 1 : Nat) : Int)) = true := decide_eq_true (by omega)
  have e6 : ((-7171 : Int) == -7171) = true := rfl
  unfold c274
  simp only [zaa, zab, zac, zae, zaf, zai, zaj, zak, zal, zam, zap, zaq, zax, zay, zbi, zbk, zbl, zbm, Nat.reduceEqDiff, Option.map_some, Nat.reduceAdd, zbn, zch, zcq, zct, Bool.and_self, Bool.not_true, Nat.zero_add, Nat.add_zero, zdb, zdc, zdd, Nat.zero_mul, Int.toNat_natCast, zdh, zdj, zdm, Option.getD_none, Option.getD_some, Nat.zero_le, decide_true, Nat.sub_zero, Option.isSome_some, Bool.or_true, a_t, a_v, zdo, zdp, zdq, zds, zdt, zdu, zeb, zec, zed, zee, zef, zeg, zeo, zep, zez, zfa, zfc, zfd, if_true, if_false, Nat.reduceLeDiff, e0, w1, e2, e4, e5, hcap, hmk, e6]
  refine s_loop (fun j st => ∃ (i : Nat) (F : Frm), j + i = rs.length ∧ st = ⟨F, [], none, h⟩ ∧ gt F 0 = .slice (some (b, 0)) rs.length (.tl 0) ∧ gt F 1 = .slice a rs.length c ∧ gt F 5 = .int .i64 i) rs.length
    ⟨0, _, rfl, rfl, by simp only [zbk, Nat.reduceEqDiff, if_true, if_false], by simp only [zbk, Nat.reduceEqDiff, if_true, if_false], by simp only [zbk, Nat.reduceEqDiff, if_true, if_false]; rfl⟩ ?_
  rintro j _ ⟨i, F, hk, rfl, q0, q1, q5⟩
  by_cases hi : i < rs.length
  · have d1 : decide ((i : Int) < (rs.length : Int)) = true := decide_eq_true (by omega)
    have w2 : IntKind.i64.wrap ((i : Int) + 1) = ((i + 1 : Nat) : Int) := by rw [wrap_i64 (by omega) (by omega)]; rfl
    obtain ⟨w, hrow, hW⟩ := hall i rs[i] (List.getElem?_eq_getElem hi)
    obtain ⟨b1, o1, e, hat⟩ := sl.at (i := i) (by omega)
    cases e
    have hri : rows[i]'(by omega) = [.int .i64 rs[i].left, w] := by
      rw [List.getElem?_eq_getElem (by omega)] at hrow
      exact Option.some.inj hrow
    rw [hri] at hat
    have x1 := hat.load1 (i := 0) (by simp)
    have x2 := hat.load1 (i := 1) (by simp)
    simp only [List.getElem_cons_succ, List.getElem_cons_zero, Nat.add_zero, Nat.zero_add] at x1 x2
    obtain ⟨b2, o2, a', c', rfl, hat2, hin⟩ := hm.get hi
    have y1 := hat2.load1 (i := 0) (by simp)
    have y2 := hat2.load1 (i := 1) (by simp)
    simp only [List.getElem_cons_succ, List.getElem_cons_zero, Nat.add_zero, zbn] at y1 y2
    have e7 : (rs[i].left == rs[i].left) = true := bq_eq rfl
    simp only [zaa, zab, zac, zad, zae, zaf, zai, zaj, zak, zal, zam, zao, zaq, zas, zax, zay, zbi, zbk, List.map_cons, List.map_nil, Nat.reduceEqDiff, Option.map_some, zck, zcq, zct, Bool.and_self, Bool.not_true, Nat.zero_add, Nat.add_zero, zdb, zdc, zdd, Int.toNat_natCast, zdh, a_t, zdo, zdp, zdt, zdu, zeb, zec, zed, zee, zef, zeg, zeo, zep, zes, if_true, if_false, q0, q1, q5, d1, x1, x2, y1, y2, e7]
    refine (gK1_ok HK' HQ' hW hin.cl (eq_ints _) rfl (n := rs[i].right.length) (by simp) (by simpa using hr rs[i] (List.getElem_mem hi))).mono fun r hr0 => ?_
    simp only [hr0, zab, zac, zae, zai, zaj, zak, zal, zam, zap, zaq, zav, zax, zay, zbc, zbg, zbi, zbk, Nat.reduceEqDiff, zch, zcp, Bool.not_true, zdb, zdc, zdd, a_t, a_v, zdo, zdp, zdq, zds, zdt, zdw, if_true, if_false, q5, w2]
    exact ⟨j - 1, by omega, i + 1, _, by omega, rfl, by simp only [zbk, Nat.reduceEqDiff, if_false, q0], by simp only [zbk, Nat.reduceEqDiff, if_false, q1], by simp only [zbk, Nat.reduceEqDiff, if_true, if_false]⟩
  · have d1 : decide ((i : Int) < (rs.length : Int)) = false := decide_eq_false (by omega)
    simp only [zaa, zac, zae, zag, zah, zai, zaj, zak, zal, zam, zap, zaq, zax, zay, zba, zbe, zbi, zbk, Nat.reduceEqDiff, zck, r_1, a_t, a_v, zdo, zdp, zdt, zeo, zep, if_true, if_false, q0, q5, d1]
theorem LentC.put {n c : Nat} {h : Hp} {v : V} {vs : List V} {mk : V} {e : Nat} (s : LentC n h v vs mk e) (hc : c < n) (ob : Ob) : LentC n (h.put c ob) v vs mk e := by
  obtain ⟨b, h1, h2, h3, h4⟩ := s
  exact ⟨b, h1, (get_put_ne ob (by omega)).trans h2, h3, h4⟩
theorem LentR.put {n c : Nat} {h : Hp} {v : V} {rs : List GRule} (s : LentR n I h v rs) (hc : c < n) (ob : Ob) : LentR n I (h.put c ob) v rs := by
  obtain ⟨b, rows, h1, h2, h3, h4, h5, h6, h7⟩ := s
  refine ⟨b, rows, h1, (get_put_ne ob (by omega)).trans h2, h3, h4, h5, h6, fun i r hr => ?_⟩
  obtain ⟨w, k1, k2⟩ := h7 i r hr
  exact ⟨w, k1, k2.put hc ob⟩
/-- A grammar that was lent. -/
structure GramL (n : Nat) (I : Ids) (h : Hp) (cs : List V) (g : Gram) : Prop where
  is : ∃ v1 v2 v3, cs = [v1, v2, .int .i64 g.axi, v3] ∧ LentC n h v1 (g.terms.map V.str) (.str [109, 97, 114, 107]) (I.t 9) ∧ LentC n h v2 (g.nonterms.map V.str) (.str [109, 97, 114, 107]) (I.t 9) ∧ LentR n I h v3 g.rules
theorem GramL.grow {n : Nat} {h h' : Hp} {cs : List V} {g : Gram} (s : GramL n I h cs g) (k : Grow h h') : GramL n I h' cs g := by
  obtain ⟨v1, v2, v3, h1, h2, h3, h4⟩ := s
  exact ⟨v1, v2, v3, h1, h2.grow k, h3.grow k, h4.grow k⟩
theorem LentR.rules {n : Nat} {h : Hp} {v : V} {rs : List GRule} (s : LentR n I h v rs) : ∃ a c, v = .slice a rs.length c ∧ Rules h a rs := by
  obtain ⟨b, rows, h1, h2, h3, h4, h5, h6, h7⟩ := s
  refine ⟨some (b, 0), .tl 0, h1, ⟨rows, ⟨h6, .inr ⟨b, 0, rfl, at_amb h2 h4⟩⟩, h5, fun i row r e1 e2 => ?_⟩⟩
  obtain ⟨w, k1, k2⟩ := h7 i r e2
  rw [e1] at k1
  cases k1
  obtain ⟨b', rfl, hc⟩ := k2.cl
  exact ⟨some (b', 0), .tl 0, by simp, hc.ints⟩
theorem GramL.gram {n : Nat} {h : Hp} {cs : List V} {g : Gram} (s : GramL n I h cs g) : GramC h cs g := by
  obtain ⟨v1, v2, v3, h1, h2, h3, h4⟩ := s
  obtain ⟨b1, rfl, c1⟩ := h2.cl
  obtain ⟨b2, rfl, c2⟩ := h3.cl
  obtain ⟨a3, c3, rfl, k3⟩ := h4.rules
  exact ⟨some (b1, 0), .tl 0, some (b2, 0), .tl 0, a3, c3, by rw [h1]; simp, c1.strs, c2.strs, k3⟩
theorem all_str (l : List (List UInt8)) : (l.map V.str).all V.isCell = true := by simp [V.isCell]
set_option maxHeartbeats 2000000 in
theorem lentGram_ok (H : FnIs P Y (I.f 65) 15 [.cell 2 (I.t 33)] (c65 I)) (HS : FnIs P Y (I.f 260) 14 [.tmp 2] (c260 I)) (HI : FnIs P Y (I.f 108) 14 [.tmp 2] (c108 I)) (HR : FnIs P Y (I.f 261) 36 [.tmp 2] (c261 I)) (T3 : TyIs P (I.t 3) 1 8 [.int .i64 0]) (T9 : TyIs P (I.t 9) 1 16 [.str []]) (T101 : TyIs P (I.t 101) 2 32 [.int .i64 0, nilS])
    (ag : isAggT P (I.t 33) = true) (sz : sizeT P (I.t 33) = 4) {h : Hp} {cs : List V} {g : Gram} (hg : GramC h cs g) (hb1 : 2 * (g.terms.length + 1) * 16 ≤ 281474976710656) (hb2 : 2 * (g.nonterms.length + 1) * 16 ≤ 281474976710656) (hb3 : 2 * (g.rules.length + 1) * 32 ≤ 281474976710656) (hr : ∀ r ∈ g.rules, 2 * (r.right.length + 1) * 8 ≤ 281474976710656) :
    CW P Y (I.f 65) [.agg cs] none h (fun q => ∃ ds h', Grow h h' ∧ GramL h.next I h' ds g ∧ q = .ret (.agg ds) none h') := by
  refine CW_ic H (Nat.le_of_ble_eq_true rfl) ?_
  have HS' : FnIs P Y (I.f 260) 14 [.tmp 2] (gL1 (I.t 9) (.str []) (.str [109, 97, 114, 107])) := HS
  obtain ⟨ta, tc, na, nc, ra, rc, rfl, ht, hn, hR⟩ := hg
  have t1 : g.terms.length + 1 ≤ 4611686018427387904 := by omega
  have t2 : g.nonterms.length + 1 ≤ 4611686018427387904 := by omega
  unfold c65
  have g1 := Grow.new h (newBlk [.slice ta g.terms.length tc, .slice na g.nonterms.length nc, .int .i64 g.axi, .slice ra g.rules.length rc] (I.t 33))
  have o1 := Own.of_new h [.slice ta g.terms.length tc, .slice na g.nonterms.length nc, .int .i64 g.axi, .slice ra g.rules.length rc] (I.t 33)
  generalize hh1 : h.new (newBlk [.slice ta g.terms.length tc, .slice na g.nonterms.length nc, .int .i64 g.axi, .slice ra g.rules.length rc] (I.t 33)) = h1 at g1 o1
  have g2 := Grow.new h1 (newBlk [nilS, nilS, .int .i64 0, nilS] (I.t 33))
  have oz := Own.of_new h1 [nilS, nilS, .int .i64 0, nilS] (I.t 33)
  generalize hh2 : h1.new (newBlk [nilS, nilS, .int .i64 0, nilS] (I.t 33)) = h2 at g2 oz
  have o2 := o1.grow g2
  have k1 := g1.next
  have k2 := g2.next
  have p2 : decide (h.next < h2.next) = true := decide_eq_true o2.low
  simp only [zaa, zac, zai, zaj, zak, zal, zam, zaq, zas, zax, zay, zbi, zbk, List.map_cons, List.map_nil, zbl, zbm, Nat.reduceEqDiff, Nat.reduceAdd, zbn, zbo, zby, zcc, List.all_cons, List.all_nil, Bool.and_self, List.getElem?_cons_zero, Nat.zero_add, Nat.add_zero, a_t, zdo, zeb, zec, zef, zeg, zem, zen, zes, if_true, if_false, zfk, zfm, zfn, zfp, zfq, zfr, zfu, zfv, true_and, List.all_cons, List.all_nil, hh1, hh2, o2.load1]
  refine (gL1_ok HS' T9 rfl rfl (ht.grow (g1.trans g2)).cl (all_str _) (n := g.terms.length) (by simp) hb1 t1).mono fun r3 hr3 => ?_
  obtain ⟨v1, h3, g3, L1, hr3⟩ := hr3
  have o3 := o2.grow g3
  simp only [hr3, zaq, zas, zav, zax, zbi, zbk, List.map_cons, List.map_nil, Nat.reduceEqDiff, Nat.reduceAdd, List.all_cons, List.all_nil, Bool.and_self, List.getElem?_cons_zero, List.getElem?_cons_succ, Nat.zero_add, a_t, zdo, zeb, zec, zef, zeg, zes, if_true, if_false, zfm, zfn, zfp, zfq, zfr, zft, zfu, zfv, zfw, zfx, zga, zge, zgf, zgg, zgi, zgj, zgk, Nat.reduceBEq, true_and, and_true, List.all_cons, List.all_nil, o2.load1, o3.load1, p2]
  refine (gL1_ok HS' T9 rfl rfl (hn.grow ((g1.trans g2).trans g3)).cl (all_str _) (n := g.nonterms.length) (by simp) hb2 t2).mono fun r4 hr4 => ?_
  obtain ⟨v2, h4, g4, L2, hr4⟩ := hr4
  have o4 := o3.grow g4
  have p3 : decide (h.next < h3.next) = true := decide_eq_true o3.low
  simp only [hr4, zaq, zas, zav, zax, zbi, zbk, List.map_cons, List.map_nil, Nat.reduceEqDiff, Nat.reduceAdd, List.all_cons, List.all_nil, Bool.and_self, List.getElem?_cons_zero, List.getElem?_cons_succ, Nat.zero_add, a_t, zdo, zeb, zec, zef, zeg, zes, if_true, if_false, zfm, zfn, zfp, zfq, zfr, zft, zfu, zfv, zfw, zfx, zga, zge, zgf, zgg, zgh, zgi, zgj, zgk, Nat.reduceBEq, true_and, and_true, List.all_cons, List.all_nil, o2.load1, o3.load1, o4.load1, p2, p3]
  refine (lentRules_ok HR HI T3 T101 (hR.grow (((g1.trans g2).trans g3).trans g4)) rfl hb3 hr).mono fun r5 hr5 => ?_
  obtain ⟨v3, h5, g5, L3, hr5⟩ := hr5
  have o5 := o4.grow g5
  have z5 := oz.grow ((g3.trans g4).trans g5)
  obtain ⟨b1, rfl, hc1⟩ := L1.cl
  obtain ⟨b2, rfl, hc2⟩ := L2.cl
  obtain ⟨a3, c3, rfl, k3⟩ := L3.rules
  have L1b := L1.block
  have L2b := L2.block
  have f5 : fillV [nilS, nilS, V.int .i64 0, nilS] [(0, 1, .slice (some (b1, 0)) (g.terms.map V.str).length (.tl 0)), (1, 1, .slice (some (b2, 0)) (g.nonterms.map V.str).length (.tl 0)), (2, 1, .int .i64 g.axi), (3, 1, .slice a3 g.rules.length c3)] = some [.slice (some (b1, 0)) (g.terms.map V.str).length (.tl 0), .slice (some (b2, 0)) (g.nonterms.map V.str).length (.tl 0), .int .i64 g.axi, .slice a3 g.rules.length c3] := rfl
  have s6 := z5.storeL 0 [.slice (some (b1, 0)) (g.terms.map V.str).length (.tl 0), .slice (some (b2, 0)) (g.nonterms.map V.str).length (.tl 0), .int .i64 g.axi, .slice a3 g.rules.length c3] (by simp) (by simp) rfl
  rw [sp4] at s6
  have z6 := z5.put [.slice (some (b1, 0)) (g.terms.map V.str).length (.tl 0), .slice (some (b2, 0)) (g.nonterms.map V.str).length (.tl 0), .int .i64 g.axi, .slice a3 g.rules.length c3]
  have g35 := (g3.trans g4).trans g5
  have kz := oz.low
  have kn3 := g3.next
  have kn4 := g4.next
  have M1 := ((L1.grow (g4.trans g5)).put kz (newBlk [.slice (some (b1, 0)) (g.terms.map V.str).length (.tl 0), .slice (some (b2, 0)) (g.nonterms.map V.str).length (.tl 0), .int .i64 g.axi, .slice a3 g.rules.length c3] (I.t 33))).low (k := h.next) (by omega)
  have M2 := ((L2.grow g5).put (c := h1.next) (by omega) (newBlk [.slice (some (b1, 0)) (g.terms.map V.str).length (.tl 0), .slice (some (b2, 0)) (g.nonterms.map V.str).length (.tl 0), .int .i64 g.axi, .slice a3 g.rules.length c3] (I.t 33))).low (k := h.next) (by omega)
  have M3 := (L3.put (c := h1.next) (by omega) (newBlk [.slice (some (b1, 0)) (g.terms.map V.str).length (.tl 0), .slice (some (b2, 0)) (g.nonterms.map V.str).length (.tl 0), .int .i64 g.axi, .slice a3 g.rules.length c3] (I.t 33))).low (k := h.next) (by omega)
  have G6 := ((g1.trans g2).trans g35).put (b := h1.next) (by omega) (newBlk [.slice (some (b1, 0)) (g.terms.map V.str).length (.tl 0), .slice (some (b2, 0)) (g.nonterms.map V.str).length (.tl 0), .int .i64 g.axi, .slice a3 g.rules.length c3] (I.t 33))
  have ld := z6.loadL 0 4
  simp only [List.length_cons, List.length_nil, Nat.reduceAdd, Nat.reduceLeDiff, if_true, List.drop_zero, List.take_succ_cons, List.take_zero] at ld
  simp only [hr5, zah, zai, zaq, zar, zav, zax, zay, zbi, zbj, zbk, List.map_cons, List.map_nil, Nat.reduceEqDiff, Option.map_some, Nat.reduceAdd, zbo, List.getElem?_cons_zero, List.getElem?_cons_succ, Nat.zero_add, a_t, zdo, zef, zeg, zej, zek, zel, zey, if_true, if_false, List.length_cons, List.length_nil, zfl, zfm, zfn, zfp, zfq, zft, zfx, zfy, zgd, zge, zgf, zgg, zgh, zgi, zgk, Nat.reduceBEq, true_and, and_true, o5.load1, f5, s6]
  refine r_ret ((r_cell ag sz (by simp only [zbk, Nat.reduceEqDiff, if_true, if_false]) ld).trans rfl) ?_
  exact ⟨_, _, G6, ⟨_, _, _, rfl, M1, M2, M3⟩, rfl⟩
set_option maxHeartbeats 2000000 in
theorem keptGram_ok (H : FnIs P Y (I.f 70) 31 [.tmp 4] (c70 I)) (KS : FnIs P Y (I.f 273) 20 [.tmp 4] (c273 I)) (QS : FnIs P Y (I.f 251) 26 [.tmp 4] (c251 I)) (KR : FnIs P Y (I.f 274) 55 [.tmp 4] (c274 I)) (KI : FnIs P Y (I.f 111) 20 [.tmp 4] (c111 I)) (QI : FnIs P Y (I.f 118) 26 [.tmp 4] (c118 I))
    {h : Hp} {cs ds : List V} {g : Gram} {n : Nat} (hg : GramL n I h cs g) (hd : GramC h ds g) (hb1 : g.terms.length < 9223372036854775807) (hb2 : g.nonterms.length < 9223372036854775807) (hb3 : g.rules.length < 9223372036854775807) (hr : ∀ r ∈ g.rules, r.right.length < 9223372036854775807) :
    Gives P Y (I.f 70) [.agg cs, .agg ds] h (.bool true) := by
  refine CW_ic H (Nat.le_of_ble_eq_true rfl) ?_
  have KS' : FnIs P Y (I.f 273) 20 [.tmp 4] (gK1 (I.t 9) (I.f 251) 2 (.str [109, 97, 114, 107])) := KS
  have QS' : FnIs P Y (I.f 251) 26 [.tmp 4] (gE1 2) := QS
  obtain ⟨v1, v2, v3, rfl, L1, L2, L3⟩ := hg
  obtain ⟨ta, tc, na, nc, ra, rc, rfl, ht, hn, hR⟩ := hd
  have L1' := L1
  have L2' := L2
  have L3' := L3
  obtain ⟨b1, rfl, _⟩ := L1'.cl
  obtain ⟨b2, rfl, _⟩ := L2'.cl
  obtain ⟨a3, c3, rfl, _⟩ := L3'.rules
  unfold c70
  have g1 := Grow.new h (newBlk [.slice (some (b1, 0)) (g.terms.map V.str).length (.tl 0), .slice (some (b2, 0)) (g.nonterms.map V.str).length (.tl 0), .int .i64 g.axi, .slice a3 g.rules.length c3] (I.t 33))
  have o1 := Own.of_new h [.slice (some (b1, 0)) (g.terms.map V.str).length (.tl 0), .slice (some (b2, 0)) (g.nonterms.map V.str).length (.tl 0), .int .i64 g.axi, .slice a3 g.rules.length c3] (I.t 33)
  generalize hh1 : h.new (newBlk [.slice (some (b1, 0)) (g.terms.map V.str).length (.tl 0), .slice (some (b2, 0)) (g.nonterms.map V.str).length (.tl 0), .int .i64 g.axi, .slice a3 g.rules.length c3] (I.t 33)) = h1 at g1 o1
  have g2 := Grow.new h1 (newBlk [.slice ta g.terms.length tc, .slice na g.nonterms.length nc, .int .i64 g.axi, .slice ra g.rules.length rc] (I.t 33))
  have o2 := Own.of_new h1 [.slice ta g.terms.length tc, .slice na g.nonterms.length nc, .int .i64 g.axi, .slice ra g.rules.length rc] (I.t 33)
  generalize hh2 : h1.new (newBlk [.slice ta g.terms.length tc, .slice na g.nonterms.length nc, .int .i64 g.axi, .slice ra g.rules.length rc] (I.t 33)) = h2 at g2 o2
  have o1 := o1.grow g2
  have G := g1.trans g2
  have e1 : (g.axi == g.axi) = true := bq_eq rfl
  simp only [zaa, zac, zai, zaj, zak, zal, zam, zaq, zas, zax, zay, zbi, zbk, List.map_cons, List.map_nil, zbl, zbm, Nat.reduceEqDiff, Nat.reduceAdd, zbn, zbo, zby, zcc, List.all_cons, List.all_nil, Bool.and_self, List.getElem?_cons_zero, Nat.zero_add, Nat.add_zero, a_t, a_v, zdo, zdp, zeb, zec, zef, zeg, zen, zes, if_true, if_false, List.all_cons, List.all_nil, hh1, hh2, o1.load1, o2.load1]
  refine (gK1_ok KS' QS' (L1.grow G) (ht.grow G).cl (eq_strs _) rfl (n := g.terms.length) (by simp) (by simpa using hb1)).mono fun r1 hr1 => ?_
  simp only [hr1, zaj, zal, zam, zaq, zas, zav, zax, zbi, zbk, List.map_cons, List.map_nil, Nat.reduceEqDiff, List.getElem?_cons_zero, List.getElem?_cons_succ, Nat.zero_add, zdb, zdc, zdg, a_t, zdo, zdp, zeb, zec, zef, zeg, zes, if_true, if_false, o1.load1, o2.load1]
  refine (gK1_ok KS' QS' (L2.grow G) (hn.grow G).cl (eq_strs _) rfl (n := g.nonterms.length) (by simp) (by simpa using hb2)).mono fun r2 hr2 => ?_
  simp only [hr2, zaj, zal, zam, zaq, zas, zav, zax, zbi, zbk, List.map_cons, List.map_nil, Nat.reduceEqDiff, Option.map_some, zcq, zcu, List.getElem?_cons_zero, List.getElem?_cons_succ, Nat.zero_add, zdb, zdc, zdg, a_t, a_v, zdo, zdp, zdq, zdr, zdu, zeb, zec, zef, zeg, zes, if_true, if_false, o1.load1, o2.load1, e1]
  refine (keptRules_ok KR KI QI (L3.grow G) (hR.grow G) rfl hb3 hr).mono fun r3 hr3 => ?_
  simp only [hr3, zah, zai, zaj, zak, zal, zam, zaq, zav, zax, zay, zbi, zbk, Nat.reduceEqDiff, r_1, a_t, a_v, zdp, zdq, zdr, if_true, if_false]
  exact ⟨h2, G, rfl⟩
end Go.Vm
