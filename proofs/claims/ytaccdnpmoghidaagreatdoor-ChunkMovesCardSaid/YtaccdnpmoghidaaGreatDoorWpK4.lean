/- Pieces: lent, compared, still as they were. -/
import Derived.Test.YtaccdnpmoghidaaGreatDoorWpK3
set_option linter.unusedVariables false
set_option linter.unusedSimpArgs false
namespace Go.Vm
variable {P : Program} {Y : Fns} {I : Ids}
structure Pc where
  fr : Int
  to : Int
  items : List (List Int)
  steps : List (List Int)
  deriving DecidableEq
/-- A piece's cells. -/
structure PcC (h : Hp) (cs : List V) (p : Pc) : Prop where
  is : ∃ ia ic sa sc, cs = [.int .i64 p.fr, .int .i64 p.to, .slice ia p.items.length ic, .slice sa p.steps.length sc] ∧ Rw h 4 ia p.items ∧ Rw h 3 sa p.steps
theorem PcC.grow {h h' : Hp} {cs : List V} {p : Pc} (s : PcC h cs p) (g : Grow h h') : PcC h' cs p := by
  obtain ⟨ia, ic, sa, sc, h1, h2, h3⟩ := s
  exact ⟨ia, ic, sa, sc, h1, h2.grow g, h3.grow g⟩
/-- A piece that was lent. -/
structure PcL (n : Nat) (I : Ids) (h : Hp) (cs : List V) (p : Pc) : Prop where
  is : ∃ v1 v2, cs = [.int .i64 p.fr, .int .i64 p.to, v1, v2] ∧ Lent n h v1 p.items (rv [-71, 0, 0, 0]) (I.t 197) ∧ Lent n h v2 p.steps (rv [-71, 0, 0]) (I.t 163)
theorem PcL.grow {n : Nat} {h h' : Hp} {cs : List V} {p : Pc} (s : PcL n I h cs p) (g : Grow h h') : PcL n I h' cs p := by
  obtain ⟨v1, v2, h1, h2, h3⟩ := s
  exact ⟨v1, v2, h1, h2.grow g, h3.grow g⟩
theorem PcL.pc {n : Nat} {h : Hp} {cs : List V} {p : Pc} (s : PcL n I h cs p) (w1 : ∀ r ∈ p.items, r.length = 4) (w2 : ∀ r ∈ p.steps, r.length = 3) : PcC h cs p := by
  obtain ⟨v1, v2, h1, h2, h3⟩ := s
  obtain ⟨a1, e1, k1⟩ := h2.rw w1
  obtain ⟨a2, e2, k2⟩ := h3.rw w2
  subst e1 e2
  exact ⟨_, _, _, _, h1, k1, k2⟩
abbrev RI (P : Program) (I : Ids) : Prop := RowT P 4 (I.t 197) 32 [iv 0, iv 0, iv 0, iv 0] [0, 0, 0]
abbrev RS (P : Program) (I : Ids) : Prop := RowT P 3 (I.t 163) 24 [iv 0, iv 0, iv 0] [0, 0]
structure PcT (P : Program) (I : Ids) : Prop where
  agg : isAggT P (I.t 177) = true
  size : sizeT P (I.t 177) = 4
  ri : RI P I
  rs : RS P I
theorem sp2 (a b c d x : V) : splice [a, b, c, d] 2 [x] = [a, b, x, d] := rfl
theorem sp3 (a b c d x : V) : splice [a, b, c, d] 3 [x] = [a, b, c, x] := rfl
theorem sp4 (a b c d x y z u : V) : splice [a, b, c, d] 0 [x, y, z, u] = [x, y, z, u] := rfl
theorem lentPiece_ok (H : FnIs P Y (I.f 161) 12 [.cell 2 (I.t 177)] (c161 I)) (HI : FnIs P Y (I.f 389) 15 [.tmp 2] (c389 I)) (HS : FnIs P Y (I.f 66) 15 [.tmp 2] (c66 I)) (T : PcT P I)
    {h : Hp} {cs : List V} {p : Pc} (hp : PcC h cs p) (hb1 : 2 * (p.items.length + 1) * 32 ≤ 281474976710656) (hb2 : 2 * (p.steps.length + 1) * 24 ≤ 281474976710656) :
    CW P Y (I.f 161) [.agg cs] none h (fun q => ∃ ds h', Grow h h' ∧ PcL h.next I h' ds p ∧ q = .ret (.agg ds) none h') := by
  refine CW_ic H (Nat.le_of_ble_eq_true rfl) ?_
  obtain ⟨ia, ic, sa, sc, rfl, hI, hS⟩ := hp
  unfold c161
  have HI' : FnIs P Y (I.f 389) 15 [.tmp 2] (gLent 4 (I.t 197) [iv 0, iv 0, iv 0, iv 0]) := HI
  have HS' : FnIs P Y (I.f 66) 15 [.tmp 2] (gLent 3 (I.t 163) [iv 0, iv 0, iv 0]) := HS
  have g1 := Grow.new h (newBlk [.int .i64 p.fr, .int .i64 p.to, .slice ia p.items.length ic, .slice sa p.steps.length sc] (I.t 177))
  have o1 := Own.of_new h [.int .i64 p.fr, .int .i64 p.to, .slice ia p.items.length ic, .slice sa p.steps.length sc] (I.t 177)
  have hn1 : (h.new (newBlk [.int .i64 p.fr, .int .i64 p.to, .slice ia p.items.length ic, .slice sa p.steps.length sc] (I.t 177))).next = h.next + 1 := rfl
  generalize hh1 : h.new (newBlk [.int .i64 p.fr, .int .i64 p.to, .slice ia p.items.length ic, .slice sa p.steps.length sc] (I.t 177)) = h1 at g1 o1 hn1
  have g2 := Grow.new h1 (newBlk [.int .i64 0, .int .i64 0, .slice none 0 (.ex 0), .slice none 0 (.ex 0)] (I.t 177))
  have o2 := Own.of_new h1 [.int .i64 0, .int .i64 0, .slice none 0 (.ex 0), .slice none 0 (.ex 0)] (I.t 177)
  have hn2 : (h1.new (newBlk [.int .i64 0, .int .i64 0, .slice none 0 (.ex 0), .slice none 0 (.ex 0)] (I.t 177))).next = h1.next + 1 := rfl
  generalize hh2 : h1.new (newBlk [.int .i64 0, .int .i64 0, .slice none 0 (.ex 0), .slice none 0 (.ex 0)] (I.t 177)) = h2 at g2 o2 hn2
  have o1 := o1.grow g2
  simp only [zaa, zac, zai, zaj, zak, zal, zam, zaq, zas, zax, zay, zbi, zbk, List.map_cons, List.map_nil, zbl, zbm, Nat.reduceEqDiff, zbo, zby, zcc, List.all_cons, List.all_nil, Bool.and_self, List.getElem?_cons_zero, List.getElem?_cons_succ, Nat.zero_add, a_t, zdo, zeb, zec, zef, zeg, zem, zen, zes, if_true, if_false, List.all_cons, List.all_nil, hh1, hh2, o1.load1]
  refine (gLent_ok HI' T.ri (hI.grow (g1.trans g2)) rfl hb1 (by omega)).mono ?_
  rintro _ ⟨v1, h3, g3, l1, rfl⟩
  obtain ⟨b1, rfl, hg1, hb1', hlt1⟩ := l1.is
  have o1 := o1.grow g3
  have o2 := o2.grow g3
  have s3 := o1.storeL 2 [.slice (some (b1, 0)) p.items.length (.tl 0)] (by simp) (by simp) rfl
  rw [sp2] at s3
  have l1 := l1.put (c := h.next) (by omega) (newBlk [.int .i64 p.fr, .int .i64 p.to, .slice (some (b1, 0)) p.items.length (.tl 0), .slice sa p.steps.length sc] (I.t 177))
  have o2 := o2.put_ne (b := h.next) (newBlk [.int .i64 p.fr, .int .i64 p.to, .slice (some (b1, 0)) p.items.length (.tl 0), .slice sa p.steps.length sc] (I.t 177)) (by omega)
  have o1 := o1.put [.int .i64 p.fr, .int .i64 p.to, .slice (some (b1, 0)) p.items.length (.tl 0), .slice sa p.steps.length sc]
  have g4 := ((g1.trans g2).trans g3).put (Nat.le_refl _) (newBlk [.int .i64 p.fr, .int .i64 p.to, .slice (some (b1, 0)) p.items.length (.tl 0), .slice sa p.steps.length sc] (I.t 177))
  have hn4 := g3.next
  simp only [zaa, zac, zai, zaj, zak, zal, zam, zaq, zar, zav, zax, zay, zbi, zbj, zbk, Nat.reduceEqDiff, zbt, Nat.zero_add, a_t, zeb, zec, zef, zeg, zej, zek, zel, if_true, if_false, List.length_cons, List.length_nil, s3]
  generalize h3.put h.next (newBlk [.int .i64 p.fr, .int .i64 p.to, .slice (some (b1, 0)) p.items.length (.tl 0), .slice sa p.steps.length sc] (I.t 177)) = h4 at *
  simp only [zaj, zal, zam, zaq, zas, zax, zbi, zbk, List.map_cons, List.map_nil, Nat.reduceEqDiff, List.getElem?_cons_zero, List.getElem?_cons_succ, a_t, zdo, zes, if_true, if_false, o1.load1]
  refine (gLent_ok HS' T.rs (hS.grow g4) rfl hb2 (by omega)).mono ?_
  rintro _ ⟨v2, h5, g5, l2, rfl⟩
  obtain ⟨b2, rfl, hg2, hb2', hlt2⟩ := l2.is
  have n4 : h2.next ≤ h4.next := by have := o2.low; have := o1.low; omega
  have o1 := o1.grow g5
  have o2 := o2.grow g5
  have l1 := l1.grow g5
  have s5 := o1.storeL 3 [.slice (some (b2, 0)) p.steps.length (.tl 0)] (by simp) (by simp) rfl
  rw [sp3] at s5
  have l1 := l1.put (c := h.next) (by omega) (newBlk [.int .i64 p.fr, .int .i64 p.to, .slice (some (b1, 0)) p.items.length (.tl 0), .slice (some (b2, 0)) p.steps.length (.tl 0)] (I.t 177))
  have l2 := l2.put (c := h.next) (by omega) (newBlk [.int .i64 p.fr, .int .i64 p.to, .slice (some (b1, 0)) p.items.length (.tl 0), .slice (some (b2, 0)) p.steps.length (.tl 0)] (I.t 177))
  have o2 := o2.put_ne (b := h.next) (newBlk [.int .i64 p.fr, .int .i64 p.to, .slice (some (b1, 0)) p.items.length (.tl 0), .slice (some (b2, 0)) p.steps.length (.tl 0)] (I.t 177)) (by omega)
  have o1 := o1.put [.int .i64 p.fr, .int .i64 p.to, .slice (some (b1, 0)) p.items.length (.tl 0), .slice (some (b2, 0)) p.steps.length (.tl 0)]
  have g6 := (g4.trans g5).put (Nat.le_refl _) (newBlk [.int .i64 p.fr, .int .i64 p.to, .slice (some (b1, 0)) p.items.length (.tl 0), .slice (some (b2, 0)) p.steps.length (.tl 0)] (I.t 177))
  simp only [zaa, zac, zai, zaj, zak, zal, zam, zaq, zar, zav, zax, zay, zbi, zbj, zbk, Nat.reduceEqDiff, zbt, Nat.zero_add, a_t, zeb, zec, zeh, zei, zej, zek, zel, if_true, if_false, List.length_cons, List.length_nil, s5]
  generalize h5.put h.next (newBlk [.int .i64 p.fr, .int .i64 p.to, .slice (some (b1, 0)) p.items.length (.tl 0), .slice (some (b2, 0)) p.steps.length (.tl 0)] (I.t 177)) = h6 at *
  have ld := o1.loadL 0 4
  simp only [List.length_cons, List.length_nil, Nat.reduceAdd, Nat.reduceLeDiff, if_true, List.drop_zero, List.take_succ_cons, List.take_zero] at ld
  have s6 := o2.storeL 0 [.int .i64 p.fr, .int .i64 p.to, .slice (some (b1, 0)) p.items.length (.tl 0), .slice (some (b2, 0)) p.steps.length (.tl 0)] (by simp) (by simp) rfl
  rw [sp4] at s6
  have o7 := o2.put [.int .i64 p.fr, .int .i64 p.to, .slice (some (b1, 0)) p.items.length (.tl 0), .slice (some (b2, 0)) p.steps.length (.tl 0)]
  have l1 := l1.put (c := h1.next) (by omega) (newBlk [.int .i64 p.fr, .int .i64 p.to, .slice (some (b1, 0)) p.items.length (.tl 0), .slice (some (b2, 0)) p.steps.length (.tl 0)] (I.t 177))
  have l2 := l2.put (c := h1.next) (by omega) (newBlk [.int .i64 p.fr, .int .i64 p.to, .slice (some (b1, 0)) p.items.length (.tl 0), .slice (some (b2, 0)) p.steps.length (.tl 0)] (I.t 177))
  have g7 := g6.put (b := h1.next) (by omega) (newBlk [.int .i64 p.fr, .int .i64 p.to, .slice (some (b1, 0)) p.items.length (.tl 0), .slice (some (b2, 0)) p.steps.length (.tl 0)] (I.t 177))
  simp only [zah, zai, zaj, zak, zal, zam, zaq, zar, zax, zay, zbi, zbj, zbk, Nat.reduceEqDiff, Option.map_some, Nat.reduceAdd, zbo, Nat.zero_add, a_t, zdo, zej, zek, zel, if_true, if_false, List.length_cons, List.length_nil, ld, s6]
  have ld7 := o7.loadL 0 4
  simp only [List.length_cons, List.length_nil, Nat.reduceAdd, Nat.reduceLeDiff, if_true, List.drop_zero, List.take_succ_cons, List.take_zero] at ld7
  refine r_ret ((r_cell T.agg T.size (by simp only [zbk, Nat.reduceEqDiff, if_true, if_false]) ld7).trans rfl) ?_
  exact ⟨_, _, g7, ⟨_, _, rfl, l1.low (by omega), l2.low (by omega)⟩, rfl⟩
theorem piece_ok (H : FnIs P Y (I.f 159) 31 [.tmp 4] (c159 I)) (HI : FnIs P Y (I.f 387) 26 [.tmp 4] (c387 I)) (HS : FnIs P Y (I.f 127) 26 [.tmp 4] (c127 I))
    {h : Hp} {cs ds : List V} {p q : Pc} (hp : PcC h cs p) (hq : PcC h ds q) (hb1 : p.items.length ≤ 9223372036854775807) (hb2 : p.steps.length ≤ 9223372036854775807) :
    Gives P Y (I.f 159) [.agg cs, .agg ds] h (.bool (decide (p = q))) := by
  refine CW_ic H (Nat.le_of_ble_eq_true rfl) ?_
  obtain ⟨ia, ic, sa, sc, rfl, hI, hS⟩ := hp
  obtain ⟨ja, jc, ta, tc, rfl, hJ, hT⟩ := hq
  unfold c159
  have HI' : FnIs P Y (I.f 387) 26 [.tmp 4] (gEq 4 (List.replicate 4 1)) := HI
  have HS' : FnIs P Y (I.f 127) 26 [.tmp 4] (gEq 3 (List.replicate 3 1)) := HS
  have g1 := Grow.new h (newBlk [.int .i64 p.fr, .int .i64 p.to, .slice ia p.items.length ic, .slice sa p.steps.length sc] (I.t 177))
  have o1 := Own.of_new h [.int .i64 p.fr, .int .i64 p.to, .slice ia p.items.length ic, .slice sa p.steps.length sc] (I.t 177)
  generalize hh1 : h.new (newBlk [.int .i64 p.fr, .int .i64 p.to, .slice ia p.items.length ic, .slice sa p.steps.length sc] (I.t 177)) = h1 at g1 o1
  have g2 := Grow.new h1 (newBlk [.int .i64 q.fr, .int .i64 q.to, .slice ja q.items.length jc, .slice ta q.steps.length tc] (I.t 177))
  have o2 := Own.of_new h1 [.int .i64 q.fr, .int .i64 q.to, .slice ja q.items.length jc, .slice ta q.steps.length tc] (I.t 177)
  generalize hh2 : h1.new (newBlk [.int .i64 q.fr, .int .i64 q.to, .slice ja q.items.length jc, .slice ta q.steps.length tc] (I.t 177)) = h2 at g2 o2
  have o1 := o1.grow g2
  have G := g1.trans g2
  have hpq : p = q ↔ p.fr = q.fr ∧ p.to = q.to ∧ p.items = q.items ∧ p.steps = q.steps := by cases p; cases q; simp
  by_cases c1 : p.fr = q.fr
  · have e1 : (p.fr == q.fr) = true := bq_eq c1
    by_cases c2 : p.to = q.to
    · have e2 : (p.to == q.to) = true := bq_eq c2
      simp only [zaa, zac, zai, zaj, zak, zal, zam, zaq, zas, zax, zay, zbi, zbk, List.map_cons, List.map_nil, zbl, zbm, Nat.reduceEqDiff, Option.map_some, Nat.reduceAdd, zbo, zby, zcc, zcq, zcu, List.all_cons, List.all_nil, Bool.and_self, List.getElem?_cons_zero, List.getElem?_cons_succ, Nat.zero_add, Nat.add_zero, zdb, zdc, zdg, a_t, a_v, zdo, zdp, zdq, zdr, zdu, zeb, zec, zef, zeg, zen, zes, if_true, if_false, List.all_cons, List.all_nil, hh1, hh2, o1.load1, o2.load1, e1, e2]
      refine (gEq_ok HI' (hI.grow G) (hJ.grow G) rfl rfl hb1).mono ?_
      rintro _ rfl
      by_cases c3 : p.items = q.items
      · have e3 : decide (p.items = q.items) = true := decide_eq_true c3
        simp only [zaj, zal, zam, zaq, zas, zav, zax, zbi, zbk, List.map_cons, List.map_nil, Nat.reduceEqDiff, List.getElem?_cons_zero, List.getElem?_cons_succ, Nat.zero_add, zdb, zdc, zdg, a_t, a_v, zdo, zdp, zdq, zdr, zeb, zec, zef, zeg, zes, if_true, if_false, o1.load1, o2.load1, e3]
        refine (gEq_ok HS' (hS.grow G) (hT.grow G) rfl rfl hb2).mono ?_
        rintro _ rfl
        have e4 : decide (p = q) = decide (p.steps = q.steps) := by rw [decide_eq_decide, hpq]; simp [c1, c2, c3]
        simp only [zah, zai, zaj, zak, zal, zam, zaq, zav, zax, zay, zbi, zbk, Nat.reduceEqDiff, r_1, a_t, a_v, zdp, zdq, zdr, if_true, if_false, e4]
        exact ⟨h2, G, rfl⟩
      · have e3 : decide (p.items = q.items) = false := decide_eq_false c3
        have e4 : decide (p = q) = false := decide_eq_false fun h => c3 (hpq.1 h).2.2.1
        simp only [zah, zai, zaj, zak, zal, zam, zan, zaq, zav, zax, zay, zbi, zbk, Nat.reduceEqDiff, zdb, zdc, zde, r_1, a_t, a_v, zdp, zdq, zdr, zds, if_true, if_false, e3, e4]
        exact ⟨h2, G, rfl⟩
    · have e2 : (p.to == q.to) = false := bq_ne c2
      have e4 : decide (p = q) = false := decide_eq_false fun h => c2 (hpq.1 h).2.1
      simp only [zaa, zac, zah, zai, zaj, zak, zal, zam, zan, zaq, zax, zay, zbi, zbk, zbl, zbm, Nat.reduceEqDiff, Option.map_some, Nat.reduceAdd, zbo, zby, zcc, zcq, zcu, List.all_cons, List.all_nil, Bool.and_self, List.getElem?_cons_zero, List.getElem?_cons_succ, Nat.zero_add, Nat.add_zero, zdb, zdc, zde, zdg, r_1, a_t, a_v, zdo, zdp, zdq, zdr, zds, zdu, zeb, zec, zef, zeg, zen, if_true, if_false, List.all_cons, List.all_nil, hh1, hh2, o1.load1, o2.load1, e1, e2, e4]
      exact ⟨h2, G, rfl⟩
  · have e1 : (p.fr == q.fr) = false := bq_ne c1
    have e4 : decide (p = q) = false := decide_eq_false fun h => c1 (hpq.1 h).1
    simp only [zaa, zac, zah, zai, zaj, zak, zal, zam, zan, zaq, zax, zay, zbi, zbk, zbl, zbm, Nat.reduceEqDiff, Option.map_some, Nat.reduceAdd, zbo, zby, zcc, zcq, zcu, List.all_cons, List.all_nil, Bool.and_self, List.getElem?_cons_zero, Nat.zero_add, Nat.add_zero, zdb, zdc, zde, r_1, a_t, a_v, zdo, zdp, zdq, zds, zdu, zeb, zec, zef, zeg, zen, if_true, if_false, List.all_cons, List.all_nil, hh1, hh2, o1.load1, o2.load1, e1, e4]
    exact ⟨h2, G, rfl⟩
theorem keptPiece_ok (H : FnIs P Y (I.f 164) 31 [.tmp 4] (c164 I)) (HI : FnIs P Y (I.f 395) 21 [.tmp 4] (c395 I)) (HS : FnIs P Y (I.f 71) 21 [.tmp 4] (c71 I)) (QI : FnIs P Y (I.f 387) 26 [.tmp 4] (c387 I)) (QS : FnIs P Y (I.f 127) 26 [.tmp 4] (c127 I)) (T : PcT P I)
    {h : Hp} {cs ds : List V} {p : Pc} {n : Nat} (hp : PcL n I h cs p) (hq : PcC h ds p) (hb1 : p.items.length < 9223372036854775807) (hb2 : p.steps.length < 9223372036854775807) :
    Gives P Y (I.f 164) [.agg cs, .agg ds] h (.bool true) := by
  refine CW_ic H (Nat.le_of_ble_eq_true rfl) ?_
  obtain ⟨v1, v2, rfl, hI, hS⟩ := hp
  obtain ⟨ja, jc, ta, tc, rfl, hJ, hT⟩ := hq
  unfold c164
  have HI' : FnIs P Y (I.f 395) 21 [.tmp 4] (gKept 4 (I.t 197) [iv 0, iv 0, iv 0, iv 0] (List.replicate 4 1) (I.f 387)) := HI
  have HS' : FnIs P Y (I.f 71) 21 [.tmp 4] (gKept 3 (I.t 163) [iv 0, iv 0, iv 0] (List.replicate 3 1) (I.f 127)) := HS
  have QI' : FnIs P Y (I.f 387) 26 [.tmp 4] (gEq 4 (List.replicate 4 1)) := QI
  have QS' : FnIs P Y (I.f 127) 26 [.tmp 4] (gEq 3 (List.replicate 3 1)) := QS
  have hI0 := hI
  have hS0 := hS
  obtain ⟨b1, rfl, _⟩ := hI0
  obtain ⟨b2, rfl, _⟩ := hS0
  have g1 := Grow.new h (newBlk [.int .i64 p.fr, .int .i64 p.to, .slice (some (b1, 0)) p.items.length (.tl 0), .slice (some (b2, 0)) p.steps.length (.tl 0)] (I.t 177))
  have o1 := Own.of_new h [.int .i64 p.fr, .int .i64 p.to, .slice (some (b1, 0)) p.items.length (.tl 0), .slice (some (b2, 0)) p.steps.length (.tl 0)] (I.t 177)
  generalize hh1 : h.new (newBlk [.int .i64 p.fr, .int .i64 p.to, .slice (some (b1, 0)) p.items.length (.tl 0), .slice (some (b2, 0)) p.steps.length (.tl 0)] (I.t 177)) = h1 at g1 o1
  have g2 := Grow.new h1 (newBlk [.int .i64 p.fr, .int .i64 p.to, .slice ja p.items.length jc, .slice ta p.steps.length tc] (I.t 177))
  have o2 := Own.of_new h1 [.int .i64 p.fr, .int .i64 p.to, .slice ja p.items.length jc, .slice ta p.steps.length tc] (I.t 177)
  generalize hh2 : h1.new (newBlk [.int .i64 p.fr, .int .i64 p.to, .slice ja p.items.length jc, .slice ta p.steps.length tc] (I.t 177)) = h2 at g2 o2
  have o1 := o1.grow g2
  have G := g1.trans g2
  have e1 : (p.fr == p.fr) = true := bq_eq rfl
  have e2 : (p.to == p.to) = true := bq_eq rfl
  simp only [zaa, zac, zai, zaj, zak, zal, zam, zaq, zas, zax, zay, zbi, zbk, List.map_cons, List.map_nil, zbl, zbm, Nat.reduceEqDiff, Option.map_some, Nat.reduceAdd, zbo, zby, zcc, zcq, zcu, List.all_cons, List.all_nil, Bool.and_self, List.getElem?_cons_zero, List.getElem?_cons_succ, Nat.zero_add, Nat.add_zero, zdb, zdc, zdg, a_t, a_v, zdo, zdp, zdq, zdr, zdu, zeb, zec, zef, zeg, zen, zes, if_true, if_false, List.all_cons, List.all_nil, hh1, hh2, o1.load1, o2.load1, e1, e2]
  refine (gKept_ok HI' QI' T.ri (hI.grow G) hJ.wid (hJ.grow G) rfl hb1).mono ?_
  rintro _ rfl
  have e3 : decide (p.items = p.items) = true := decide_eq_true rfl
  simp only [zaj, zal, zam, zaq, zas, zav, zax, zbi, zbk, List.map_cons, List.map_nil, Nat.reduceEqDiff, List.getElem?_cons_zero, List.getElem?_cons_succ, Nat.zero_add, zdb, zdc, zdg, decide_true, a_t, a_v, zdo, zdp, zdq, zdr, zeb, zec, zef, zeg, zes, if_true, if_false, o1.load1, o2.load1]
  refine (gKept_ok HS' QS' T.rs (hS.grow G) hT.wid (hT.grow G) rfl hb2).mono ?_
  rintro _ rfl
  have e4 : decide (p.steps = p.steps) = true := decide_eq_true rfl
  simp only [zah, zai, zaj, zak, zal, zam, zaq, zav, zax, zay, zbi, zbk, Nat.reduceEqDiff, r_1, decide_true, a_t, a_v, zdp, zdq, zdr, if_true, if_false]
  exact ⟨h2, G, rfl⟩
end Go.Vm
