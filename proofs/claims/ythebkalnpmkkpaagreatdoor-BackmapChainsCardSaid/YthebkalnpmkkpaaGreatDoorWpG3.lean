/- What gram.Check comes to. -/
import Derived.Test.YthebkalnpmkkpaaGreatDoorWpG2
set_option linter.unusedVariables false
set_option linter.unusedSimpArgs false
namespace Go.Vm
open Ch
variable {P : Program} {Y : Fns} {I : Ids}
theorem l1_skip (h : Hp) (A B : Ob) (o : Nat) : load1 ((h.new A).new B) h.next o = load1 (h.new A) h.next o := load1_new B (Nat.lt_succ_self _)
/-- Is a symbol out of bounds? -/
def badS (nt nn : Nat) (x : Int) : Bool := decide (x ≥ (nt : Int)) || decide (x < -(nn : Int))
theorem rule1_ok (H : FnIs P Y (I.f 650) 17 [.tmp 3] (c650 I)) {h : Hp} {b : Nat} {ta na : Option (Nat × Nat)} {tc nc : Cap} {nt nn : Nat} {r : List V} {e : Nat} (ho : Own h b (.slice ta nt tc :: .slice na nn nc :: r) e) (hn : nn ≤ 9223372036854775807) (x : Int) :
    Answers P Y h (I.f 650) [] [.ptr (some (b, 0))] (.int .i64 x) (badS nt nn x) := by
  refine ⟨fun h' hg => CW_ic H (Nat.le_of_ble_eq_true rfl) ?_⟩
  unfold c650
  have o' := ho.grow hg
  have hw : IntKind.i64.wrap (0 - (nn : Int)) = -(nn : Int) := by rw [wrap_i64 (by omega) (by omega)]; omega
  unfold badS
  by_cases h1 : x ≥ (nt : Int)
  · have e1 : decide (x ≥ (nt : Int)) = true := by simp; omega
    simp only [zaa, zac, zah, zai, zaj, zak, zal, zam, zan, zaq, zax, zay, zbi, zbk, zbl, zbm, Nat.reduceEqDiff, Nat.reduceAdd, zcn, List.getElem?_cons_zero, Nat.zero_add, Nat.add_zero, zdb, zdc, zdf, r_1, Bool.true_or, a_t, a_v, zdo, zdp, zdq, zdr, zdt, zeb, zec, zef, zeg, zeo, zep, if_true, if_false, List.nil_append, List.cons_append, List.nil_append, List.cons_append, o'.load1, e1]
    exact ⟨_, .refl _, rfl⟩
  · have e1 : decide (x ≥ (nt : Int)) = false := by simp; omega
    simp only [zaa, zac, zah, zai, zaj, zak, zal, zam, zaq, zax, zay, zbi, zbk, zbl, zbm, Nat.reduceEqDiff, Nat.reduceAdd, zck, zcn, zco, List.getElem?_cons_zero, List.getElem?_cons_succ, Nat.zero_add, Nat.add_zero, zdb, zdc, zdd, r_1, Bool.false_or, a_t, a_v, zdo, zdp, zdq, zds, zdt, zdw, zeb, zec, zef, zeg, zeo, zep, if_true, if_false, List.nil_append, List.cons_append, List.nil_append, List.cons_append, o'.load1, e1, hw]
    exact ⟨_, .refl _, rfl⟩
/-- What is wrong of a rule. -/
def ruleE (nt nn : Nat) (r : GRule) : Option Nat :=
  if 32 < r.right.length then some 3 else if (decide (r.left < 0) || decide (r.left ≥ (nn : Int)) || r.right.any (badS nt nn)) = true then some 1 else none
theorem rule_ok (H : FnIs P Y (I.f 503) 28 [.tmp 4] (c503 I)) (H1 : FnIs P Y (I.f 650) 17 [.tmp 3] (c650 I)) (H2 : FnIs P Y (I.f 363) 9 [.tmp 4] (c363 I)) (H3 : FnIs P Y (I.f 527) 19 [.tmp 4] (c527 I))
    {h : Hp} (G : Glob I h) {ta na ra : Option (Nat × Nat)} {tc nc rc : Cap} {nt nn nr : Nat} {axi : Int} (hn : nn ≤ 9223372036854775807) {row : List V} {r : GRule} (hr : RuleC h row r) (hb : r.right.length ≤ 9223372036854775807) :
    CW P Y (I.f 503) [.agg [.slice ta nt tc, .slice na nn nc, .int .i64 axi, .slice ra nr rc], .agg row] none h (fun q => ∃ v h', Grow h h' ∧ ErrV I h' v ((ruleE nt nn r).map .sent) ∧ q = .ret v none h') := by
  refine CW_ic H (Nat.le_of_ble_eq_true rfl) ?_
  obtain ⟨a, c, rfl, ha⟩ := hr
  unfold c503
  have g1 := (Grow.new h (newBlk [.slice ta nt tc, .slice na nn nc, .int .i64 axi, .slice ra nr rc] (I.t 33)))
  have g2 := (Grow.new (h.new (newBlk [.slice ta nt tc, .slice na nn nc, .int .i64 axi, .slice ra nr rc] (I.t 33))) (newBlk [.int .i64 r.left, .slice a r.right.length c] (I.t 101)))
  have gs1 := (G.grow (g1.trans g2)).sent 1 (by omega)
  have gs3 := (G.grow (g1.trans g2)).sent 3 (by omega)
  unfold ruleE
  by_cases h1 : 32 < r.right.length
  · have e1 : decide ((r.right.length : Int) > 32) = true := by simp; omega
    simp only [zaa, zac, zae, zah, zai, zaj, zak, zal, zam, zao, zaq, zax, zay, zaz, zbi, zbk, zbl, zbm, Nat.reduceEqDiff, Nat.reduceAdd, zbn, zbo, zby, zcc, zcm, zcz, List.all_cons, List.all_nil, Bool.and_self, List.getElem?_cons_zero, List.getElem?_cons_succ, Nat.zero_add, r_1, a_t, a_v, zdo, zdp, zdt, zeb, zec, zef, zeg, zen, zeo, zep, if_true, if_false, e1, gs3]
    refine ⟨_, _, g1.trans g2, ?_, rfl⟩
    rw [if_pos h1]
    rfl
  · have e1 : decide ((r.right.length : Int) > 32) = false := by simp; omega
    rw [if_neg h1]
    by_cases h2 : r.left < 0
    · have e2 : decide (r.left < 0) = true := by simp; omega
      simp only [zaa, zab, zac, zae, zah, zai, zaj, zak, zal, zam, zan, zao, zap, zaq, zax, zay, zaz, zbi, zbk, zbl, zbm, Nat.reduceEqDiff, Option.map_some, Nat.reduceAdd, zbn, zbo, zby, zcc, zck, zcm, zcz, List.all_cons, List.all_nil, Bool.and_self, List.getElem?_cons_zero, List.getElem?_cons_succ, Nat.zero_add, Nat.add_zero, zdb, zdc, zdf, r_1, Bool.true_or, a_t, a_v, zdo, zdp, zdq, zdr, zdt, zeb, zec, zef, zeg, zen, zeo, zep, if_true, if_false, e1, e2, gs1]
      exact ⟨_, _, g1.trans g2, rfl, rfl⟩
    · have e2 : decide (r.left < 0) = false := by simp; omega
      by_cases h3 : r.left ≥ (nn : Int)
      · have e3 : decide (r.left ≥ (nn : Int)) = true := by simp; omega
        simp only [zaa, zab, zac, zae, zah, zai, zaj, zak, zal, zam, zan, zao, zap, zaq, zax, zay, zaz, zbi, zbk, zbl, zbm, Nat.reduceEqDiff, Option.map_some, Nat.reduceAdd, zbn, zbo, zby, zcc, zck, zcm, zcn, zcz, List.all_cons, List.all_nil, Bool.and_self, List.getElem?_cons_zero, List.getElem?_cons_succ, Nat.zero_add, Nat.add_zero, zdb, zdc, zdd, zdf, r_1, Bool.true_or, Bool.or_true, a_t, a_v, zdo, zdp, zdq, zdr, zds, zdt, zeb, zec, zef, zeg, zen, zeo, zep, if_true, if_false, e1, e2, e3, gs1, l1_skip]
        exact ⟨_, _, g1.trans g2, rfl, rfl⟩
      · have e3 : decide (r.left ≥ (nn : Int)) = false := by simp; omega
        simp only [zaa, zab, zac, zae, zai, zaj, zak, zal, zam, zap, zaq, zas, zax, zay, zbi, zbk, List.map_cons, List.map_nil, zbl, zbm, Nat.reduceEqDiff, Nat.reduceAdd, zbn, zbo, zby, zcc, zck, zcm, zcn, zcz, List.all_cons, List.all_nil, Bool.and_self, List.getElem?_cons_zero, List.getElem?_cons_succ, Nat.zero_add, Nat.add_zero, zdb, zdc, zdd, Bool.false_or, Bool.or_false, a_t, a_v, zdo, zdp, zdq, zds, zdt, zea, zeb, zec, zef, zeg, zen, zeo, zep, zes, if_true, if_false, e1, e2, e3, l1_skip]
        refine (contI_ok (p := badS nt nn) H2 H3 (ha.grow (g1.trans g2)) rfl hb (callV_is H1) (fun x _ => rule1_ok H1 (((Own.of_new _ _ _).grow g2)) hn x)).mono ?_
        rintro _ ⟨h', hg, rfl⟩
        have gs1 := (G.grow ((g1.trans g2).trans hg)).sent 1 (by omega)
        cases he : r.right.any (badS nt nn) with
        | true =>
          simp only [zaa, zac, zae, zah, zai, zaj, zak, zal, zam, zao, zaq, zav, zax, zay, zaz, zbi, zbk, Nat.reduceEqDiff, Option.map_some, r_1, a_t, a_v, zdo, zdp, zdq, zds, zef, zeg, if_true, if_false, gs1]
          exact ⟨_, _, (g1.trans g2).trans hg, rfl, rfl⟩
        | false =>
          simp only [zaa, zab, zac, zae, zah, zai, zaj, zak, zal, zam, zap, zaq, zav, zax, zay, zbi, zbk, Nat.reduceEqDiff, Option.map_none, r_1, Bool.false_eq_true, a_t, a_v, zdp, zdq, zds, if_true, if_false]
          exact ⟨_, _, (g1.trans g2).trans hg, rfl, rfl⟩
def firstRule (nt nn : Nat) : List GRule → Nat → Option Err
  | [], _ => none
  | r :: l, i => match ruleE nt nn r with | some k => some (.rule i k) | none => firstRule nt nn l (i + 1)
/-- What is wrong of a grammar. -/
def checkE (g : Gram) : Option Err :=
  if (decide (60 < g.terms.length) || decide (60 - (g.terms.length : Int) < g.nonterms.length) || decide (120 < g.rules.length)) = true then some (.sent 3)
  else if (namesB g.terms && namesB g.nonterms) = false then some (.sent 10)
  else if (decide (g.axi < 0) || decide (g.axi ≥ (g.nonterms.length : Int))) = true then some (.sent 1)
  else firstRule g.terms.length g.nonterms.length g.rules 0
theorem firstRule_drop (nt nn : Nat) : ∀ (l : List GRule) (i k : Nat), (∀ (j : Nat) (r : GRule), j < k → l[j]? = some r → ruleE nt nn r = none) → firstRule nt nn l i = firstRule nt nn (l.drop k) (i + k)
  | [], i, k, h => by simp [firstRule]
  | r :: l, i, 0, h => rfl
  | r :: l, i, k + 1, h => by
    have h0 := h 0 r (by omega) rfl
    rw [firstRule, h0, List.drop_succ_cons]
    dsimp only
    rw [firstRule_drop nt nn l (i + 1) k fun j x hj hx => h (j + 1) x (by omega) (by simpa using hx), show i + 1 + k = i + (k + 1) by omega]
theorem check_ok (H : FnIs P Y (I.f 324) 69 [.tmp 2] (c324 I)) (Hr : FnIs P Y (I.f 503) 28 [.tmp 4] (c503 I)) (H1 : FnIs P Y (I.f 650) 17 [.tmp 3] (c650 I)) (H2 : FnIs P Y (I.f 363) 9 [.tmp 4] (c363 I)) (H3 : FnIs P Y (I.f 527) 19 [.tmp 4] (c527 I))
    (N0 : FnIs P Y (I.f 502) 13 [.tmp 2] (c502 I)) (N1 : FnIs P Y (I.f 649) 26 [.tmp 4] (c649 I)) (N2 : FnIs P Y (I.f 764) 9 [.tmp 4] (c764 I)) (N3 : FnIs P Y (I.f 696) 19 [.tmp 4] (c696 I))
    {h : Hp} (G : Glob I h) {cs : List V} {g : Gram} (hg : GramC h cs g) (hb : g.nonterms.length ≤ 9223372036854775807) (hrr : ∀ r ∈ g.rules, r.right.length ≤ 9223372036854775807) :
    CW P Y (I.f 324) [.agg cs] none h (fun q => ∃ v h', Grow h h' ∧ ErrV I h' v (checkE g) ∧ q = .ret v none h') := by
  refine CW_ic H (Nat.le_of_ble_eq_true rfl) ?_
  obtain ⟨ta, tc, na, nc, ra, rc, rfl, ht, hn, hR⟩ := hg
  unfold c324
  have g1 := (Grow.new h (newBlk [.slice ta g.terms.length tc, .slice na g.nonterms.length nc, .int .i64 g.axi, .slice ra g.rules.length rc] (I.t 33)))
  have o1 := Own.of_new h [.slice ta g.terms.length tc, .slice na g.nonterms.length nc, .int .i64 g.axi, .slice ra g.rules.length rc] (I.t 33)
  generalize hh1 : h.new (newBlk [.slice ta g.terms.length tc, .slice na g.nonterms.length nc, .int .i64 g.axi, .slice ra g.rules.length rc] (I.t 33)) = h1 at g1 o1
  have G1 := G.grow g1
  have gs1 := G1.sent 1 (by omega)
  have gs3 := G1.sent 3 (by omega)
  have gs10 := G1.sent 10 (by omega)
  unfold checkE
  by_cases c1 : 60 < g.terms.length
  · have e1 : decide ((g.terms.length : Int) > 60) = true := by simp; omega
    simp only [zaa, zac, zae, zah, zai, zaj, zak, zal, zam, zan, zao, zaq, zax, zay, zaz, zbi, zbk, zbl, zbm, Nat.reduceEqDiff, zbn, zbo, zby, zcc, zcm, List.all_cons, List.all_nil, Bool.and_self, List.getElem?_cons_zero, Nat.zero_add, Nat.add_zero, zdb, zdc, zdf, r_1, a_t, a_v, zdo, zdp, zdq, zdr, zdt, zeb, zec, zef, zeg, zen, zeo, zep, if_true, if_false, hh1, o1.load1, e1, gs3]
    rw [show (decide (60 < g.terms.length) || decide (60 - (g.terms.length : Int) < g.nonterms.length) || decide (120 < g.rules.length)) = true by simp [c1]]
    exact ⟨_, _, g1, rfl, rfl⟩
  have e1 : decide ((g.terms.length : Int) > 60) = false := by simp; omega
  have w1 : IntKind.i64.wrap (60 - (g.terms.length : Int)) = 60 - (g.terms.length : Int) := wrap_i64 (by omega) (by omega)
  by_cases c2 : 60 - (g.terms.length : Int) < g.nonterms.length
  · have e2 : decide ((g.nonterms.length : Int) > 60 - (g.terms.length : Int)) = true := by simp; omega
    simp only [zaa, zac, zae, zah, zai, zaj, zak, zal, zam, zan, zao, zaq, zax, zay, zaz, zbi, zbk, zbl, zbm, Nat.reduceEqDiff, zbn, zbo, zby, zcc, zci, zcm, List.all_cons, List.all_nil, Bool.and_self, List.getElem?_cons_zero, List.getElem?_cons_succ, Nat.zero_add, Nat.add_zero, zdb, zdc, zdd, zdf, r_1, Bool.true_or, Bool.or_true, a_t, a_v, zdo, zdp, zdq, zdr, zds, zdt, zeb, zec, zef, zeg, zen, zeo, zep, if_true, if_false, hh1, o1.load1, e1, w1, e2, gs3]
    exact ⟨_, _, g1, rfl, rfl⟩
  have e2 : decide ((g.nonterms.length : Int) > 60 - (g.terms.length : Int)) = false := by simp; omega
  by_cases c3 : 120 < g.rules.length
  · have e3 : decide ((g.rules.length : Int) > 120) = true := by simp; omega
    simp only [zaa, zac, zae, zah, zai, zaj, zak, zal, zam, zao, zaq, zax, zay, zaz, zbi, zbk, zbl, zbm, Nat.reduceEqDiff, zbn, zbo, zby, zcc, zci, zcm, List.all_cons, List.all_nil, Bool.and_self, List.getElem?_cons_zero, List.getElem?_cons_succ, Nat.zero_add, Nat.add_zero, zdb, zdc, zdd, r_1, Bool.or_false, a_t, a_v, zdo, zdp, zdq, zds, zdt, zeb, zec, zef, zeg, zen, zeo, zep, if_true, if_false, hh1, o1.load1, e1, w1, e2, e3, gs3]
    rw [if_pos (by simp [c3])]
    exact ⟨_, _, g1, rfl, rfl⟩
  have e3 : decide ((g.rules.length : Int) > 120) = false := by simp; omega
  rw [if_neg (by simp [c1, c2, c3])]
  simp only [zaa, zab, zac, zae, zai, zaj, zak, zal, zam, zap, zaq, zas, zax, zay, zbi, zbk, List.map_cons, List.map_nil, zbl, zbm, Nat.reduceEqDiff, zbn, zbo, zby, zcc, zci, zcm, List.all_cons, List.all_nil, Bool.and_self, List.getElem?_cons_zero, List.getElem?_cons_succ, Nat.zero_add, Nat.add_zero, zdb, zdc, zdd, a_t, a_v, zdo, zdp, zdq, zds, zdt, zeb, zec, zef, zeg, zen, zeo, zep, zes, if_true, if_false, hh1, o1.load1, e1, w1, e2, e3]
  refine (names_ok N0 N1 N2 N3 (ht.grow g1) rfl (by omega)).mono ?_
  rintro _ rfl
  cases d1 : namesB g.terms with
  | false =>
    simp only [zaa, zac, zae, zah, zai, zaj, zak, zal, zam, zan, zao, zaq, zav, zax, zay, zaz, zbi, zbk, Nat.reduceEqDiff, zcp, Bool.not_false, zdb, zdc, zdf, r_1, Bool.false_and, a_t, a_v, zdo, zdp, zdq, zdr, zdw, zef, zeg, if_true, if_false, gs10]
    exact ⟨_, _, g1, rfl, rfl⟩
  | true =>
  simp only [zaj, zal, zam, zaq, zas, zav, zax, zbi, zbk, List.map_cons, List.map_nil, Nat.reduceEqDiff, zcp, Bool.not_true, List.getElem?_cons_zero, List.getElem?_cons_succ, Nat.zero_add, zdb, zdc, zdd, Bool.true_and, a_t, zdo, zdp, zdw, zeb, zec, zef, zeg, zes, if_true, if_false, o1.load1]
  refine (names_ok N0 N1 N2 N3 (hn.grow g1) rfl (by omega)).mono ?_
  rintro _ rfl
  cases d2 : namesB g.nonterms with
  | false =>
    simp only [zaa, zac, zae, zah, zai, zaj, zak, zal, zam, zao, zaq, zav, zax, zay, zaz, zbi, zbk, Nat.reduceEqDiff, zcp, Bool.not_false, zdb, zdc, zdd, r_1, a_t, a_v, zdo, zdp, zdq, zds, zdw, zef, zeg, if_true, if_false, gs10]
    exact ⟨_, _, g1, rfl, rfl⟩
  | true =>
  simp only [zaa, zab, zac, zae, zai, zaj, zak, zal, zam, zap, zaq, zav, zax, zay, zbi, zbk, Nat.reduceEqDiff, zck, zcp, Bool.not_true, List.getElem?_cons_zero, List.getElem?_cons_succ, Nat.zero_add, zdb, zdc, zdd, a_t, a_v, zdo, zdp, zdq, zds, zdt, zdw, zeb, zec, zef, zeg, if_true, if_false, o1.load1, Bool.true_eq_false]
  by_cases c4 : g.axi < 0
  · have e4 : decide (g.axi < 0) = true := by simp; omega
    simp only [zaa, zac, zae, zah, zai, zaj, zak, zal, zam, zan, zao, zaq, zax, zay, zaz, zbi, zbk, Nat.reduceEqDiff, zdb, zdc, zdf, r_1, Bool.true_or, a_t, a_v, zdo, zdp, zdq, zdr, zef, zeg, if_true, if_false, e4, gs1]
    exact ⟨_, _, g1, rfl, rfl⟩
  have e4 : decide (g.axi < 0) = false := by simp; omega
  by_cases c5 : g.axi ≥ (g.nonterms.length : Int)
  · have e5 : decide (g.axi ≥ (g.nonterms.length : Int)) = true := by simp; omega
    simp only [zaa, zac, zae, zah, zai, zaj, zak, zal, zam, zao, zaq, zax, zay, zaz, zbi, zbk, Nat.reduceEqDiff, zcn, List.getElem?_cons_zero, List.getElem?_cons_succ, Nat.zero_add, zdb, zdc, zdd, r_1, Bool.or_true, a_t, a_v, zdo, zdp, zdq, zds, zdt, zeb, zec, zef, zeg, zeo, zep, if_true, if_false, o1.load1, e4, e5, gs1]
    exact ⟨_, _, g1, rfl, rfl⟩
  have e5 : decide (g.axi ≥ (g.nonterms.length : Int)) = false := by simp; omega
  simp only [zaa, zab, zac, zae, zaf, zai, zaj, zak, zal, zam, zap, zaq, zax, zay, zbi, zbk, Nat.reduceEqDiff, zcn, List.getElem?_cons_zero, List.getElem?_cons_succ, Nat.zero_add, zdb, zdc, zdd, Bool.false_eq_true, Bool.or_false, a_t, a_v, zdo, zdp, zdq, zds, zdt, zeb, zec, zef, zeg, zeo, zep, if_true, if_false, o1.load1, e4, e5]
  refine s_loop (fun k st => ∃ (i : Nat) (F : Frm) (h' : Hp), k + i = g.rules.length ∧ st = ⟨F, [], none, h'⟩ ∧ Grow h1 h' ∧ gt F 1 = .ptr (some (h.next, 0)) ∧ gt F 51 = .slice ra g.rules.length rc ∧ gt F 52 = .int .i64 g.rules.length ∧ gt F 53 = .int .i64 i ∧
      ∀ (j : Nat) (r : GRule), j < i → g.rules[j]? = some r → ruleE g.terms.length g.nonterms.length r = none) g.rules.length
    ⟨0, _, _, rfl, rfl, .refl _, by simp only [zbk, Nat.reduceEqDiff, if_true, if_false], by simp only [zbk, Nat.reduceEqDiff, if_true, if_false], by simp only [zbk, Nat.reduceEqDiff, if_true, if_false], by simp only [zbk, Nat.reduceEqDiff, if_true, if_false]; rfl, fun j y hj => by omega⟩ ?_
  rintro k _ ⟨i, F, h', hk, rfl, hg, q1, q51, q52, q53, hno⟩
  by_cases hi : i < g.rules.length
  · have e6 : decide ((i : Int) < (g.rules.length : Int)) = true := by simp; omega
    obtain ⟨b, o, a', c', rfl, hat, hin⟩ := (hR.grow (g1.trans hg)).get hi
    have hld := hat.loadL
    simp only [List.length_cons, List.length_nil, Nat.zero_add, Nat.reduceAdd, zbn] at hld
    have g2 := Grow.new h' (newBlk [.int .i64 0, .slice none 0 (.ex 0)] (I.t 101))
    have o2 := Own.of_new h' [.int .i64 0, .slice none 0 (.ex 0)] (I.t 101)
    generalize hh2 : h'.new (newBlk [.int .i64 0, .slice none 0 (.ex 0)] (I.t 101)) = h2 at g2 o2
    have hld2 := (loadL_grow (n := 2) g2 hat.low).trans hld
    have hst := o2.storeL 0 [.int .i64 g.rules[i].left, .slice a' g.rules[i].right.length c'] (by simp) (by simp) rfl
    have o3 := o2.put (splice [.int .i64 0, .slice none 0 (.ex 0)] 0 [.int .i64 g.rules[i].left, .slice a' g.rules[i].right.length c'])
    have g3 := g2.put (Nat.le_refl _) (newBlk (splice [.int .i64 0, .slice none 0 (.ex 0)] 0 [.int .i64 g.rules[i].left, .slice a' g.rules[i].right.length c']) (I.t 101))
    simp only [splice, List.take_zero, List.nil_append, List.length_cons, List.length_nil, Nat.reduceAdd, List.drop_succ_cons, List.drop_nil, List.append_nil] at hst o3 g3
    generalize hh3 : h2.put h'.next (newBlk [.int .i64 g.rules[i].left, .slice a' g.rules[i].right.length c'] (I.t 101)) = h3 at o3 g3 hst
    have o4 := (o1.grow hg).grow g3
    have l3 := o3.loadL 0 2
    have l4 := o4.loadL 0 4
    simp only [List.length_cons, List.length_nil, Nat.reduceAdd, Nat.reduceLeDiff, if_true, List.drop_zero, List.take_succ_cons, List.take_zero] at l3 l4
    simp only [zaa, zab, zac, zae, zaf, zai, zaj, zak, zal, zam, zao, zaq, zar, zas, zax, zay, zbi, zbj, zbk, List.map_cons, List.map_nil, Nat.reduceEqDiff, Option.map_some, Nat.reduceAdd, zbo, zck, Bool.and_self, Nat.zero_add, Int.toNat_natCast, zdh, a_t, zdo, zdp, zdt, zed, zee, zeh, zei, zej, zek, zel, zem, zes, if_true, if_false, List.length_cons, List.length_nil, q1, q51, q52, q53, e6, hld, hh2, hst, l3, l4]
    refine (rule_ok Hr H1 H2 H3 (G1.grow (hg.trans g3)) (by omega) ⟨a', c', rfl, hin.grow g3⟩ (hrr _ (List.getElem_mem hi))).mono ?_
    rintro _ ⟨v, h4, hg4, hv, rfl⟩
    cases he : ruleE g.terms.length g.nonterms.length g.rules[i] with
    | none =>
      rw [he] at hv
      obtain rfl : v = .nilIface := hv
      simp only [zaa, zab, zac, zae, zai, zaj, zak, zal, zam, zap, zaq, zav, zax, zay, zbc, zbi, zbk, Nat.reduceEqDiff, Option.map_some, zch, zct, zcv, Bool.not_true, a_t, a_v, zdo, zdp, zdt, zdv, if_true, if_false, q53]
      refine ⟨k - 1, by omega, i + 1, _, h4, by omega, rfl, hg.trans (g3.trans hg4), by simp only [zbk, Nat.reduceEqDiff, if_false, q1], by simp only [zbk, Nat.reduceEqDiff, if_false, q51], by simp only [zbk, Nat.reduceEqDiff, if_false, q52], ?_, fun j y hj hy => ?_⟩
      · simp only [zbk, Nat.reduceEqDiff, if_true, if_false]
        rw [wrap_i64 (by omega) (by omega)]
        rfl
      · rcases Nat.lt_or_ge j i with h | h
        · exact hno j y h hy
        · obtain rfl : j = i := by omega
          rw [List.getElem?_eq_getElem hi] at hy
          cases hy
          exact he
    | some e =>
      rw [he] at hv
      obtain rfl : v = sentV I e := hv
      simp only [zaa, zac, zae, zah, zai, zaj, zak, zal, zam, zao, zaq, zav, zax, zay, zaz, zbd, zbi, zbk, List.map_cons, List.map_nil, Nat.reduceEqDiff, Option.map_some, Nat.reduceAdd, zbo, zbp, zby, zct, List.all_cons, List.all_nil, Bool.and_self, Bool.not_false, Nat.zero_add, r_1, decide_true, a_t, zdo, zdp, zdv, zdz, zen, zey, if_true, if_false, List.length_cons, List.length_nil, splice, List.nil_append, List.append_nil, List.cons_append, List.drop_zero, List.drop_succ_cons, List.drop_nil, List.take_succ_cons, List.take_zero, Nat.reduceLeDiff, fillV, c_sent, i_sent, in_sent]
      refine ⟨_, _, (g1.trans hg).trans ((g3.trans hg4).trans (Grow.new _ _)), ?_, rfl⟩
      have : firstRule g.terms.length g.nonterms.length g.rules 0 = some (.rule i e) := by
        rw [firstRule_drop _ _ _ _ i hno, List.drop_eq_getElem_cons hi, firstRule, he]
        simp
      rw [this]
      exact ⟨_, rfl, Own.of_new _ _ _⟩
  · have e6 : decide ((i : Int) < (g.rules.length : Int)) = false := by simp; omega
    simp only [zaa, zac, zae, zag, zah, zai, zaj, zak, zal, zam, zap, zaq, zax, zay, zba, zbe, zbi, zbk, Nat.reduceEqDiff, zck, r_1, a_t, a_v, zdo, zdp, zdt, if_true, if_false, q52, q53, e6]
    refine ⟨_, h', g1.trans hg, ?_, rfl⟩
    have : firstRule g.terms.length g.nonterms.length g.rules 0 = none := by
      rw [firstRule_drop _ _ _ _ g.rules.length fun j r hj hr => hno j r (by omega) hr, List.drop_length]
      rfl
    rw [this]
    rfl
end Go.Vm
