/- The document's layer 3: renamings, names, what is wrong. -/
import Derived.Test.YthebkalnpmkkpaaGreatDoorWpL3
import Derived.Test.YthebkalnpmkkpaaGreatDoorWpG4
import Derived.Test.YthebkalnpmkkpaaGreatDoorWpF12
set_option linter.unusedVariables false
set_option linter.unusedSimpArgs false
namespace Go.Vm
open Ch
variable {P : Program} {Y : Fns} {I : Ids}
theorem refRen_ok (H : FnIs P Y (I.f 375) 20 [.tmp 2, .tmp 3] (c375 I)) {h : Hp} {row : List V} {r : GRule} (hr : RuleC h row r) (hB : ∀ s ∈ r.right, -9223372036854775808 ≤ s) :
    Gives P Y (I.f 375) [.agg row] h (.tuple [iv ((ren r).getD 0), .bool (ren r).isSome]) := by
  refine CW_ic H (Nat.le_of_ble_eq_true rfl) ?_
  obtain ⟨a, c, rfl, ha⟩ := hr
  unfold c375
  by_cases h1 : r.right.length = 1
  · have h1' : ((r.right.length : Int) == 1) = true := by simp [h1]
    obtain ⟨s, hs⟩ : ∃ s, r.right = [s] := List.length_eq_one_iff.1 h1
    obtain ⟨b, o, rfl, hl, hb⟩ := (ha.grow (Grow.new h (newBlk [iv r.left, V.slice a r.right.length c] (I.t 101)))).get (i := 0) (by omega)
    have hv : r.right[0] = s := by simp [hs]
    rw [hv, Nat.add_zero] at hl
    simp only [zbn] at hl
    have h2 : decide ((0 : Int) < r.right.length) = true := by simp; omega
    by_cases hneg : s < 0
    · have h3 : decide (s < 0) = true := by simp; omega
      have hr : ren r = some (-1 - s) := by unfold ren; rw [hs]; simp [hneg]
      have hsb := hB s (by rw [hs]; simp)
      simp only [zaa, zac, zae, zah, zai, zaj, zak, zal, zam, zao, zaq, zax, zay, zaz, zbi, zbk, zbl, zbm, Nat.reduceEqDiff, Option.map_some, zbn, zbo, zby, zcc, zci, zck, zcq, zcu, zcz, List.all_cons, List.all_nil, Bool.and_self, List.getElem?_cons_zero, List.getElem?_cons_succ, Nat.zero_add, Nat.add_zero, zdb, zdc, zdg, r_2, Nat.mul_one, Int.toNat_zero, zdi, Option.getD_some, Option.isSome_some, a_t, a_v, zdo, zdp, zdq, zdr, zdt, zdu, zeb, zec, zed, zee, zef, zeg, zen, zeo, zep, if_true, if_false, h1', h2, hl, h3, hr]
      rw [wrap_i64 (by omega) (by omega)]
      exact ⟨_, Grow.new _ _, rfl⟩
    · have h3 : decide (s < 0) = false := by simp; omega
      have hr : ren r = none := by unfold ren; rw [hs]; simp [hneg]
      simp only [zaa, zab, zac, zae, zah, zai, zaj, zak, zal, zam, zap, zaq, zax, zay, zbi, zbk, zbl, zbm, Nat.reduceEqDiff, Option.map_some, zbn, zbo, zby, zcc, zck, zcq, zcu, zcz, List.all_cons, List.all_nil, Bool.and_self, List.getElem?_cons_zero, List.getElem?_cons_succ, Nat.zero_add, Nat.add_zero, zdb, zdc, zdg, r_2, Nat.mul_one, Int.toNat_zero, zdi, Option.getD_none, Option.isSome_none, a_t, a_v, zdo, zdp, zdq, zdr, zdt, zdu, zeb, zec, zed, zee, zef, zeg, zen, zeo, zep, if_true, if_false, h1', h2, hl, h3, hr]
      exact ⟨_, Grow.new _ _, rfl⟩
  · have h1' : ((r.right.length : Int) == 1) = false := by simp; omega
    have hn : ren r = none := by unfold ren; split <;> simp_all
    simp only [zaa, zab, zac, zae, zah, zai, zaj, zak, zal, zam, zan, zap, zaq, zax, zay, zbi, zbk, zbl, zbm, Nat.reduceEqDiff, Option.map_some, zbn, zbo, zby, zcc, zcq, zcu, zcz, List.all_cons, List.all_nil, Bool.and_self, List.getElem?_cons_zero, List.getElem?_cons_succ, Nat.zero_add, zdb, zdc, zde, r_2, Option.getD_none, Option.isSome_none, a_t, a_v, zdo, zdp, zdq, zds, zdu, zeb, zec, zef, zeg, zen, zeo, zep, if_true, if_false, h1', hn]
    exact ⟨_, Grow.new _ _, rfl⟩
theorem fault_is {l : List (List UInt8)} {i : Nat} (hi : i < l.length) : faultB l i = (l[i].length == 0 || decide (32 < l[i].length) || decide (l[i] ∈ l.take i)) := by
  unfold faultB
  rw [List.getElem?_eq_getElem hi]
theorem names_no {l : List (List UInt8)} {i : Nat} (hi : i < l.length) (hf : faultB l i = true) : namesB l = false := by
  unfold namesB
  exact decide_eq_false fun h => by have := h i hi; rw [hf] at this; cases this
set_option maxHeartbeats 1000000 in
theorem named_ok (H : FnIs P Y (I.f 531) 39 [.tmp 2] (c531 I)) {h : Hp} {a : Option (Nat × Nat)} {c : Cap} {l : List (List UInt8)} (hl : Strs h a l) {n : Nat} (hn : n = l.length) (hb : n ≤ 9223372036854775807) :
    CW P Y (I.f 531) [.slice a n c] none h (fun q => q = .ret (.bool (namesB l)) none h) := by
  subst hn
  refine CW_ic H (Nat.le_of_ble_eq_true rfl) ?_
  unfold c531
  simp only [zaa, zac, zaf, zai, zaj, zak, zal, zam, zaq, zax, zay, zbi, zbl, zbm, Nat.zero_add, a_v, zdp]
  refine s_loop (fun kk st => ∃ (i : Nat) (F : Frm), kk + i = l.length ∧ st = ⟨F, [], none, h⟩ ∧ gt F 0 = .slice a l.length c ∧ gt F 3 = .int .i64 i ∧ ∀ (j : Nat), j < i → faultB l j = false) l.length
    ⟨0, _, rfl, rfl, by simp only [zbk, Nat.reduceEqDiff, if_true, if_false], by simp only [zbk, Nat.reduceEqDiff, if_true, if_false]; rfl, fun j hj => by omega⟩ ?_
  rintro kk _ ⟨i, F, hkk, rfl, q0, q3, hall⟩
  by_cases hi : i < l.length
  · have d1 : decide ((i : Int) < (l.length : Int)) = true := decide_eq_true (by omega)
    obtain ⟨b, o, rfl, hld, _⟩ := hl.get hi
    by_cases c1 : l[i].length = 0
    · have e1 : ((l[i].length : Int) == 0) = true := bq_eq (by omega)
      have hB := names_no hi (by rw [fault_is hi]; simp [c1])
      simp only [zaa, zab, zac, zae, zaf, zah, zai, zaj, zak, zal, zam, zan, zao, zaq, zax, zay, zaz, zbd, zbi, zbk, Nat.reduceEqDiff, Option.map_some, zck, zcq, zcu, Bool.and_self, zdb, zdc, zdf, r_1, Nat.mul_one, Int.toNat_natCast, zdh, a_t, a_v, zdo, zdp, zdq, zdr, zdt, zdu, zed, zee, zef, zeg, zeo, zep, zeq, zer, if_true, if_false, q0, q3, d1, hld, e1, hB]
    · have e1 : ((l[i].length : Int) == 0) = false := bq_ne (by omega)
      by_cases c2 : 32 < l[i].length
      · have e2 : decide ((l[i].length : Int) > 32) = true := decide_eq_true (by omega)
        have hB := names_no hi (by rw [fault_is hi]; simp [c2])
        simp only [zaa, zab, zac, zae, zaf, zah, zai, zaj, zak, zal, zam, zao, zaq, zax, zay, zaz, zbd, zbi, zbk, Nat.reduceEqDiff, Option.map_some, zck, zcm, zcq, zcu, Bool.and_self, zdb, zdc, zdd, r_1, Nat.mul_one, Int.toNat_natCast, zdh, a_t, a_v, zdo, zdp, zdq, zds, zdt, zdu, zed, zee, zef, zeg, zeo, zep, zeq, zer, if_true, if_false, q0, q3, d1, hld, e1, e2, hB]
      · have e2 : decide ((l[i].length : Int) > 32) = false := decide_eq_false (by omega)
        simp only [zaa, zab, zac, zae, zaf, zai, zaj, zak, zal, zam, zao, zap, zaq, zax, zay, zbi, zbk, Nat.reduceEqDiff, Option.map_some, zck, zcm, zcq, zcu, Bool.and_self, zdb, zdc, zdd, Nat.mul_one, Int.toNat_natCast, zdh, a_t, a_v, zdo, zdp, zdq, zds, zdt, zdu, zed, zee, zef, zeg, zeo, zep, zeq, zer, if_true, if_false, q0, q3, d1, hld, e1, e2]
        refine s_loop (fun jj st => ∃ (k : Nat) (F : Frm), jj + k = i ∧ st = ⟨F, [], none, h⟩ ∧ gt F 0 = .slice (some (b, o)) l.length c ∧ gt F 3 = .int .i64 i ∧ gt F 4 = .int .i64 k ∧ ∀ (q : Nat) (hq : q < k) (hq2 : q < l.length), l[q] ≠ l[i]) i
          ⟨0, _, rfl, rfl, by simp only [zbk, Nat.reduceEqDiff, if_false, q0], by simp only [zbk, Nat.reduceEqDiff, if_false, q3], by simp only [zbk, Nat.reduceEqDiff, if_true, if_false]; rfl, fun q hq => by omega⟩ ?_
        clear q0 q3 F
        rintro jj _ ⟨k, F, hjj, rfl, q0, q3, q4, hno⟩
        by_cases hk : k < i
        · have d2 : decide ((k : Int) < (i : Int)) = true := decide_eq_true (by omega)
          have d3 : decide ((k : Int) < (l.length : Int)) = true := decide_eq_true (by omega)
          have w1 : IntKind.i64.wrap ((k : Int) + 1) = ((k + 1 : Nat) : Int) := by rw [wrap_i64 (by omega) (by omega)]; rfl
          obtain ⟨b', o', e, hld2, _⟩ := hl.get (i := k) (by omega)
          cases e
          by_cases hx : l[k] = l[i]
          · have e4 : (l[k] == l[i]) = true := by simp [hx]
            have hB := names_no hi (by
              rw [fault_is hi]
              have : l[i] ∈ l.take i := List.mem_iff_getElem.2 ⟨k, by simp; omega, by rw [List.getElem_take]; exact hx⟩
              simp [this])
            simp only [zaa, zab, zac, zad, zae, zaf, zah, zai, zaj, zak, zal, zam, zao, zaq, zax, zay, zaz, zbd, zbg, zbi, zbk, Nat.reduceEqDiff, Option.map_some, zck, zcs, zcu, Bool.and_self, r_1, Nat.mul_one, Int.toNat_natCast, zdh, a_t, a_v, zdo, zdp, zdt, zdu, zed, zee, zef, zeg, if_true, if_false, q0, q3, q4, d1, d2, d3, hld, hld2, e4, hB]
          · have e4 : (l[k] == l[i]) = false := by simp [hx]
            simp only [zaa, zab, zac, zad, zae, zaf, zai, zaj, zak, zal, zam, zao, zap, zaq, zax, zay, zbc, zbg, zbi, zbk, Nat.reduceEqDiff, Option.map_some, zch, zck, zcs, zcu, Bool.and_self, Nat.mul_one, Int.toNat_natCast, zdh, a_t, a_v, zdo, zdp, zdt, zdu, zed, zee, zef, zeg, if_true, if_false, q0, q3, q4, d1, d2, d3, hld, hld2, e4, w1]
            refine ⟨jj - 1, by omega, k + 1, _, by omega, rfl, by simp only [zbk, Nat.reduceEqDiff, if_false, q0], by simp only [zbk, Nat.reduceEqDiff, if_false, q3], by simp only [zbk, Nat.reduceEqDiff, if_true, if_false], fun q hq hq2 => ?_⟩
            rcases Nat.lt_succ_iff_lt_or_eq.1 hq with h | h
            · exact hno q h hq2
            · subst h; exact hx
        · have d2 : decide ((k : Int) < (i : Int)) = false := decide_eq_false (by omega)
          have w1 : IntKind.i64.wrap ((i : Int) + 1) = ((i + 1 : Nat) : Int) := by rw [wrap_i64 (by omega) (by omega)]; rfl
          have hF : faultB l i = false := by
            rw [fault_is hi]
            have : l[i] ∉ l.take i := fun hm => by
              obtain ⟨q, hq, e⟩ := List.mem_iff_getElem.1 hm
              simp at hq
              rw [List.getElem_take] at e
              exact hno q (by omega) (by omega) e
            rw [decide_eq_false this, decide_eq_false c2, show (l[i].length == 0) = false from beq_false_of_ne c1]
            rfl
          simp only [zaa, zac, zae, zag, zah, zai, zaj, zak, zal, zam, zap, zaq, zax, zay, zba, zbc, zbe, zbi, zbk, Nat.reduceEqDiff, zch, zck, r_1, a_t, a_v, zdo, zdp, zdt, if_true, if_false, q3, q4, d2, w1]
          refine ⟨kk - 1, by omega, i + 1, _, by omega, rfl, by simp only [zbk, Nat.reduceEqDiff, if_false, q0], by simp only [zbk, Nat.reduceEqDiff, if_true, if_false], fun j hj => ?_⟩
          rcases Nat.lt_succ_iff_lt_or_eq.1 hj with h | h
          · exact hall j h
          · subst h; exact hF
  · have d1 : decide ((i : Int) < (l.length : Int)) = false := decide_eq_false (by omega)
    have hB : namesB l = true := by
      unfold namesB
      exact decide_eq_true fun j hj => hall j (by omega)
    simp only [zaa, zac, zae, zag, zah, zai, zaj, zak, zal, zam, zap, zaq, zax, zay, zba, zbe, zbi, zbk, Nat.reduceEqDiff, zck, r_1, a_t, a_v, zdo, zdp, zdt, zeo, zep, if_true, if_false, q0, q3, d1, hB]
theorem any_at {α : Type} {f : α → Bool} {l : List α} {i : Nat} (hi : i < l.length) (h : f l[i] = true) : l.any f = true := List.any_eq_true.2 ⟨l[i], List.getElem_mem hi, h⟩
theorem any_no {α : Type} {f : α → Bool} {l : List α} (h : ∀ (i : Nat) (hi : i < l.length), f l[i] = false) : l.any f = false := List.any_eq_false.2 fun x hx => by
  obtain ⟨i, hi, rfl⟩ := List.mem_iff_getElem.1 hx
  rw [h i hi]
  simp
theorem firstRule_some {nt nn : Nat} : ∀ {l : List GRule} {i j k : Nat} (hj : j < l.length), ruleE nt nn l[j] = some k → firstRule nt nn l i ≠ none
  | r :: l, i, 0, k, hj, h => by
    rw [firstRule]
    simp only [List.getElem_cons_zero] at h
    rw [h]
    simp
  | r :: l, i, j + 1, k, hj, h => by
    rw [firstRule]
    cases hr : ruleE nt nn r with
    | some q => simp
    | none => exact firstRule_some (j := j) (by simpa using hj) (by simpa using h)
theorem firstRule_nil {nt nn : Nat} : ∀ {l : List GRule} {i : Nat}, (∀ (j : Nat) (hj : j < l.length), ruleE nt nn l[j] = none) → firstRule nt nn l i = none
  | [], i, _ => rfl
  | r :: l, i, h => by
    have h0 := h 0 (by simp)
    simp only [List.getElem_cons_zero] at h0
    rw [firstRule, h0]
    exact firstRule_nil fun j hj => by have := h (j + 1) (by simpa using hj); simpa using this
set_option maxHeartbeats 4000000 in
theorem refCheck_ok (H : FnIs P Y (I.f 374) 108 [.tmp 2, .tmp 3] (c374 I)) (HN : FnIs P Y (I.f 531) 39 [.tmp 2] (c531 I)) {h : Hp} {cs : List V} {g : Gram} (hg : GramC h cs g) (hb1 : g.terms.length < 4611686018427387904) (hb2 : g.nonterms.length < 4611686018427387904) (hb3 : g.rules.length < 4611686018427387904) (hr : ∀ r ∈ g.rules, r.right.length ≤ 9223372036854775807) :
    CW P Y (I.f 374) [.agg cs] none h (fun q => ∃ (k j : Int) (h' : Hp), Grow h h' ∧ (k = 0 ↔ checkE g = none) ∧ q = .ret (.tuple [.int .i64 k, .int .i64 j]) none h') := by
  refine CW_ic H (Nat.le_of_ble_eq_true rfl) ?_
  obtain ⟨ta, tc, na, nc, ra, rc, rfl, ht, hn, hR⟩ := hg
  unfold c374
  have g1 := Grow.new h (newBlk [.slice ta g.terms.length tc, .slice na g.nonterms.length nc, .int .i64 g.axi, .slice ra g.rules.length rc] (I.t 33))
  have o1 := Own.of_new h [.slice ta g.terms.length tc, .slice na g.nonterms.length nc, .int .i64 g.axi, .slice ra g.rules.length rc] (I.t 33)
  generalize hh1 : h.new (newBlk [.slice ta g.terms.length tc, .slice na g.nonterms.length nc, .int .i64 g.axi, .slice ra g.rules.length rc] (I.t 33)) = h1 at g1 o1
  have w0 : IntKind.i64.wrap ((g.terms.length : Int) + (g.nonterms.length : Int)) = ((g.terms.length + g.nonterms.length : Nat) : Int) := by rw [wrap_i64 (by omega) (by omega)]; rfl
  -- too many
  by_cases cb : 60 < g.terms.length ∨ 60 < g.nonterms.length ∨ 60 < g.terms.length + g.nonterms.length ∨ 120 < g.rules.length
  · have hE : checkE g ≠ none := by
      unfold checkE
      rw [if_pos ?_]
      · simp
      · simp only [Bool.or_eq_true, decide_eq_true_eq]
        omega
    have fin : ∀ (j : Int), ∃ (k j' : Int) (h' : Hp), Grow h h' ∧ (k = 0 ↔ checkE g = none) ∧ CR.ret (.tuple [.int .i64 3, .int .i64 j]) none h1 = .ret (.tuple [.int .i64 k, .int .i64 j']) none h' := fun j => ⟨3, j, h1, g1, ⟨fun e => (by cases e), fun e => absurd e hE⟩, rfl⟩
    by_cases b1 : 60 < g.terms.length
    · have e1 : decide ((g.terms.length : Int) > 60) = true := decide_eq_true (by omega)
      simp only [zaa, zac, zae, zah, zai, zaj, zak, zal, zam, zan, zao, zaq, zax, zay, zaz, zbi, zbk, zbl, zbm, Nat.reduceEqDiff, zbn, zbo, zby, zcc, zcm, List.all_cons, List.all_nil, Bool.and_self, List.getElem?_cons_zero, List.getElem?_cons_succ, Nat.zero_add, Nat.add_zero, zdb, zdc, zdf, r_2, a_t, a_v, zdo, zdp, zdq, zdr, zdt, zeb, zec, zef, zeg, zen, zeo, zep, if_true, if_false, hh1, o1.load1, e1]
      exact fin _
    · have e1 : decide ((g.terms.length : Int) > 60) = false := decide_eq_false (by omega)
      by_cases b2 : 60 < g.nonterms.length
      · have e2 : decide ((g.nonterms.length : Int) > 60) = true := decide_eq_true (by omega)
        simp only [zaa, zac, zae, zah, zai, zaj, zak, zal, zam, zan, zao, zaq, zax, zay, zaz, zbi, zbk, zbl, zbm, Nat.reduceEqDiff, zbn, zbo, zby, zcc, zcm, List.all_cons, List.all_nil, Bool.and_self, List.getElem?_cons_zero, List.getElem?_cons_succ, Nat.zero_add, Nat.add_zero, zdb, zdc, zdd, zdf, r_2, a_t, a_v, zdo, zdp, zdq, zdr, zds, zdt, zeb, zec, zef, zeg, zen, zeo, zep, if_true, if_false, hh1, o1.load1, e1, e2]
        exact fin _
      · have e2 : decide ((g.nonterms.length : Int) > 60) = false := decide_eq_false (by omega)
        by_cases b3 : 60 < g.terms.length + g.nonterms.length
        · have e3 : decide (((g.terms.length + g.nonterms.length : Nat) : Int) > 60) = true := decide_eq_true (by omega)
          simp only [zaa, zac, zae, zah, zai, zaj, zak, zal, zam, zan, zao, zaq, zax, zay, zaz, zbi, zbk, zbl, zbm, Nat.reduceEqDiff, zbn, zbo, zby, zcc, zch, zcm, List.all_cons, List.all_nil, Bool.and_self, List.getElem?_cons_zero, List.getElem?_cons_succ, Nat.zero_add, Nat.add_zero, zdb, zdc, zdd, zdf, r_2, a_t, a_v, zdo, zdp, zdq, zdr, zds, zdt, zeb, zec, zef, zeg, zen, zeo, zep, if_true, if_false, hh1, o1.load1, e1, e2, w0, e3]
          exact fin _
        · have e3 : decide (((g.terms.length + g.nonterms.length : Nat) : Int) > 60) = false := decide_eq_false (by omega)
          have e4 : decide ((g.rules.length : Int) > 120) = true := decide_eq_true (by omega)
          simp only [zaa, zac, zae, zah, zai, zaj, zak, zal, zam, zao, zaq, zax, zay, zaz, zbi, zbk, zbl, zbm, Nat.reduceEqDiff, zbn, zbo, zby, zcc, zch, zcm, List.all_cons, List.all_nil, Bool.and_self, List.getElem?_cons_zero, List.getElem?_cons_succ, Nat.zero_add, Nat.add_zero, zdb, zdc, zdd, r_2, a_t, a_v, zdo, zdp, zdq, zds, zdt, zeb, zec, zef, zeg, zen, zeo, zep, if_true, if_false, hh1, o1.load1, e1, e2, w0, e3, e4]
          exact fin _
  have e1 : decide ((g.terms.length : Int) > 60) = false := decide_eq_false (by omega)
  have e2 : decide ((g.nonterms.length : Int) > 60) = false := decide_eq_false (by omega)
  have e3 : decide (((g.terms.length + g.nonterms.length : Nat) : Int) > 60) = false := decide_eq_false (by omega)
  have e4 : decide ((g.rules.length : Int) > 120) = false := decide_eq_false (by omega)
  have hE1 : checkE g = if (namesB g.terms && namesB g.nonterms) = false then some (.sent 10) else if (decide (g.axi < 0) || decide (g.axi ≥ (g.nonterms.length : Int))) = true then some (.sent 1) else firstRule g.terms.length g.nonterms.length g.rules 0 := by
    unfold checkE
    rw [if_neg ?_]
    simp only [Bool.or_eq_true, decide_eq_true_eq]
    omega
  simp only [zaa, zab, zac, zae, zai, zaj, zak, zal, zam, zap, zaq, zas, zax, zay, zbi, zbk, List.map_cons, List.map_nil, zbl, zbm, Nat.reduceEqDiff, zbn, zbo, zby, zcc, zch, zcm, List.all_cons, List.all_nil, Bool.and_self, List.getElem?_cons_zero, List.getElem?_cons_succ, Nat.zero_add, Nat.add_zero, zdb, zdc, zdd, a_t, a_v, zdo, zdp, zdq, zds, zdt, zeb, zec, zef, zeg, zen, zeo, zep, zes, if_true, if_false, hh1, o1.load1, e1, e2, w0, e3, e4]
  refine (named_ok HN (ht.grow g1) rfl (by omega)).mono fun r1 hr1 => ?_
  have fin : ∀ (k j : Int) (h' : Hp), Grow h h' → k ≠ 0 → checkE g ≠ none → ∃ (k' j' : Int) (h2 : Hp), Grow h h2 ∧ (k' = 0 ↔ checkE g = none) ∧ CR.ret (.tuple [.int .i64 k, .int .i64 j]) none h' = .ret (.tuple [.int .i64 k', .int .i64 j']) none h2 := fun k j h' gg hk hE => ⟨k, j, h', gg, ⟨fun e => absurd e hk, fun e => absurd e hE⟩, rfl⟩
  cases hT : namesB g.terms with
  | false =>
    have hE : checkE g ≠ none := by rw [hE1, if_pos (by rw [hT]; rfl)]; simp
    simp only [hr1, hT, zaa, zac, zae, zah, zai, zaj, zak, zal, zam, zan, zao, zaq, zav, zax, zay, zaz, zbi, zbk, Nat.reduceEqDiff, zcp, Bool.not_false, zdb, zdc, zdf, r_2, a_t, a_v, zdo, zdp, zdq, zdr, zdw, if_true, if_false]
    exact fin _ _ _ g1 (by omega) hE
  | true =>
  simp only [hr1, hT, zaj, zal, zam, zaq, zas, zav, zax, zbi, zbk, List.map_cons, List.map_nil, Nat.reduceEqDiff, zcp, Bool.not_true, List.getElem?_cons_zero, List.getElem?_cons_succ, Nat.zero_add, zdb, zdc, zdd, a_t, zdo, zdp, zdw, zeb, zec, zef, zeg, zes, if_true, if_false, o1.load1]
  refine (named_ok HN (hn.grow g1) rfl (by omega)).mono fun r2 hr2 => ?_
  cases hN2 : namesB g.nonterms with
  | false =>
    have hE : checkE g ≠ none := by rw [hE1, if_pos (by rw [hT, hN2]; rfl)]; simp
    simp only [hr2, hN2, zaa, zac, zae, zah, zai, zaj, zak, zal, zam, zao, zaq, zav, zax, zay, zaz, zbi, zbk, Nat.reduceEqDiff, zcp, Bool.not_false, zdb, zdc, zdd, r_2, a_t, a_v, zdo, zdp, zdq, zds, zdw, if_true, if_false]
    exact fin _ _ _ g1 (by omega) hE
  | true =>
  rw [if_neg (by rw [hT, hN2]; simp)] at hE1
  by_cases c5 : g.nonterms.length = 0
  · have e5 : ((g.nonterms.length : Int) == 0) = true := bq_eq (by omega)
    have hE : checkE g ≠ none := by rw [hE1, if_pos (by simp only [Bool.or_eq_true, decide_eq_true_eq]; omega)]; simp
    simp only [hr2, hN2, zaa, zab, zac, zae, zah, zai, zaj, zak, zal, zam, zan, zao, zap, zaq, zav, zax, zay, zaz, zbi, zbk, Nat.reduceEqDiff, Option.map_some, zcp, zcq, zcu, Bool.not_true, zdb, zdc, zdd, zdf, r_2, a_t, a_v, zdo, zdp, zdq, zdr, zds, zdu, zdw, if_true, if_false, e5]
    exact fin _ _ _ g1 (by omega) hE
  have e5 : ((g.nonterms.length : Int) == 0) = false := bq_ne (by omega)
  by_cases c6 : g.axi < 0
  · have e6 : decide (g.axi < 0) = true := decide_eq_true c6
    have hE : checkE g ≠ none := by rw [hE1, if_pos (by simp only [Bool.or_eq_true, decide_eq_true_eq]; omega)]; simp
    simp only [hr2, hN2, zaa, zab, zac, zae, zah, zai, zaj, zak, zal, zam, zan, zao, zap, zaq, zav, zax, zay, zaz, zbi, zbk, Nat.reduceEqDiff, Option.map_some, zck, zcp, zcq, zcu, Bool.not_true, List.getElem?_cons_zero, List.getElem?_cons_succ, Nat.zero_add, zdb, zdc, zdd, zdf, r_2, a_t, a_v, zdo, zdp, zdq, zdr, zds, zdt, zdu, zdw, zeb, zec, zef, zeg, if_true, if_false, o1.load1, e5, e6]
    exact fin _ _ _ g1 (by omega) hE
  have e6 : decide (g.axi < 0) = false := decide_eq_false c6
  by_cases c7 : g.axi ≥ (g.nonterms.length : Int)
  · have e7 : decide (g.axi ≥ (g.nonterms.length : Int)) = true := decide_eq_true c7
    have hE : checkE g ≠ none := by rw [hE1, if_pos (by simp only [Bool.or_eq_true, decide_eq_true_eq]; omega)]; simp
    simp only [hr2, hN2, zaa, zab, zac, zae, zah, zai, zaj, zak, zal, zam, zao, zap, zaq, zav, zax, zay, zaz, zbi, zbk, Nat.reduceEqDiff, Option.map_some, zck, zcn, zcp, zcq, zcu, Bool.not_true, List.getElem?_cons_zero, List.getElem?_cons_succ, Nat.zero_add, zdb, zdc, zdd, r_2, a_t, a_v, zdo, zdp, zdq, zds, zdt, zdu, zdw, zeb, zec, zef, zeg, if_true, if_false, o1.load1, e5, e6, e7]
    exact fin _ _ _ g1 (by omega) hE
  have e7 : decide (g.axi ≥ (g.nonterms.length : Int)) = false := decide_eq_false c7
  rw [if_neg (by rw [e6, e7]; simp)] at hE1
  have bad : ∀ (i : Nat) (hi : i < g.rules.length), ruleE g.terms.length g.nonterms.length g.rules[i] ≠ none → checkE g ≠ none := fun i hi hne => by
    rw [hE1]
    cases hq : ruleE g.terms.length g.nonterms.length g.rules[i] with
    | none => exact absurd hq hne
    | some k => exact firstRule_some hi hq
  simp only [hr2, hN2, zaa, zab, zac, zae, zaf, zai, zaj, zak, zal, zam, zap, zaq, zav, zax, zay, zbi, zbk, Nat.reduceEqDiff, Option.map_some, zck, zcn, zcp, zcq, zcu, Bool.not_true, List.getElem?_cons_zero, List.getElem?_cons_succ, Nat.zero_add, zdb, zdc, zdd, a_t, a_v, zdo, zdp, zdq, zds, zdt, zdu, zdw, zeb, zec, zef, zeg, if_true, if_false, o1.load1, e5, e6, e7]
  refine s_loop (fun kk st => ∃ (i : Nat) (F : Frm) (h' : Hp), kk + i = g.rules.length ∧ st = ⟨F, [], none, h'⟩ ∧ gt F 1 = .ptr (some (h.next, 0)) ∧ gt F 4 = .int .i64 g.terms.length ∧ gt F 5 = .int .i64 g.nonterms.length ∧ gt F 6 = .int .i64 i ∧ Grow h1 h' ∧ ∀ (j : Nat) (hj : j < i) (hj2 : j < g.rules.length), ruleE g.terms.length g.nonterms.length g.rules[j] = none) g.rules.length
    ⟨0, _, h1, rfl, rfl, by simp only [zbk, Nat.reduceEqDiff, if_true, if_false], by simp only [zbk, Nat.reduceEqDiff, if_true, if_false], by simp only [zbk, Nat.reduceEqDiff, if_true, if_false], by simp only [zbk, Nat.reduceEqDiff, if_true, if_false]; rfl, .refl _, fun j hj => by omega⟩ ?_
  rintro kk _ ⟨i, F, h2, hkk, rfl, q1, q4, q5, q6, gg, hall⟩
  have o2 := o1.grow gg
  have G2 := g1.trans gg
  by_cases hi : i < g.rules.length
  · have d1 : decide ((i : Int) < (g.rules.length : Int)) = true := decide_eq_true (by omega)
    have w1 : IntKind.i64.wrap ((i : Int) + 1) = ((i + 1 : Nat) : Int) := by rw [wrap_i64 (by omega) (by omega)]; rfl
    obtain ⟨b, o, a', c', rfl, hat, hin⟩ := (hR.grow G2).get hi
    have hrl := hr g.rules[i] (List.getElem_mem hi)
    have hld := hat.loadL
    simp only [List.length_cons, List.length_nil, Nat.zero_add, Nat.reduceAdd, zbn] at hld
    have g3 := Grow.new h2 (newBlk [.int .i64 0, .slice none 0 (.ex 0)] (I.t 101))
    have o3 := Own.of_new h2 [.int .i64 0, .slice none 0 (.ex 0)] (I.t 101)
    generalize hh3 : h2.new (newBlk [.int .i64 0, .slice none 0 (.ex 0)] (I.t 101)) = h3 at g3 o3
    have s3 := o3.storeL 0 [.int .i64 g.rules[i].left, .slice a' g.rules[i].right.length c'] (by simp) (by simp) rfl
    rw [show splice [V.int .i64 0, .slice none 0 (.ex 0)] 0 [.int .i64 g.rules[i].left, .slice a' g.rules[i].right.length c'] = [.int .i64 g.rules[i].left, .slice a' g.rules[i].right.length c'] from rfl] at s3
    have o4 := o3.put [.int .i64 g.rules[i].left, .slice a' g.rules[i].right.length c']
    have g4 : Grow h2 (h3.put h2.next (newBlk [.int .i64 g.rules[i].left, .slice a' g.rules[i].right.length c'] (I.t 101))) := g3.put (Nat.le_refl _) _
    generalize h3.put h2.next (newBlk [.int .i64 g.rules[i].left, .slice a' g.rules[i].right.length c'] (I.t 101)) = h4 at s3 o4 g4
    have o24 := o2.grow g4
    have G4 := G2.trans g4
    by_cases c8 : 32 < g.rules[i].right.length
    · have e8 : decide ((g.rules[i].right.length : Int) > 32) = true := decide_eq_true (by omega)
      have hE := bad i hi (by unfold ruleE; rw [if_pos c8]; simp)
      simp only [zaa, zab, zac, zae, zaf, zah, zai, zaj, zak, zal, zam, zao, zaq, zar, zax, zay, zaz, zbd, zbi, zbj, zbk, Nat.reduceEqDiff, Option.map_some, Nat.reduceAdd, zbo, zck, zcm, Bool.and_self, List.getElem?_cons_zero, List.getElem?_cons_succ, Nat.zero_add, r_2, Int.toNat_natCast, zdh, a_t, a_v, zdo, zdp, zdt, zeb, zec, zed, zee, zef, zeg, zeh, zei, zej, zek, zel, zem, zeo, zep, if_true, if_false, List.length_cons, List.length_nil, q1, q6, o2.load1, d1, hld, hh3, s3, o4.load1, e8]
      exact fin _ _ _ G4 (by omega) hE
    have e8 : decide ((g.rules[i].right.length : Int) > 32) = false := decide_eq_false (by omega)
    by_cases c9 : g.rules[i].left < 0
    · have e9 : decide (g.rules[i].left < 0) = true := decide_eq_true c9
      have hE := bad i hi (by unfold ruleE; rw [if_neg c8, if_pos (by simp [c9])]; simp)
      simp only [zaa, zab, zac, zae, zaf, zah, zai, zaj, zak, zal, zam, zan, zao, zap, zaq, zar, zax, zay, zaz, zbd, zbi, zbj, zbk, Nat.reduceEqDiff, Option.map_some, Nat.reduceAdd, zbo, zck, zcm, Bool.and_self, List.getElem?_cons_zero, List.getElem?_cons_succ, Nat.zero_add, Nat.add_zero, zdb, zdc, zdf, r_2, Int.toNat_natCast, zdh, a_t, a_v, zdo, zdp, zdq, zdr, zdt, zeb, zec, zed, zee, zef, zeg, zeh, zei, zej, zek, zel, zem, zeo, zep, if_true, if_false, List.length_cons, List.length_nil, q1, q6, o2.load1, d1, hld, hh3, s3, o4.load1, e8, e9]
      exact fin _ _ _ G4 (by omega) hE
    have e9 : decide (g.rules[i].left < 0) = false := decide_eq_false c9
    by_cases c10 : g.rules[i].left ≥ (g.nonterms.length : Int)
    · have e10 : decide (g.rules[i].left ≥ (g.nonterms.length : Int)) = true := decide_eq_true c10
      have hE := bad i hi (by unfold ruleE; rw [if_neg c8, if_pos (by simp [c10])]; simp)
      simp only [zaa, zab, zac, zae, zaf, zah, zai, zaj, zak, zal, zam, zao, zap, zaq, zar, zax, zay, zaz, zbd, zbi, zbj, zbk, Nat.reduceEqDiff, Option.map_some, Nat.reduceAdd, zbo, zck, zcm, zcn, Bool.and_self, List.getElem?_cons_zero, List.getElem?_cons_succ, Nat.zero_add, Nat.add_zero, zdb, zdc, zdd, r_2, Int.toNat_natCast, zdh, a_t, a_v, zdo, zdp, zdq, zds, zdt, zeb, zec, zed, zee, zef, zeg, zeh, zei, zej, zek, zel, zem, zeo, zep, if_true, if_false, List.length_cons, List.length_nil, q1, q5, q6, o2.load1, d1, hld, hh3, s3, o4.load1, e8, e9, e10]
      exact fin _ _ _ G4 (by omega) hE
    have e10 : decide (g.rules[i].left ≥ (g.nonterms.length : Int)) = false := decide_eq_false c10
    simp only [zaa, zab, zac, zae, zaf, zai, zaj, zak, zal, zam, zao, zap, zaq, zar, zax, zay, zbi, zbj, zbk, Nat.reduceEqDiff, Option.map_some, Nat.reduceAdd, zbo, zck, zcm, zcn, Bool.and_self, List.getElem?_cons_zero, List.getElem?_cons_succ, Nat.zero_add, Nat.add_zero, zdb, zdc, zdd, Int.toNat_natCast, zdh, a_t, a_v, zdo, zdp, zdq, zds, zdt, zeb, zec, zed, zee, zef, zeg, zeh, zei, zej, zek, zel, zem, zeo, zep, if_true, if_false, List.length_cons, List.length_nil, q1, q5, q6, o2.load1, d1, hld, hh3, s3, o4.load1, e8, e9, e10]
    refine s_loop (fun jj st => ∃ (k : Nat) (F : Frm), jj + k = g.rules[i].right.length ∧ st = ⟨F, [], none, h4⟩ ∧ gt F 1 = .ptr (some (h.next, 0)) ∧ gt F 4 = .int .i64 g.terms.length ∧ gt F 5 = .int .i64 g.nonterms.length ∧ gt F 6 = .int .i64 i ∧ gt F 7 = .ptr (some (h2.next, 0)) ∧ gt F 8 = .int .i64 k ∧ ∀ (q : Nat) (hq : q < k) (hq2 : q < g.rules[i].right.length), badS g.terms.length g.nonterms.length g.rules[i].right[q] = false) g.rules[i].right.length
      ⟨0, _, rfl, rfl, by simp only [zbk, Nat.reduceEqDiff, if_false, q1], by simp only [zbk, Nat.reduceEqDiff, if_false, q4], by simp only [zbk, Nat.reduceEqDiff, if_false, q5], by simp only [zbk, Nat.reduceEqDiff, if_false, q6], by simp only [zbk, Nat.reduceEqDiff, if_true, if_false], by simp only [zbk, Nat.reduceEqDiff, if_true, if_false]; rfl, fun q hq => by omega⟩ ?_
    clear q1 q4 q5 q6 F
    rintro jj _ ⟨k, F, hjj, rfl, q1, q4, q5, q6, q7, q8, hno⟩
    by_cases hk : k < g.rules[i].right.length
    · have d2 : decide ((k : Int) < (g.rules[i].right.length : Int)) = true := decide_eq_true (by omega)
      have w2 : IntKind.i64.wrap ((k : Int) + 1) = ((k + 1 : Nat) : Int) := by rw [wrap_i64 (by omega) (by omega)]; rfl
      have w3 : IntKind.i64.wrap (0 - (g.nonterms.length : Int)) = -(g.nonterms.length : Int) := by rw [wrap_i64 (by omega) (by omega)]; omega
      obtain ⟨b3, o3', rfl, hx, _⟩ := (hin.grow g4).get hk
      simp only [zbn] at hx
      have hbadI : badS g.terms.length g.nonterms.length g.rules[i].right[k] = true → checkE g ≠ none := fun hb => bad i hi (by
        unfold ruleE
        rw [if_neg c8, if_pos (by rw [any_at hk hb]; simp)]
        simp)
      by_cases c11 : g.rules[i].right[k] ≥ (g.terms.length : Int)
      · have e11 : decide (g.rules[i].right[k] ≥ (g.terms.length : Int)) = true := decide_eq_true c11
        have hE := hbadI (by unfold badS; rw [e11]; rfl)
        simp only [zaa, zab, zac, zae, zaf, zah, zai, zaj, zak, zal, zam, zan, zao, zaq, zax, zay, zaz, zbd, zbi, zbk, Nat.reduceEqDiff, zck, zcn, Bool.and_self, List.getElem?_cons_zero, List.getElem?_cons_succ, Nat.zero_add, zdb, zdc, zdf, r_2, Nat.mul_one, Int.toNat_natCast, zdh, a_t, a_v, zdo, zdp, zdq, zdr, zdt, zeb, zec, zed, zee, zef, zeg, zeo, zep, if_true, if_false, q4, q6, q7, q8, o4.load1, d2, hx, e11]
        exact fin _ _ _ G4 (by omega) hE
      have e11 : decide (g.rules[i].right[k] ≥ (g.terms.length : Int)) = false := decide_eq_false c11
      by_cases c12 : g.rules[i].right[k] < -(g.nonterms.length : Int)
      · have e12 : decide (g.rules[i].right[k] < -(g.nonterms.length : Int)) = true := decide_eq_true c12
        have hE := hbadI (by unfold badS; rw [e11, e12]; rfl)
        simp only [zaa, zab, zac, zae, zaf, zah, zai, zaj, zak, zal, zam, zao, zaq, zax, zay, zaz, zbd, zbi, zbk, Nat.reduceEqDiff, zck, zcn, zco, Bool.and_self, List.getElem?_cons_zero, List.getElem?_cons_succ, Nat.zero_add, zdb, zdc, zdd, r_2, Nat.mul_one, Int.toNat_natCast, zdh, a_t, a_v, zdo, zdp, zdq, zds, zdt, zdw, zeb, zec, zed, zee, zef, zeg, zeo, zep, if_true, if_false, q4, q5, q6, q7, q8, o4.load1, d2, hx, e11, w3, e12]
        exact fin _ _ _ G4 (by omega) hE
      have e12 : decide (g.rules[i].right[k] < -(g.nonterms.length : Int)) = false := decide_eq_false c12
      simp only [zaa, zab, zac, zae, zaf, zai, zaj, zak, zal, zam, zao, zap, zaq, zax, zay, zbc, zbi, zbk, Nat.reduceEqDiff, zch, zck, zcn, zco, Bool.and_self, List.getElem?_cons_zero, List.getElem?_cons_succ, Nat.zero_add, zdb, zdc, zdd, Nat.mul_one, Int.toNat_natCast, zdh, a_t, a_v, zdo, zdp, zdq, zds, zdt, zdw, zeb, zec, zed, zee, zef, zeg, zeo, zep, if_true, if_false, q4, q5, q7, q8, o4.load1, d2, hx, e11, w3, e12, w2]
      refine ⟨jj - 1, by omega, k + 1, _, by omega, rfl, by simp only [zbk, Nat.reduceEqDiff, if_false, q1], by simp only [zbk, Nat.reduceEqDiff, if_false, q4], by simp only [zbk, Nat.reduceEqDiff, if_false, q5], by simp only [zbk, Nat.reduceEqDiff, if_false, q6], by simp only [zbk, Nat.reduceEqDiff, if_false, q7], by simp only [zbk, Nat.reduceEqDiff, if_true, if_false], fun q hq hq2 => ?_⟩
      rcases Nat.lt_succ_iff_lt_or_eq.1 hq with h | h
      · exact hno q h hq2
      · subst h; unfold badS; rw [e11, e12]; rfl
    · have d2 : decide ((k : Int) < (g.rules[i].right.length : Int)) = false := decide_eq_false (by omega)
      have hg0 : ruleE g.terms.length g.nonterms.length g.rules[i] = none := by
        unfold ruleE
        rw [if_neg c8, if_neg ?_]
        rw [e9, e10, any_no fun q hq => hno q (by omega) hq]
        simp
      simp only [zaa, zac, zae, zag, zah, zai, zaj, zak, zal, zam, zap, zaq, zax, zay, zba, zbc, zbe, zbi, zbk, Nat.reduceEqDiff, zch, zck, List.getElem?_cons_zero, List.getElem?_cons_succ, Nat.zero_add, r_2, a_t, a_v, zdo, zdp, zdt, zeb, zec, zef, zeg, zeo, zep, if_true, if_false, q6, q7, q8, o4.load1, d2, w1]
      refine ⟨kk - 1, by omega, i + 1, _, h4, by omega, rfl, by simp only [zbk, Nat.reduceEqDiff, if_false, q1], by simp only [zbk, Nat.reduceEqDiff, if_false, q4], by simp only [zbk, Nat.reduceEqDiff, if_false, q5], by simp only [zbk, Nat.reduceEqDiff, if_true, if_false], gg.trans g4, fun j hj hj2 => ?_⟩
      rcases Nat.lt_succ_iff_lt_or_eq.1 hj with h | h
      · exact hall j h hj2
      · subst h; exact hg0
  · have d1 : decide ((i : Int) < (g.rules.length : Int)) = false := decide_eq_false (by omega)
    have hE0 : checkE g = none := by
      rw [hE1]
      exact firstRule_nil fun j hj => hall j (by omega) hj
    simp only [zaa, zac, zae, zag, zah, zai, zaj, zak, zal, zam, zap, zaq, zax, zay, zba, zbe, zbi, zbk, Nat.reduceEqDiff, zck, List.getElem?_cons_zero, List.getElem?_cons_succ, Nat.zero_add, r_2, a_t, a_v, zdo, zdp, zdt, zeb, zec, zef, zeg, zeo, zep, if_true, if_false, q1, q6, o2.load1, d1]
    exact ⟨0, -1, h2, G2, ⟨fun _ => hE0, fun _ => rfl⟩, rfl⟩
end Go.Vm
