/- What backmap.Chain comes to, the walk. -/
import Derived.Test.YthebkalnpmkkpaaGreatDoorWpG5
import Derived.Test.YthebkalnpmkkpaaGreatDoorLeastPure
set_option linter.unusedVariables false
set_option linter.unusedSimpArgs false
namespace Go.Vm
open Ch
variable {P : Program} {Y : Fns} {I : Ids}
theorem sum_le {c : Nat} : ∀ {l : List Nat}, (∀ x ∈ l, x ≤ c) → l.sum ≤ l.length * c
  | [], h => by simp
  | x :: l, h => by
    have := sum_le (l := l) fun y hy => h y (List.mem_cons_of_mem _ hy)
    have := h x (List.mem_cons_self ..)
    simp only [List.sum_cons, List.length_cons, Nat.succ_mul]
    omega
def left (n : Nat) (far : List Nat) : Nat := zeros far * (n * n + 1) + far.sum
theorem Ch.Far.sum {rules : List GRule} {n to : Nat} {far : List Nat} (h : Far rules n to far) : far.sum ≤ n * n := by
  have := sum_le (c := n) (l := far) fun x hx => by
    obtain ⟨i, hi, rfl⟩ := List.getElem_of_mem hx
    exact h.le (List.getElem?_eq_getElem hi)
  rw [h.len] at this
  exact this
theorem Ch.Far.left {rules : List GRule} {n to : Nat} {a b : List Nat} (h : Far rules n to a) (hl : less a b) : left n a < left n b := by
  have := h.sum
  unfold Vm.left
  rcases hl with h1 | ⟨h1, h2⟩
  · have := Nat.mul_le_mul_right (n * n + 1) (Nat.succ_le_of_lt h1)
    rw [Nat.succ_mul] at this
    omega
  · rw [h1]; omega
theorem Ch.Far.leD {rules : List GRule} {n to : Nat} {far : List Nat} (h : Far rules n to far) (i : Nat) : far.getD i 0 ≤ n := by
  rw [List.getD_eq_getElem?_getD]
  cases hg : far[i]? with
  | none => simp
  | some v => exact h.le hg
theorem Grow.thenKeep {n : Nat} {a b c : Hp} (g : Grow a b) (k : Keep n b c) (hn : a.next ≤ n) : Grow a c := ⟨Nat.le_trans g.next k.next, fun i hi => (k.get i (by omega)).trans (g.get i hi)⟩
/-- What a chain comes to. -/
structure ChainIs (h : Hp) (g : Gram) (x y : Int) (v : V) (ok : Bool) : Prop where
  is : ∃ a li c, v = .slice a li.length c ∧ Ints h a li ∧ (ok = false → li = []) ∧ (ok = true → ∃ (i j : Nat), x = i ∧ y = j ∧ leads g.rules i li = some j ∧ li.length < g.nonterms.length)
  iff : ok = true ↔ checkE g = none ∧ ∃ (i j : Nat), x = i ∧ y = j ∧ i < g.nonterms.length ∧ j < g.nonterms.length ∧ Path g.rules i j
theorem ChainIs.no {h : Hp} {g : Gram} {x y : Int} (hn : ¬ (checkE g = none ∧ ∃ (i j : Nat), x = i ∧ y = j ∧ i < g.nonterms.length ∧ j < g.nonterms.length ∧ Path g.rules i j)) : ChainIs h g x y (.slice none 0 (.ex 0)) false :=
  ⟨⟨none, [], .ex 0, rfl, ⟨by simp, .inl rfl⟩, fun _ => rfl, fun e => by cases e⟩, by simp; simpa using hn⟩
/-- What a chain is: a list of one's own, the least of the shortest. -/
structure ChainX (n e : Nat) (h : Hp) (g : Gram) (x y : Int) (v : V) (ok : Bool) : Prop where
  is : ∃ (a : Option Nat) (ln : List Nat), v = .slice (a.map fun b => (b, 0)) ln.length (.ex ln.length) ∧ (a = none → ln = []) ∧ (∀ b, a = some b → n ≤ b ∧ b < h.next ∧ h.get b = some (ambB (fv ln) e)) ∧ ln.length ≤ 60 ∧ (ok = false → ln = []) ∧ (ok = true → ∃ (i j : Nat), x = i ∧ y = j ∧ Least g.rules i j ln)
theorem ChainX.no {n e : Nat} {h : Hp} {g : Gram} {x y : Int} : ChainX n e h g x y (.slice none 0 (.ex 0)) false :=
  ⟨none, [], rfl, fun _ => rfl, fun b hb => (by cases hb), Nat.zero_le _, fun _ => rfl, fun e => (by cases e)⟩
set_option maxHeartbeats 2000000 in
theorem chain_ok (H : FnIs P Y (I.f 138) 125 [.tmp 6, .tmp 7] (c138 I)) (Hk : FnIs P Y (I.f 334) 9 [.tmp 2] (c334 I)) (Hi : FnIs P Y (I.f 372) 19 [.tmp 4] (c372 I)) (Hx : FnIs P Y (I.f 373) 31 [.tmp 4] (c373 I)) (T3 : TyIs P (I.t 3) 1 8 [.int .i64 0])
    (Hn : FnIs P Y (I.f 142) 20 [.tmp 2, .tmp 3] (c142 I)) (Hc : FnIs P Y (I.f 324) 69 [.tmp 2] (c324 I)) (Hr : FnIs P Y (I.f 503) 28 [.tmp 4] (c503 I)) (H1 : FnIs P Y (I.f 650) 17 [.tmp 3] (c650 I)) (H2 : FnIs P Y (I.f 363) 9 [.tmp 4] (c363 I)) (H3 : FnIs P Y (I.f 527) 19 [.tmp 4] (c527 I))
    (N0 : FnIs P Y (I.f 502) 13 [.tmp 2] (c502 I)) (N1 : FnIs P Y (I.f 649) 26 [.tmp 4] (c649 I)) (N2 : FnIs P Y (I.f 764) 9 [.tmp 4] (c764 I)) (N3 : FnIs P Y (I.f 696) 19 [.tmp 4] (c696 I))
    {h : Hp} (G : Glob I h) {cs : List V} {g : Gram} (hg : GramC h cs g) (hb : g.nonterms.length ≤ 9223372036854775807) (hrr : ∀ r ∈ g.rules, r.right.length ≤ 9223372036854775807) (fr to : Int) :
    CW P Y (I.f 138) [.agg cs, .int .i64 fr, .int .i64 to] none h (fun q => ∃ v ok h', Grow h h' ∧ ChainIs h' g fr to v ok ∧ ChainX h.next (I.t 3) h' g fr to v ok ∧ q = .ret (.tuple [v, .bool ok]) none h') := by
  refine CW_ic H (Nat.le_of_ble_eq_true rfl) ?_
  have hg0 := hg
  obtain ⟨ta, tc, na, nc, ra, rc, rfl, ht, hn, hR⟩ := hg
  unfold c138
  have g1 := (Grow.new h (newBlk [.slice ta g.terms.length tc, .slice na g.nonterms.length nc, .int .i64 g.axi, .slice ra g.rules.length rc] (I.t 33)))
  have o1 := Own.of_new h [.slice ta g.terms.length tc, .slice na g.nonterms.length nc, .int .i64 g.axi, .slice ra g.rules.length rc] (I.t 33)
  have n1 := next_new h (newBlk [.slice ta g.terms.length tc, .slice na g.nonterms.length nc, .int .i64 g.axi, .slice ra g.rules.length rc] (I.t 33))
  generalize hh1 : h.new (newBlk [.slice ta g.terms.length tc, .slice na g.nonterms.length nc, .int .i64 g.axi, .slice ra g.rules.length rc] (I.t 33)) = h1 at g1 o1 n1
  have g2 := Grow.new h1 (newBlk [.int .i64 fr] (I.t 3))
  have o2 := Own.of_new h1 [.int .i64 fr] (I.t 3)
  have n2 := next_new h1 (newBlk [.int .i64 fr] (I.t 3))
  generalize hh2 : h1.new (newBlk [.int .i64 fr] (I.t 3)) = h2 at g2 o2 n2
  have o1 := o1.grow g2
  have g2 := g1.trans g2
  have l1 := o1.loadL 0 4
  simp only [List.length_cons, List.length_nil, Nat.reduceAdd, Nat.reduceLeDiff, if_true, List.drop_zero, List.take_succ_cons, List.take_zero] at l1
  simp only [zaa, zac, zai, zaj, zak, zal, zam, zaq, zas, zax, zay, zbi, zbk, List.map_cons, List.map_nil, zbl, zbm, Nat.reduceEqDiff, Option.map_some, Nat.reduceAdd, zbn, zbo, zbp, zby, zcc, List.all_cons, List.all_nil, Bool.and_self, List.getElem?_cons_zero, List.getElem?_cons_succ, Nat.zero_add, a_t, a_v, zdo, zdp, zeb, zec, zef, zeg, zeh, zei, zen, zeo, zep, zes, if_true, if_false, hh1, hh2, l1, o1.load1]
  refine (check_ok Hc Hr H1 H2 H3 N0 N1 N2 N3 (G.grow g2) (hg0.grow g2) hb hrr).mono ?_
  rintro _ ⟨v, h3, g3, hv, rfl⟩
  have hnil := hv.isNil
  cases hck : checkE g with
  | some e =>
    rw [hck] at hnil
    simp only [zaa, zac, zae, zah, zai, zaj, zak, zal, zam, zan, zao, zaq, zav, zax, zay, zaz, zbi, zbk, Nat.reduceEqDiff, Option.map_some, zct, Bool.not_false, zdb, zdc, zdf, r_2, a_t, a_v, zdo, zdp, zdq, zdr, zdv, if_true, if_false, hnil, Option.isNone_some]
    exact ⟨_, _, h3, g2.trans g3, .no (by simp [hck]), .no, rfl⟩
  | none =>
  rw [hck] at hnil
  have FI := fine_of hck
  have B := FI.inB
  have n60 := FI.nonterms
  have r120 := FI.rules
  have o1 := o1.grow g3
  have o2 := o2.grow g3
  have G3 := g2.trans g3
  by_cases c1 : fr < 0
  · have e1 : decide (fr < 0) = true := by simp; omega
    simp only [zaa, zac, zae, zah, zai, zaj, zak, zal, zam, zan, zao, zaq, zav, zax, zay, zaz, zbi, zbk, Nat.reduceEqDiff, Option.map_some, zck, zct, Bool.not_true, List.getElem?_cons_zero, zdb, zdc, zdd, zdf, r_2, a_t, a_v, zdo, zdp, zdq, zdr, zds, zdt, zdv, zef, zeg, if_true, if_false, hnil, Option.isNone_none, o2.load1, e1]
    exact ⟨_, _, h3, G3, .no (by rintro ⟨_, i, j, rfl, _⟩; omega), .no, rfl⟩
  have e1 : decide (fr < 0) = false := by simp; omega
  by_cases c2 : fr ≥ (g.nonterms.length : Int)
  · have e2 : decide (fr ≥ (g.nonterms.length : Int)) = true := by simp; omega
    simp only [zaa, zac, zae, zah, zai, zaj, zak, zal, zam, zan, zao, zaq, zav, zax, zay, zaz, zbi, zbk, Nat.reduceEqDiff, Option.map_some, zck, zcn, zct, Bool.not_true, List.getElem?_cons_zero, zdb, zdc, zdd, zdf, r_2, a_t, a_v, zdo, zdp, zdq, zdr, zds, zdt, zdv, zef, zeg, if_true, if_false, hnil, Option.isNone_none, o2.load1, e1, e2]
    exact ⟨_, _, h3, G3, .no (by rintro ⟨_, i, j, rfl, _⟩; omega), .no, rfl⟩
  have e2 : decide (fr ≥ (g.nonterms.length : Int)) = false := by simp; omega
  by_cases c3 : to < 0
  · have e3 : decide (to < 0) = true := by simp; omega
    simp only [zaa, zac, zae, zah, zai, zaj, zak, zal, zam, zan, zao, zaq, zav, zax, zay, zaz, zbi, zbk, Nat.reduceEqDiff, Option.map_some, zck, zcn, zct, Bool.not_true, List.getElem?_cons_zero, zdb, zdc, zdd, zdf, r_2, a_t, a_v, zdo, zdp, zdq, zdr, zds, zdt, zdv, zef, zeg, if_true, if_false, hnil, Option.isNone_none, o2.load1, e1, e2, e3]
    exact ⟨_, _, h3, G3, .no (by rintro ⟨_, i, j, _, rfl, _⟩; omega), .no, rfl⟩
  have e3 : decide (to < 0) = false := by simp; omega
  by_cases c4 : to ≥ (g.nonterms.length : Int)
  · have e4 : decide (to ≥ (g.nonterms.length : Int)) = true := by simp; omega
    simp only [zaa, zac, zae, zah, zai, zaj, zak, zal, zam, zao, zaq, zav, zax, zay, zaz, zbi, zbk, Nat.reduceEqDiff, Option.map_some, zck, zcn, zct, Bool.not_true, List.getElem?_cons_zero, zdb, zdc, zdd, r_2, a_t, a_v, zdo, zdp, zdq, zds, zdt, zdv, zef, zeg, if_true, if_false, hnil, Option.isNone_none, o2.load1, e1, e2, e3, e4]
    exact ⟨_, _, h3, G3, .no (by rintro ⟨_, i, j, _, rfl, _⟩; omega), .no, rfl⟩
  have e4 : decide (to ≥ (g.nonterms.length : Int)) = false := by simp; omega
  obtain ⟨x0, rfl⟩ := Int.eq_ofNat_of_zero_le (a := fr) (by omega)
  obtain ⟨y0, rfl⟩ := Int.eq_ofNat_of_zero_le (a := to) (by omega)
  have hx0 : x0 < g.nonterms.length := by omega
  have hy0 : y0 < g.nonterms.length := by omega
  have z1 : decide ((g.nonterms.length : Int) ≤ (g.nonterms.length : Int)) = true := by simp
  have z2 : decide ((g.nonterms.length : Int) ≤ 2 ^ 40) = true := by simp; omega
  have z3 : decide (((8 : Nat) : Int) * (g.nonterms.length : Int) ≤ 2 ^ 40) = true := by simp; omega
  have z4 : decide ((y0 : Int) < (g.nonterms.length : Int)) = true := by simp; omega
  have er : reps g.nonterms.length [.int .i64 0] = fv (List.replicate g.nonterms.length 0) := by rw [reps_one]; simp [fv]
  have g4 := Grow.new h3 (newBlk (fv (List.replicate g.nonterms.length 0)) (I.t 3))
  have o4 := Own.of_new h3 (fv (List.replicate g.nonterms.length 0)) (I.t 3)
  have n4 := next_new h3 (newBlk (fv (List.replicate g.nonterms.length 0)) (I.t 3))
  simp only [zaa, zab, zac, zae, zai, zaj, zak, zal, zam, zap, zaq, zav, zax, zay, zbi, zbk, Nat.reduceEqDiff, Option.map_some, zbt, zck, zcn, zct, Bool.and_self, Bool.not_true, List.getElem?_cons_zero, Nat.zero_add, zdb, zdc, zdd, Int.toNat_natCast, zdh, a_t, a_v, zdo, zdp, zdq, zds, zdt, zdv, zef, zeg, zej, zek, zem, zfe, zff, if_true, if_false, List.length_cons, List.length_nil, hnil, Option.isNone_none, o2.load1, e1, e2, e3, e4, z1, z2, z3, er]
  generalize hh4 : h3.new (newBlk (fv (List.replicate g.nonterms.length 0)) (I.t 3)) = h4 at g4 o4 n4
  have g5 := Grow.new h4 (newBlk [.slice none 0 (.ex 0)] (I.t 69))
  have o5 := Own.of_new h4 [.slice none 0 (.ex 0)] (I.t 69)
  generalize hh5 : h4.new (newBlk [.slice none 0 (.ex 0)] (I.t 69)) = h5 at g5 o5
  have hst5 := o5.storeL 0 [.slice (some (h3.next, 0)) g.nonterms.length (.ex g.nonterms.length)] (by simp) (by simp) rfl
  have o6 := o5.put (splice [.slice none 0 (.ex 0)] 0 [.slice (some (h3.next, 0)) g.nonterms.length (.ex g.nonterms.length)])
  have g6 := g5.put (Nat.le_refl _) (newBlk (splice [.slice none 0 (.ex 0)] 0 [.slice (some (h3.next, 0)) g.nonterms.length (.ex g.nonterms.length)]) (I.t 69))
  simp only [splice, List.take_zero, List.nil_append, List.length_cons, List.length_nil, Nat.zero_add, List.drop_succ_cons, List.drop_nil, List.append_nil] at hst5 o6 g6
  generalize hh6 : h5.put h4.next (newBlk [.slice (some (h3.next, 0)) g.nonterms.length (.ex g.nonterms.length)] (I.t 69)) = h6 at o6 g6 hst5
  have o7 := o4.grow g6
  have hst7 := o7.storeL y0 [.int .i64 1] (by simp) (by simp [fv_len]; omega) rfl
  have hset : splice (fv (List.replicate g.nonterms.length 0)) y0 [.int .i64 1] = fv ((List.replicate g.nonterms.length 0).set y0 1) := by
    rw [splice_one (by rw [fv_len]; simpa using hy0)]
    exact setF _ y0 1
  rw [hset] at hst7
  have ow := o7.put (fv ((List.replicate g.nonterms.length 0).set y0 1))
  have ob := o6.put_ne (b := h3.next) (newBlk (fv ((List.replicate g.nonterms.length 0).set y0 1)) (I.t 3)) (by omega)
  have gw := (g4.trans g6).put (b := h3.next) (Nat.le_refl _) (newBlk (fv ((List.replicate g.nonterms.length 0).set y0 1)) (I.t 3))
  simp only [zaa, zac, zaf, zai, zaj, zak, zal, zam, zaq, zar, zax, zay, zbi, zbj, zbk, Nat.reduceEqDiff, zbp, Bool.and_self, List.getElem?_cons_zero, Nat.zero_add, Nat.mul_one, Int.toNat_natCast, zdh, a_t, a_v, zdo, zdp, zed, zee, zef, zeg, zej, zek, zel, if_true, if_false, List.length_cons, List.length_nil, hst5, o6.load1, z4, hst7]
  have hfar0 : Far g.rules g.nonterms.length y0 ((List.replicate g.nonterms.length 0).set y0 1) := Far.init hy0
  generalize (List.replicate g.nonterms.length 0).set y0 1 = far0 at ow ob gw hfar0
  generalize h6.put h3.next (newBlk (fv far0) (I.t 3)) = h7 at ow ob gw
  clear hst7 hset o7 hst5 hh6 hh5 o6 g6 o5 g5
  -- the renamings, over and over
  refine s_loop (fun k st => ∃ (far : List Nat) (F : Frm) (h' : Hp) (more : Bool), k = 2 * left g.nonterms.length far + (if more then 1 else 0) ∧ st = ⟨F, [], none, h'⟩ ∧ Grow h3 h' ∧ Own h' h3.next (fv far) (I.t 3) ∧
      Own h' h4.next [.slice (some (h3.next, 0)) g.nonterms.length (.ex g.nonterms.length)] (I.t 69) ∧ Far g.rules g.nonterms.length y0 far ∧ (more = false → stable far g.rules) ∧
      gt F 2 = .int .i64 y0 ∧ gt F 3 = .ptr (some (h.next, 0)) ∧ gt F 4 = .ptr (some (h1.next, 0)) ∧ gt F 9 = .ptr (some (h4.next, 0)) ∧ gt F 10 = .bool more) _
    ⟨far0, _, _, true, rfl, rfl, gw, ow, ob, hfar0, by simp, by simp only [zbk, Nat.reduceEqDiff, if_true, if_false], by simp only [zbk, Nat.reduceEqDiff, if_true, if_false], by simp only [zbk, Nat.reduceEqDiff, if_true, if_false], by simp only [zbk, Nat.reduceEqDiff, if_true, if_false], by simp only [zbk, Nat.reduceEqDiff, if_true, if_false]⟩ ?_
  clear ow ob gw hfar0
  rintro k _ ⟨far, F, h5, more, hk, rfl, hgr, hown, hob, hfar, hst, q2, q3, q4, q9, q10⟩
  cases more with
  | true =>
    have o5 := o1.grow hgr
    simp only [zaa, zab, zac, zae, zaf, zai, zaj, zak, zal, zam, zao, zaq, zax, zay, zbi, zbk, Nat.reduceEqDiff, List.getElem?_cons_zero, List.getElem?_cons_succ, Nat.zero_add, a_t, a_v, zdo, zdp, zeb, zec, zef, zeg, zeo, zep, if_true, if_false, q3, q10, o5.load1]
    refine s_loop (fun k st => ∃ (i : Nat) (far' : List Nat) (F : Frm) (h' : Hp) (more : Bool), k + i = g.rules.length ∧ st = ⟨F, [], none, h'⟩ ∧ Grow h3 h' ∧ Own h' h3.next (fv far') (I.t 3) ∧
        Own h' h4.next [.slice (some (h3.next, 0)) g.nonterms.length (.ex g.nonterms.length)] (I.t 69) ∧ Far g.rules g.nonterms.length y0 far' ∧
        (more = false → far' = far ∧ ∀ (j : Nat) (r : GRule), j < i → g.rules[j]? = some r → better far r = false) ∧ (more = true → left g.nonterms.length far' < left g.nonterms.length far) ∧
        gt F 2 = .int .i64 y0 ∧ gt F 3 = .ptr (some (h.next, 0)) ∧ gt F 4 = .ptr (some (h1.next, 0)) ∧ gt F 9 = .ptr (some (h4.next, 0)) ∧ gt F 10 = .bool more ∧ gt F 48 = .slice ra g.rules.length rc ∧ gt F 49 = .int .i64 g.rules.length ∧ gt F 50 = .int .i64 i) g.rules.length
      ⟨0, far, _, h5, false, rfl, rfl, hgr, hown, hob, hfar, fun _ => ⟨rfl, fun j r hj => by omega⟩, by simp, by simp only [zbk, Nat.reduceEqDiff, if_false, q2], by simp only [zbk, Nat.reduceEqDiff, if_false, q3], by simp only [zbk, Nat.reduceEqDiff, if_false, q4], by simp only [zbk, Nat.reduceEqDiff, if_false, q9], by simp only [zbk, Nat.reduceEqDiff, if_true, if_false], by simp only [zbk, Nat.reduceEqDiff, if_true, if_false], by simp only [zbk, Nat.reduceEqDiff, if_true, if_false], by simp only [zbk, Nat.reduceEqDiff, if_true, if_false]; rfl⟩ ?_
    clear hgr hown hob o5 q2 q3 q4 q9 q10 F
    rintro kk _ ⟨i, far', F, h6, more, hk2, rfl, hgr, hown, hob, hfar', hsame, hless, q2, q3, q4, q9, q10, q48, q49, q50⟩
    by_cases hi : i < g.rules.length
    · have e6 : decide ((i : Int) < (g.rules.length : Int)) = true := by simp; omega
      obtain ⟨b, o, a', c', rfl, hat, hin⟩ := (hR.grow (G3.trans hgr)).get hi
      have hld := hat.loadL
      simp only [List.length_cons, List.length_nil, Nat.zero_add, Nat.reduceAdd, zbn] at hld
      have g7 := Grow.new h6 (newBlk [.int .i64 0, .slice none 0 (.ex 0)] (I.t 101))
      have o7 := Own.of_new h6 [.int .i64 0, .slice none 0 (.ex 0)] (I.t 101)
      generalize hh7 : h6.new (newBlk [.int .i64 0, .slice none 0 (.ex 0)] (I.t 101)) = h7 at g7 o7
      have hst := o7.storeL 0 [.int .i64 g.rules[i].left, .slice a' g.rules[i].right.length c'] (by simp) (by simp) rfl
      have o8 := o7.put (splice [.int .i64 0, .slice none 0 (.ex 0)] 0 [.int .i64 g.rules[i].left, .slice a' g.rules[i].right.length c'])
      have g8 := g7.put (Nat.le_refl _) (newBlk (splice [.int .i64 0, .slice none 0 (.ex 0)] 0 [.int .i64 g.rules[i].left, .slice a' g.rules[i].right.length c']) (I.t 101))
      simp only [splice, List.take_zero, List.nil_append, List.length_cons, List.length_nil, Nat.reduceAdd, List.drop_succ_cons, List.drop_nil, List.append_nil] at hst o8 g8
      generalize hh8 : h7.put h6.next (newBlk [.int .i64 g.rules[i].left, .slice a' g.rules[i].right.length c'] (I.t 101)) = h8 at o8 g8 hst
      have l8 := o8.loadL 0 2
      simp only [List.length_cons, List.length_nil, Nat.reduceAdd, Nat.reduceLeDiff, if_true, List.drop_zero, List.take_succ_cons, List.take_zero] at l8
      simp only [zaa, zab, zac, zae, zaf, zai, zaj, zak, zal, zam, zao, zaq, zar, zas, zax, zay, zbi, zbj, zbk, List.map_cons, List.map_nil, Nat.reduceEqDiff, Option.map_some, Nat.reduceAdd, zbo, zck, Bool.and_self, Nat.zero_add, Int.toNat_natCast, zdh, a_t, zdo, zdt, zed, zee, zeh, zei, zej, zek, zel, zem, zes, if_true, if_false, List.length_cons, List.length_nil, q48, q49, q50, e6, hld, hh7, hst, l8]
      have hri := List.getElem_mem hi
      obtain ⟨f1, f2, f3, f4⟩ := FI.each _ hri
      refine (ren_ok Hn ⟨a', c', rfl, hin.grow g8⟩ (fun s hs => by have := (f4 s hs).2; omega)).mono ?_
      rintro _ ⟨h9, g9, rfl⟩
      have o9 := o8.grow g9
      have gw := g8.trans g9
      have ow := hown.grow gw
      have owb := hob.grow gw
      have next : ∀ (far2 : List Nat) (m2 : Bool) (F2 : Frm) (hh : Hp), Grow h3 hh → Own hh h3.next (fv far2) (I.t 3) → Own hh h4.next [.slice (some (h3.next, 0)) g.nonterms.length (.ex g.nonterms.length)] (I.t 69) → Far g.rules g.nonterms.length y0 far2 →
          (m2 = false → far2 = far ∧ ∀ (j : Nat) (r : GRule), j < i + 1 → g.rules[j]? = some r → better far r = false) → (m2 = true → left g.nonterms.length far2 < left g.nonterms.length far) →
          gt F2 2 = .int .i64 y0 → gt F2 3 = .ptr (some (h.next, 0)) → gt F2 4 = .ptr (some (h1.next, 0)) → gt F2 9 = .ptr (some (h4.next, 0)) → gt F2 10 = .bool m2 → gt F2 48 = .slice (some (b, o)) g.rules.length rc → gt F2 49 = .int .i64 g.rules.length → gt F2 50 = .int .i64 (IntKind.i64.wrap ((i : Int) + 1)) →
          ∃ j, j < kk ∧ ∃ (i : Nat) (far' : List Nat) (F : Frm) (h' : Hp) (more : Bool), j + i = g.rules.length ∧ S.mk F2 [] none hh = ⟨F, [], none, h'⟩ ∧ Grow h3 h' ∧ Own h' h3.next (fv far') (I.t 3) ∧
        Own h' h4.next [.slice (some (h3.next, 0)) g.nonterms.length (.ex g.nonterms.length)] (I.t 69) ∧ Far g.rules g.nonterms.length y0 far' ∧
        (more = false → far' = far ∧ ∀ (j : Nat) (r : GRule), j < i → g.rules[j]? = some r → better far r = false) ∧ (more = true → left g.nonterms.length far' < left g.nonterms.length far) ∧
        gt F 2 = .int .i64 y0 ∧ gt F 3 = .ptr (some (h.next, 0)) ∧ gt F 4 = .ptr (some (h1.next, 0)) ∧ gt F 9 = .ptr (some (h4.next, 0)) ∧ gt F 10 = .bool more ∧ gt F 48 = .slice (some (b, o)) g.rules.length rc ∧ gt F 49 = .int .i64 g.rules.length ∧ gt F 50 = .int .i64 i := fun far2 m2 F2 hh k1 k2 k3 k4 k5 k6 k7 k8 k9 k10 k11 k12 k13 k14 => by
        rw [wrap_i64 (by omega) (by omega)] at k14
        exact ⟨kk - 1, by omega, i + 1, far2, F2, hh, m2, by omega, rfl, k1, k2, k3, k4, k5, k6, k7, k8, k9, k10, k11, k12, k13, k14⟩
      have same : better far' g.rules[i] = false → (more = false → far' = far ∧ ∀ (j : Nat) (r : GRule), j < i + 1 → g.rules[j]? = some r → better far r = false) := fun hw e => ⟨(hsame e).1, fun j r hj hr => by
        rcases Nat.lt_or_ge j i with h | h
        · exact (hsame e).2 j r h hr
        · obtain rfl : j = i := by omega
          rw [List.getElem?_eq_getElem hi] at hr
          cases hr
          rw [← (hsame e).1]
          exact hw⟩
      cases hm : ren g.rules[i] with
      | none =>
        have hw : better far' g.rules[i] = false := by unfold better; rw [hm]
        simp only [zaa, zab, zac, zad, zae, zai, zaj, zak, zal, zam, zan, zap, zaq, zav, zax, zay, zbc, zbg, zbi, zbk, Nat.reduceEqDiff, zbn, zch, List.getElem?_cons_zero, List.getElem?_cons_succ, zdb, zdc, zde, Option.getD_none, Option.isSome_none, a_t, a_v, zdo, zdp, zdq, zds, zdt, zew, zex, if_true, if_false, w_und, Option.getD_none, Option.isSome_none, q50]
        refine next far' more _ h9 (hgr.trans gw) ow owb hfar' (same hw) hless ?_ ?_ ?_ ?_ ?_ ?_ ?_ ?_ <;> try (simp only [zbk, Nat.reduceEqDiff, if_true, if_false, q2, q3, q4, q9, q10, q48, q49]; done)
      | some m =>
        obtain ⟨he, hl, hmn, hm0, hl0⟩ := ren_edge B hri hm
        have d1 : decide (0 ≤ g.rules[i].left) = true := by simp; omega
        have d2 : decide (g.rules[i].left < (g.nonterms.length : Int)) = true := by simp; omega
        have d3 : decide (0 ≤ m) = true := by simp; omega
        have d4 : decide (m < (g.nonterms.length : Int)) = true := by simp; omega
        have u1 := getF (far := far') (i := g.rules[i].left.toNat) (by rw [hfar'.len]; exact hl)
        have u2 := getF (far := far') (i := m.toNat) (by rw [hfar'.len]; exact hmn)
        have b1 := hfar'.leD g.rules[i].left.toNat
        have b2 := hfar'.leD m.toNat
        have hwd : better far' g.rules[i] = (decide (0 < far'.getD m.toNat 0) && (decide (far'.getD g.rules[i].left.toNat 0 = 0) || decide (far'.getD m.toNat 0 + 1 < far'.getD g.rules[i].left.toNat 0))) := by unfold better; rw [hm]
        have w1 : IntKind.i64.wrap (((far'.getD m.toNat 0 : Nat) : Int) + 1) = ((far'.getD m.toNat 0 : Nat) : Int) + 1 := wrap_i64 (by omega) (by omega)
        have go : better far' g.rules[i] = true → left g.nonterms.length (Ch.relax far' g.rules[i]) < left g.nonterms.length far' ∧ Far g.rules g.nonterms.length y0 (Ch.relax far' g.rules[i]) ∧ Ch.relax far' g.rules[i] = far'.set g.rules[i].left.toNat (far'.getD m.toNat 0 + 1) := fun hw => by
          obtain ⟨k1, k2⟩ := hfar'.relax B hri hw
          exact ⟨k1.left k2, k1, by unfold Ch.relax; rw [hm]⟩
        have hst2 := ow.storeL g.rules[i].left.toNat [.int .i64 (((far'.getD m.toNat 0 : Nat) : Int) + 1)] (List.cons_ne_nil _ _) (by rw [fv_len, hfar'.len]; exact hl) rfl
        rw [splice_one (by rw [fv_len, hfar'.len]; exact hl), show (((far'.getD m.toNat 0 : Nat) : Int) + 1) = ((far'.getD m.toNat 0 + 1 : Nat) : Int) by omega, setF] at hst2
        have ow2 := ow.put (fv (far'.set g.rules[i].left.toNat (far'.getD m.toNat 0 + 1)))
        have owb2 := owb.put_ne (b := h3.next) (newBlk (fv (far'.set g.rules[i].left.toNat (far'.getD m.toNat 0 + 1))) (I.t 3)) (by omega)
        have gw2 := (hgr.trans gw).put (Nat.le_refl _) (newBlk (fv (far'.set g.rules[i].left.toNat (far'.getD m.toNat 0 + 1))) (I.t 3))
        have stop : better far' g.rules[i] = true → ∀ (F2 : Frm), gt F2 2 = .int .i64 y0 → gt F2 3 = .ptr (some (h.next, 0)) → gt F2 4 = .ptr (some (h1.next, 0)) → gt F2 9 = .ptr (some (h4.next, 0)) → gt F2 10 = .bool true → gt F2 48 = .slice (some (b, o)) g.rules.length rc → gt F2 49 = .int .i64 g.rules.length → gt F2 50 = .int .i64 (IntKind.i64.wrap ((i : Int) + 1)) → _ := fun hw F2 => by
          obtain ⟨k1, k2, k3⟩ := go hw
          rw [k3] at k1 k2
          exact next _ true F2 _ gw2 ow2 owb2 k2 (fun e => by cases e) (fun _ => by
            cases more with
            | true => have := hless rfl; omega
            | false => obtain ⟨rfl, _⟩ := hsame rfl; exact k1)
        by_cases c5 : 0 < far'.getD m.toNat 0
        · have e7 : decide (((far'.getD m.toNat 0 : Nat) : Int) > 0) = true := decide_eq_true (by omega)
          by_cases c6 : far'.getD g.rules[i].left.toNat 0 = 0
          · have e8 : (((far'.getD g.rules[i].left.toNat 0 : Nat) : Int) == 0) = true := bq_eq (by omega)
            simp only [zaa, zad, zae, zai, zaj, zak, zal, zam, zan, zao, zaq, zav, zax, zay, zbg, zbi, zbk, Nat.reduceEqDiff, Option.map_some, zbn, zbp, zch, zcm, zcq, zcu, Bool.and_self, List.getElem?_cons_zero, List.getElem?_cons_succ, Nat.zero_add, Nat.add_zero, zdb, zdc, zdf, zdg, Nat.mul_one, Option.getD_some, Option.isSome_some, a_t, a_v, zdo, zdp, zdq, zdr, zdt, zdu, zeb, zec, zed, zee, zef, zeg, zej, zek, zew, zex, if_true, if_false, List.length_cons, List.length_nil, Option.getD_some, Option.isSome_some, q9, o9.load1, ow.load1, owb.load1, d1, d2, d3, d4, u1, u2, e7, e8, w1]
            rw [show (((far'.getD m.toNat 0 : Nat) : Int) + 1) = ((far'.getD m.toNat 0 + 1 : Nat) : Int) by omega, hst2]
            simp only [zac, zai, zaj, zak, zal, zam, zaq, zar, zax, zay, zbc, zbg, zbi, zbj, zbk, Nat.reduceEqDiff, zch, a_t, a_v, zdo, zdp, zdt, zel, if_true, if_false, q50]
            refine stop (by rw [hwd, decide_eq_true c5, decide_eq_true c6]; rfl) _ ?_ ?_ ?_ ?_ ?_ ?_ ?_ ?_ <;> try (simp only [zbk, Nat.reduceEqDiff, if_true, if_false, q2, q3, q4, q9, q48, q49, q50]; done)
          · have e8 : (((far'.getD g.rules[i].left.toNat 0 : Nat) : Int) == 0) = false := bq_ne (by omega)
            by_cases c7 : far'.getD m.toNat 0 + 1 < far'.getD g.rules[i].left.toNat 0
            · have e9 : decide (((far'.getD g.rules[i].left.toNat 0 : Nat) : Int) > ((far'.getD m.toNat 0 : Nat) : Int) + 1) = true := decide_eq_true (by omega)
              simp only [zaa, zad, zae, zai, zaj, zak, zal, zam, zao, zaq, zav, zax, zay, zbg, zbi, zbk, Nat.reduceEqDiff, Option.map_some, zbn, zbp, zch, zcm, zcq, zcu, Bool.and_self, List.getElem?_cons_zero, List.getElem?_cons_succ, Nat.zero_add, Nat.add_zero, zdb, zdc, zdd, zdg, Nat.mul_one, Option.getD_some, Option.isSome_some, a_t, a_v, zdo, zdp, zdq, zdr, zds, zdt, zdu, zeb, zec, zed, zee, zef, zeg, zej, zek, zew, zex, if_true, if_false, List.length_cons, List.length_nil, Option.getD_some, Option.isSome_some, q9, o9.load1, ow.load1, owb.load1, d1, d2, d3, d4, u1, u2, e7, e8, e9, w1]
              rw [show (((far'.getD m.toNat 0 : Nat) : Int) + 1) = ((far'.getD m.toNat 0 + 1 : Nat) : Int) by omega, hst2]
              simp only [zac, zai, zaj, zak, zal, zam, zaq, zar, zax, zay, zbc, zbg, zbi, zbj, zbk, Nat.reduceEqDiff, zch, a_t, a_v, zdo, zdp, zdt, zel, if_true, if_false, q50]
              refine stop (by rw [hwd, decide_eq_true c5, decide_eq_true c7]; simp) _ ?_ ?_ ?_ ?_ ?_ ?_ ?_ ?_ <;> try (simp only [zbk, Nat.reduceEqDiff, if_true, if_false, q2, q3, q4, q9, q48, q49, q50]; done)
            · have e9 : decide (((far'.getD g.rules[i].left.toNat 0 : Nat) : Int) > ((far'.getD m.toNat 0 : Nat) : Int) + 1) = false := decide_eq_false (by omega)
              simp only [zaa, zab, zac, zad, zae, zai, zaj, zak, zal, zam, zap, zaq, zav, zax, zay, zbc, zbg, zbi, zbk, Nat.reduceEqDiff, Option.map_some, zbn, zch, zcm, zcq, zcu, Bool.and_self, List.getElem?_cons_zero, List.getElem?_cons_succ, Nat.zero_add, Nat.add_zero, zdb, zdc, zdd, zdg, Nat.mul_one, Option.getD_some, Option.isSome_some, a_t, a_v, zdo, zdp, zdq, zdr, zds, zdt, zdu, zeb, zec, zed, zee, zef, zeg, zew, zex, if_true, if_false, Option.getD_some, Option.isSome_some, q9, q50, o9.load1, ow.load1, owb.load1, d1, d2, d3, d4, u1, u2, e7, e8, e9, w1]
              refine next far' more _ h9 (hgr.trans gw) ow owb hfar' (same (by rw [hwd, decide_eq_false c6, decide_eq_false c7]; simp)) hless ?_ ?_ ?_ ?_ ?_ ?_ ?_ ?_ <;> try (simp only [zbk, Nat.reduceEqDiff, if_true, if_false, q2, q3, q4, q9, q10, q48, q49]; done)
        · have e7 : decide (((far'.getD m.toNat 0 : Nat) : Int) > 0) = false := decide_eq_false (by omega)
          simp only [zaa, zab, zac, zad, zae, zai, zaj, zak, zal, zam, zan, zap, zaq, zav, zax, zay, zbc, zbg, zbi, zbk, Nat.reduceEqDiff, zbn, zch, zcm, Bool.and_self, List.getElem?_cons_zero, List.getElem?_cons_succ, Nat.zero_add, zdb, zdc, zde, zdg, Nat.mul_one, Option.getD_some, Option.isSome_some, a_t, a_v, zdo, zdp, zdq, zdr, zds, zdt, zed, zee, zef, zeg, zew, zex, if_true, if_false, w_und, Option.getD_some, Option.isSome_some, q9, q50, ow.load1, owb.load1, d3, d4, u2, e7]
          refine next far' more _ h9 (hgr.trans gw) ow owb hfar' (same (by rw [hwd, decide_eq_false c5]; rfl)) hless ?_ ?_ ?_ ?_ ?_ ?_ ?_ ?_ <;> try (simp only [zbk, Nat.reduceEqDiff, if_true, if_false, q2, q3, q4, q9, q10, q48, q49]; done)
    · have e6 : decide ((i : Int) < (g.rules.length : Int)) = false := by simp; omega
      simp only [zaa, zac, zae, zag, zai, zaj, zak, zal, zam, zap, zaq, zax, zay, zba, zbc, zbe, zbi, zbk, Nat.reduceEqDiff, zck, a_t, zdo, zdt, zef, if_true, if_false, q49, q50, e6]
      refine ⟨2 * left g.nonterms.length far' + (if more then 1 else 0), ?_, far', _, h6, more, rfl, rfl, hgr, hown, hob, hfar', ?_, by simp only [zbk, Nat.reduceEqDiff, if_false, q2], by simp only [zbk, Nat.reduceEqDiff, if_false, q3], by simp only [zbk, Nat.reduceEqDiff, if_false, q4], by simp only [zbk, Nat.reduceEqDiff, if_false, q9], by simp only [zbk, Nat.reduceEqDiff, if_false, q10]⟩
      · cases more with
        | true => have := hless rfl; simp at hk ⊢; omega
        | false => obtain ⟨rfl, _⟩ := hsame rfl; simp at hk ⊢; omega
      · rintro rfl
        obtain ⟨rfl, hw⟩ := hsame rfl
        intro r hr
        obtain ⟨j, hj, rfl⟩ := List.getElem_of_mem hr
        exact hw j _ (by omega) (List.getElem?_eq_getElem hj)
  | false =>
    clear hk
    have hst := hst rfl
    have o1 := o1.grow hgr
    have o2 := o2.grow hgr
    have hgr := G3.trans hgr
    have z5 : decide ((x0 : Int) < (g.nonterms.length : Int)) = true := by simp; omega
    have u0 := getF (far := far) (i := x0) (by rw [hfar.len]; exact hx0)
    have hcl := hfar.leD x0
    by_cases c5 : far.getD x0 0 = 0
    · have e5 : (((far.getD x0 0 : Nat) : Int) == 0) = true := bq_eq (by omega)
      simp only [zaa, zac, zae, zag, zah, zai, zaj, zak, zal, zam, zao, zap, zaq, zax, zay, zaz, zba, zbe, zbi, zbk, Nat.reduceEqDiff, Option.map_some, zcq, zcu, Bool.and_self, List.getElem?_cons_zero, Nat.zero_add, r_2, Nat.mul_one, Int.toNat_natCast, zdh, a_t, a_v, zdo, zdp, zdu, zed, zee, zef, zeg, if_true, if_false, q4, q9, q10, o2.load1, hown.load1, hob.load1, z5, u0, e5]
      refine ⟨_, _, h5, hgr, .no ?_, .no, rfl⟩
      rintro ⟨_, i, j, hi, hj, _, _, p⟩
      obtain rfl : i = x0 := by omega
      obtain rfl : j = y0 := by omega
      have := stable_path hfar hst p
      omega
    have e5 : (((far.getD x0 0 : Nat) : Int) == 0) = false := bq_ne (by omega)
    simp only [zaa, zab, zac, zae, zaf, zag, zai, zaj, zak, zal, zam, zap, zaq, zax, zay, zba, zbe, zbi, zbk, Nat.reduceEqDiff, Option.map_some, zcq, zcu, Bool.and_self, List.getElem?_cons_zero, Nat.zero_add, Nat.mul_one, Int.toNat_natCast, zdh, a_t, a_v, zdo, zdp, zdu, zed, zee, zef, zeg, if_true, if_false, q4, q9, q10, o2.load1, hown.load1, hob.load1, z5, u0, e5]
    have gx0 : far[x0]? = some (far.getD x0 0) := by
      rw [List.getD_eq_getElem?_getD, List.getElem?_eq_getElem (by rw [hfar.len]; exact hx0)]; rfl
    have path0 := hfar.path _ _ gx0 (by omega)
    have hlow : h4.next < h5.next := hob.low
    refine s_loop (fun k st => ∃ (x : Nat) (li : List Int) (ln : List Nat) (v : V) (F : Frm) (h' : Hp), k = far.getD x 0 ∧ 0 < far.getD x 0 ∧ x < g.nonterms.length ∧ st = ⟨F, [], none, h'⟩ ∧ Grow h h' ∧ h5.next ≤ h'.next ∧
        Own h' h.next [.slice ta g.terms.length tc, .slice na g.nonterms.length nc, .int .i64 g.axi, .slice ra g.rules.length rc] (I.t 33) ∧ Own h' h1.next [.int .i64 x] (I.t 3) ∧ Own h' h3.next (fv far) (I.t 3) ∧
        Own h' h4.next [.slice (some (h3.next, 0)) g.nonterms.length (.ex g.nonterms.length)] (I.t 69) ∧ Lst h5.next h' v (li.map iv) 1 (I.t 3) ∧ leads g.rules x0 li = some x ∧ li.length + far.getD x 0 = far.getD x0 0 ∧ li = ln.map (fun (q : Nat) => (q : Int)) ∧ Pre g.rules far x0 y0 ln x ∧
        gt F 2 = .int .i64 y0 ∧ gt F 3 = .ptr (some (h.next, 0)) ∧ gt F 4 = .ptr (some (h1.next, 0)) ∧ gt F 9 = .ptr (some (h4.next, 0)) ∧ gt F 15 = v) (far.getD x0 0)
      ⟨x0, [], [], _, _, h5, rfl, by omega, hx0, rfl, hgr, Nat.le_refl _, o1, o2, hown, hob, Lst.nil _ _ _ _, rfl, by simp, rfl, Pre.nil _ _ _, by simp only [zbk, Nat.reduceEqDiff, if_false, q2], by simp only [zbk, Nat.reduceEqDiff, if_false, q3], by simp only [zbk, Nat.reduceEqDiff, if_false, q4], by simp only [zbk, Nat.reduceEqDiff, if_false, q9], by simp only [zbk, Nat.reduceEqDiff, if_true, if_false]⟩ ?_
    clear o1 o2 hown hob hgr q2 q3 q4 q9 q10 F
    rintro k _ ⟨x, li, ln, v, F, h6, hk, hp, hx, rfl, hgr, hnx, o1, o2, hown, hob, hl, hld, hlen, hln, hpre, q2, q3, q4, q9, q15⟩
    by_cases hxy : x = y0
    · subst hxy
      have e7 : ((x : Int) == (x : Int)) = true := bq_eq rfl
      have hX : ∃ (a0 : Option Nat) (c : Cap), v = .slice (a0.map fun b => (b, 0)) li.length c ∧ Ints h6 (a0.map fun b => (b, 0)) li ∧ ∀ (ok : Bool), ChainX h.next (I.t 3) h6 g (x0 : Int) (x : Int) (.slice (a0.map fun b => (b, 0)) li.length (.ex li.length)) ok ∨ ok = false := by
        have hlv : li.map iv = fv ln := by rw [hln, List.map_map]; rfl
        have hle : ln.length = li.length := by rw [hln, List.length_map]
        have h60 : li.length ≤ 60 := by have := hfar.leD x0; omega
        have hle2 : Least g.rules x0 x ln := hpre.least hst (by rw [List.getD_eq_getElem?_getD, hfar.one]; rfl) (by rw [hle]; exact hlen)
        have g3n := g3.next
        have l5 : h.next ≤ h5.next := by have := hob.low; have := G3.next; omega
        have hint := hl.ints
        rcases hl.is with ⟨rfl, h2⟩ | ⟨b, k, rfl, h2, h3, h4, h5'⟩
        · obtain rfl : li = [] := by simpa using h2
          obtain rfl : ln = [] := List.length_eq_zero_iff.1 hle
          exact ⟨none, .ex 0, rfl, ⟨by simp, .inl rfl⟩, fun ok => by
            cases ok with
            | false => exact .inr rfl
            | true => exact .inl ⟨none, [], rfl, fun _ => rfl, fun b hb => (by cases hb), Nat.zero_le _, fun e => (by cases e), fun _ => ⟨x0, x, rfl, rfl, hle2⟩⟩⟩
        · obtain ⟨a, c, e, hin⟩ := hint
          cases e
          refine ⟨some b, .tl 0, rfl, hin, fun ok => ?_⟩
          cases ok with
          | false => exact .inr rfl
          | true => exact .inl ⟨some b, ln, by rw [hle], fun e => (by cases e), fun b' e => by cases e; exact ⟨Nat.le_trans l5 h4, h5', by rw [← hlv]; exact h3⟩, by omega, fun e => (by cases e), fun _ => ⟨x0, x, rfl, rfl, hle2⟩⟩
      obtain ⟨a, c, rfl, hin, hXX⟩ := hX
      simp only [zaa, zac, zae, zag, zai, zaj, zak, zal, zam, zap, zaq, zas, zax, zay, zba, zbe, zbi, zbk, List.map_cons, List.map_nil, Nat.reduceEqDiff, Option.map_some, zcq, zct, Bool.not_true, List.getElem?_cons_zero, a_t, zdo, zdp, zdu, zef, zeg, zes, if_true, if_false, q2, q4, q15, o2.load1, e7]
      refine (clip_ok Hk _ li.length c).mono ?_
      rintro _ rfl
      simp only [zah, zai, zaj, zak, zal, zam, zaq, zav, zax, zay, zbi, zbk, Nat.reduceEqDiff, r_2, a_t, a_v, zdp, if_true, if_false]
      refine ⟨_, true, h6, hgr, ⟨⟨_, li, .ex li.length, rfl, hin, by simp, fun _ => ⟨x0, x, rfl, rfl, hld, by omega⟩⟩, ?_⟩, (hXX true).resolve_right (by simp), rfl⟩
      simp only [true_iff]
      exact ⟨hck, x0, x, rfl, rfl, hx0, hy0, path0⟩
    · have e7 : ((x : Int) == (y0 : Int)) = false := bq_ne (by omega)
      simp only [zaa, zab, zac, zae, zaf, zai, zaj, zak, zal, zam, zao, zaq, zas, zax, zay, zbi, zbk, List.map_cons, List.map_nil, Nat.reduceEqDiff, Option.map_some, zcq, zct, Bool.not_false, List.getElem?_cons_zero, List.getElem?_cons_succ, Nat.zero_add, a_t, zdo, zdp, zdu, zea, zeb, zec, zef, zeg, zes, if_true, if_false, q2, q3, q4, q9, o1.load1, o2.load1, e7]
      have hxl : x < far.length := by rw [hfar.len]; exact hx
      have ans : ∀ r ∈ g.rules, ∀ h' row, Grow h6 h' → RuleC h' row r → Answers P Y h' (I.f 373) [] [.ptr (some (h1.next, 0)), .ptr (some (h4.next, 0))] (.agg row) (nextB far x r) := fun r hr h' row gg hrc => ⟨fun h'' gg2 => by
        have oo := hob.grow (gg.trans gg2)
        rw [← hfar.len] at oo
        exact chain1_ok Hx Hn (hrc.grow gg2) (fun s hs => by have := ((FI.each _ hr).2.2.2 s hs).2; omega) (o2.grow (gg.trans gg2)) oo (hown.grow (gg.trans gg2)) hxl hp (by have := hfar.leD x; omega)
          (fun m hm => by obtain ⟨_, _, k1, k2, _⟩ := ren_edge B hr hm; exact ⟨k2, by rw [hfar.len]; exact k1⟩)⟩
      refine (idxR_ok Hi (hR.grow hgr) rfl (by omega) (callV_is Hx) ans).mono ?_
      rintro _ ⟨m, h7, hfirst, g7, rfl⟩
      obtain ⟨y, hedge, hfy, hfy0⟩ := next_rule hfar hst hxy hp
      rcases hfirst with ⟨_, hno⟩ | ⟨i, r, rfl, hri, hrn, hfst⟩
      · exfalso
        obtain ⟨r, k1, k2, k3⟩ := hedge
        have := hno r k1
        unfold nextB at this
        rw [k3] at this
        simp only [Int.toNat_natCast, Bool.and_eq_false_iff, decide_eq_false_iff_not] at this
        omega
      have hil : i < g.rules.length := by
        rcases Nat.lt_or_ge i g.rules.length with h | h
        · exact h
        · rw [List.getElem?_eq_none h] at hri; cases hri
      obtain rfl : g.rules[i] = r := by rw [List.getElem?_eq_getElem hil] at hri; exact Option.some.inj hri
      obtain ⟨z, hz, hzl, hzf⟩ : ∃ z : Nat, ren g.rules[i] = some (z : Int) ∧ g.rules[i].left = (x : Int) ∧ far.getD z 0 + 1 = far.getD x 0 := by
        unfold nextB at hrn
        cases hmr : ren g.rules[i] with
        | none => rw [hmr] at hrn; cases hrn
        | some m =>
          rw [hmr] at hrn
          obtain ⟨_, _, _, k2, _⟩ := ren_edge B (List.getElem_mem hil) hmr
          obtain ⟨z, rfl⟩ := Int.eq_ofNat_of_zero_le k2
          simp only [Bool.and_eq_true, decide_eq_true_eq] at hrn
          exact ⟨z, rfl, hrn.1, by simpa using hrn.2⟩
      have hpre' : Pre g.rules far x0 y0 (ln ++ [i]) z := hpre.step hst (by rw [List.getD_eq_getElem?_getD, hfar.one]; rfl) (by rw [← hlen, hln, List.length_map]) (by omega) ⟨_, hri, hzl, hz⟩ fun j y hjr hjf => by
        rcases Nat.lt_or_ge j i with h | h
        · exfalso
          obtain ⟨r', k1, k2, k3⟩ := hjr
          have := hfst j r' h k1
          unfold nextB at this
          rw [k3] at this
          simp only [Int.toNat_natCast, Bool.and_eq_false_iff, decide_eq_false_iff_not] at this
          omega
        · exact h
      have hzn : z < g.nonterms.length := by obtain ⟨_, _, k1, _, _⟩ := ren_edge B (List.getElem_mem hil) hz; simpa using k1
      have f1 : fillV (reps 1 [.int .i64 0]) [(0, 1, .int .i64 (i : Int))] = some [.int .i64 (i : Int)] := rfl
      have g8 := Grow.new h7 (newBlk [.int .i64 (i : Int)] (I.t 3))
      have o8 := Own.of_new h7 [.int .i64 (i : Int)] (I.t 3)
      generalize hh8 : h7.new (newBlk [.int .i64 (i : Int)] (I.t 3)) = h8 at g8 o8
      have hsrc : srcCells h8 1 (.slice (some (h7.next, 0)) 1 (.ex 1)) = some (1, [.int .i64 (i : Int)]) := by
        have := o8.loadL 0 1
        simp only [List.length_cons, List.length_nil, Nat.reduceAdd, Nat.le_refl, if_true, List.drop_zero, List.take_succ_cons, List.take_zero] at this
        simp [srcCells, this]
      have hl8 := hl.grow (g7.trans g8)
      have nx8 : h5.next ≤ h8.next := Nat.le_trans hnx (g7.trans g8).next
      have hcap := hfar.leD x0
      obtain ⟨v', h9, happ, hl9, hk9, _, b9, hv9⟩ := app_ok T3 (by omega) hl8 nx8 hsrc rfl (by omega) rfl (k := li.length) (by simp) (by omega) (by omega)
      have g3n := g3.next
      have gh8 := hgr.trans (g7.trans g8)
      have gh9 := gh8.thenKeep hk9 (by omega)
      have o1 := (o1.grow (g7.trans g8)).keep (by omega) hk9
      have o2 := (o2.grow (g7.trans g8)).keep (by omega) hk9
      have hown := (hown.grow (g7.trans g8)).keep (by omega) hk9
      have hob := (hob.grow (g7.trans g8)).keep (by omega) hk9
      obtain ⟨b, o, a', c', rfl, hat, hin⟩ := (hR.grow gh9).get hil
      have hld9 := hat.loadL
      simp only [List.length_cons, List.length_nil, Nat.zero_add, Nat.reduceAdd, zbn] at hld9
      have d1 : decide ((i : Int) < (g.rules.length : Int)) = true := by simp; omega
      simp only [zaa, zac, zai, zaj, zak, zal, zam, zaq, zas, zav, zax, zay, zbi, zbk, List.map_cons, List.map_nil, Nat.reduceEqDiff, Option.map_some, Bool.and_self, List.getElem?_cons_zero, List.getElem?_cons_succ, Nat.zero_add, Nat.mul_one, Int.toNat_natCast, zdh, a_t, zdo, zdp, zeb, zec, zed, zee, zef, zeg, zeh, zei, zes, zfg, zfh, if_true, if_false, f1, hh8, happ, q3, q15, o1.load1, d1, hld9]
      refine (ren_ok Hn ⟨a', c', rfl, hin⟩ (fun s hs => by have := ((FI.each _ (List.getElem_mem hil)).2.2.2 s hs).2; omega)).mono ?_
      rintro _ ⟨h10, g10, rfl⟩
      have o1 := o1.grow g10
      have o2 := o2.grow g10
      have hown := hown.grow g10
      have hob := hob.grow g10
      have hst10 := o2.storeL 0 [.int .i64 (z : Int)] (by simp) (by simp) rfl
      simp only [splice, List.take_zero, List.nil_append, List.length_cons, List.length_nil, Nat.zero_add, List.drop_succ_cons, List.drop_nil, List.append_nil] at hst10
      have hl11 := (hl9.grow g10).put (c := h1.next) (by omega) (newBlk [.int .i64 (z : Int)] (I.t 3))
      have e11 : li.map iv ++ [.int .i64 (i : Int)] = (li ++ [(i : Int)]).map iv := by simp
      rw [e11] at hl11
      simp only [zaj, zak, zal, zam, zaq, zar, zav, zax, zay, zbc, zbi, zbj, zbk, Nat.reduceEqDiff, zbn, zbp, List.getElem?_cons_zero, List.getElem?_cons_succ, Nat.zero_add, Option.getD_some, Option.isSome_some, a_t, zdo, zdp, zej, zek, zel, zew, zex, if_true, if_false, List.length_cons, List.length_nil, q4, hz, Option.getD_some, Option.isSome_some, hst10]
      exact ⟨far.getD z 0, by omega, z, li ++ [(i : Int)], ln ++ [i], v', _, _, rfl, by omega, hzn, rfl, (gh9.trans g10).put (by omega) _, Nat.le_trans (Nat.le_trans nx8 hk9.next) g10.next, o1.put_ne _ (by omega), o2.put _, hown.put_ne _ (by omega), hob.put_ne _ (by omega), hl11,
        leads_snoc (List.getElem?_eq_getElem hil) hzl hz li x0 hld, by rw [List.length_append, List.length_singleton]; omega, by rw [hln]; simp, hpre', by simp only [zbk, Nat.reduceEqDiff, if_false, q2], by simp only [zbk, Nat.reduceEqDiff, if_false, q3], by simp only [zbk, Nat.reduceEqDiff, if_false, q4], by simp only [zbk, Nat.reduceEqDiff, if_false, q9], by simp only [zbk, Nat.reduceEqDiff, if_true, if_false]⟩
end Go.Vm
