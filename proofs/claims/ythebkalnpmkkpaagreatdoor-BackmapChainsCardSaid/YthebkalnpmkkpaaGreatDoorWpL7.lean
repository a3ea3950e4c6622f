/- What the document's Chain comes to. -/
import Derived.Test.YthebkalnpmkkpaaGreatDoorWpL6
set_option linter.unusedVariables false
set_option linter.unusedSimpArgs false
namespace Go.Vm
open Ch
variable {P : Program} {Y : Fns} {I : Ids}
theorem RoL.getF {lo hi : Nat} {h : Hp} {v : V} {l : List Nat} (s : RoL lo hi h v (fv l)) {i : Nat} (hi' : i < l.length) : ∃ b c, v = .slice (some (b, 0)) l.length c ∧ load1 h b i = some (.int .i64 (l[i] : Nat)) := by
  obtain ⟨b, c, e, k⟩ := s.get (i := i) (by rw [fv_len]; exact hi')
  rw [fv_len] at e
  refine ⟨b, c, e, k.trans ?_⟩
  simp [fv]
theorem RoL.len {lo hi : Nat} {h : Hp} {v : V} {vs : List V} (s : RoL lo hi h v vs) : ∃ a c, v = .slice a vs.length c := by
  obtain ⟨a, c, e, _⟩ := s.is
  exact ⟨a, c, e⟩
theorem MidH.init {N bs : Nat} {h : Hp} {seen : List Bool} (hN : N = h.next) (o : Own h bs (bv seen) (I.t 4)) : MidH I N bs h h seen [] [] (.slice none 0 (.ex 0)) (.slice none 0 (.ex 0)) :=
  ⟨by omega, fun _ _ _ => rfl, o, Lst.nil _ _ _ _, ⟨[], Lst.nil _ _ _ _, rfl, fun j w l h => by simp at h⟩, fun b k k' e => by cases e⟩
/-- What the document's chain is. -/
structure ChainR (h : Hp) (g : Gram) (x y : Int) (v : V) (ok : Bool) : Prop where
  is : ∃ (lo : Nat) (ln : List Nat), RoL lo h.next h v (fv ln) ∧ (ok = false → ln = []) ∧ (ok = true → ∃ (i j : Nat), x = i ∧ y = j ∧ Least g.rules i j ln)
  iff : ok = true ↔ checkE g = none ∧ ∃ (i j : Nat), x = i ∧ y = j ∧ i < g.nonterms.length ∧ j < g.nonterms.length ∧ ∃ l, Chn g.rules i l j
theorem ChainR.no {h : Hp} {g : Gram} {x y : Int} (hn : ¬ (checkE g = none ∧ ∃ (i j : Nat), x = i ∧ y = j ∧ i < g.nonterms.length ∧ j < g.nonterms.length ∧ ∃ l, Chn g.rules i l j)) : ChainR h g x y (.slice none 0 (.ex 0)) false :=
  ⟨⟨0, [], ⟨none, .ex 0, rfl, .inl ⟨rfl, rfl⟩⟩, fun _ => rfl, fun e => by cases e⟩, by simp; simpa using hn⟩
theorem count_len (l : List Bool) : l.count false ≤ l.length := List.count_le_length
set_option maxHeartbeats 4000000 in
theorem refChain_ok (H : FnIs P Y (I.f 139) 143 [.tmp 6, .tmp 7] (c139 I)) (HC : FnIs P Y (I.f 374) 108 [.tmp 2, .tmp 3] (c374 I)) (HN : FnIs P Y (I.f 531) 39 [.tmp 2] (c531 I)) (HR : FnIs P Y (I.f 375) 20 [.tmp 2, .tmp 3] (c375 I))
    (T3 : TyIs P (I.t 3) 1 8 [.int .i64 0]) (T69 : TyIs P (I.t 69) 1 24 [.slice none 0 (.ex 0)]) {h : Hp} {cs : List V} {g : Gram} (hg : GramC h cs g) (hb1 : g.terms.length < 4611686018427387904) (hb2 : g.nonterms.length < 4611686018427387904) (hb3 : g.rules.length < 4611686018427387904) (hr : ∀ r ∈ g.rules, r.right.length ≤ 9223372036854775807) (fr to : Int) :
    CW P Y (I.f 139) [.agg cs, .int .i64 fr, .int .i64 to] none h (fun q => ∃ v ok h', Grow h h' ∧ ChainR h' g fr to v ok ∧ q = .ret (.tuple [v, .bool ok]) none h') := by
  refine CW_ic H (Nat.le_of_ble_eq_true rfl) ?_
  have hg0 := hg
  obtain ⟨ta, tc, na, nc, ra, rc, rfl, ht, hn, hR⟩ := hg
  unfold c139
  have g1 := (Grow.new h (newBlk [.slice ta g.terms.length tc, .slice na g.nonterms.length nc, .int .i64 g.axi, .slice ra g.rules.length rc] (I.t 33)))
  have o1 := Own.of_new h [.slice ta g.terms.length tc, .slice na g.nonterms.length nc, .int .i64 g.axi, .slice ra g.rules.length rc] (I.t 33)
  have n1 := next_new h (newBlk [.slice ta g.terms.length tc, .slice na g.nonterms.length nc, .int .i64 g.axi, .slice ra g.rules.length rc] (I.t 33))
  generalize hh1 : h.new (newBlk [.slice ta g.terms.length tc, .slice na g.nonterms.length nc, .int .i64 g.axi, .slice ra g.rules.length rc] (I.t 33)) = h1 at g1 o1 n1
  have l1 := o1.loadL 0 4
  simp only [List.length_cons, List.length_nil, Nat.reduceAdd, Nat.reduceLeDiff, if_true, List.drop_zero, List.take_succ_cons, List.take_zero] at l1
  simp only [zaa, zac, zai, zaj, zak, zal, zam, zaq, zas, zax, zay, zbi, zbk, List.map_cons, List.map_nil, zbl, zbm, Nat.reduceEqDiff, Option.map_some, Nat.reduceAdd, zbn, zbo, zby, zcc, List.all_cons, List.all_nil, Bool.and_self, Nat.zero_add, a_t, a_v, zdo, zdp, zeh, zei, zen, zes, if_true, if_false, hh1, l1]
  refine (refCheck_ok HC HN (hg0.grow g1) hb1 hb2 hb3 hr).mono fun r2 hr2 => ?_
  obtain ⟨k0, j0, h2, g2, hk0, hr2⟩ := hr2
  have o2 := o1.grow g2
  have G2 := g1.trans g2
  have n2 := g2.next
  cases hck : checkE g with
  | some e =>
    have e0 : (k0 == 0) = false := bq_ne fun e => by rw [hk0.1 e] at hck; cases hck
    simp only [hr2, zaa, zac, zae, zah, zai, zaj, zak, zal, zam, zan, zao, zaq, zav, zax, zay, zaz, zbi, zbk, Nat.reduceEqDiff, Option.map_some, zcq, zct, Bool.not_false, List.getElem?_cons_zero, List.getElem?_cons_succ, Nat.zero_add, zdb, zdc, zdf, r_2, a_t, a_v, zdo, zdp, zdq, zdr, zdu, zeb, zec, zef, zeg, zeo, zep, zew, zex, if_true, if_false, o2.load1, e0]
    exact ⟨_, _, h2, G2, .no (by simp [hck]), rfl⟩
  | none =>
  have e0 : (k0 == 0) = true := bq_eq (hk0.2 hck)
  have FI := fine_of hck
  have B := FI.inB
  have n60 := FI.nonterms
  have r120 := FI.rules
  by_cases c1 : fr < 0
  · have e1 : decide (fr < 0) = true := by simp; omega
    simp only [hr2, zaa, zac, zae, zah, zai, zaj, zak, zal, zam, zan, zao, zaq, zav, zax, zay, zaz, zbi, zbk, Nat.reduceEqDiff, Option.map_some, zck, zcq, zct, Bool.not_true, List.getElem?_cons_zero, List.getElem?_cons_succ, Nat.zero_add, zdb, zdc, zdd, zdf, r_2, a_t, a_v, zdo, zdp, zdq, zdr, zds, zdt, zdu, zeb, zec, zef, zeg, zeo, zep, zew, zex, if_true, if_false, o2.load1, e0, e1]
    exact ⟨_, _, h2, G2, .no (by rintro ⟨_, i, j, rfl, _⟩; omega), rfl⟩
  have e1 : decide (fr < 0) = false := by simp; omega
  by_cases c2 : fr ≥ (g.nonterms.length : Int)
  · have e2 : decide (fr ≥ (g.nonterms.length : Int)) = true := by simp; omega
    simp only [hr2, zaa, zac, zae, zah, zai, zaj, zak, zal, zam, zan, zao, zaq, zav, zax, zay, zaz, zbi, zbk, Nat.reduceEqDiff, Option.map_some, zck, zcn, zcq, zct, Bool.not_true, List.getElem?_cons_zero, List.getElem?_cons_succ, Nat.zero_add, zdb, zdc, zdd, zdf, r_2, a_t, a_v, zdo, zdp, zdq, zdr, zds, zdt, zdu, zeb, zec, zef, zeg, zeo, zep, zew, zex, if_true, if_false, o2.load1, e0, e1, e2]
    exact ⟨_, _, h2, G2, .no (by rintro ⟨_, i, j, rfl, _⟩; omega), rfl⟩
  have e2 : decide (fr ≥ (g.nonterms.length : Int)) = false := by simp; omega
  by_cases c3 : to < 0
  · have e3 : decide (to < 0) = true := by simp; omega
    simp only [hr2, zaa, zac, zae, zah, zai, zaj, zak, zal, zam, zan, zao, zaq, zav, zax, zay, zaz, zbi, zbk, Nat.reduceEqDiff, Option.map_some, zck, zcn, zcq, zct, Bool.not_true, List.getElem?_cons_zero, List.getElem?_cons_succ, Nat.zero_add, zdb, zdc, zdd, zdf, r_2, a_t, a_v, zdo, zdp, zdq, zdr, zds, zdt, zdu, zeb, zec, zef, zeg, zeo, zep, zew, zex, if_true, if_false, o2.load1, e0, e1, e2, e3]
    exact ⟨_, _, h2, G2, .no (by rintro ⟨_, i, j, _, rfl, _⟩; omega), rfl⟩
  have e3 : decide (to < 0) = false := by simp; omega
  by_cases c4 : to ≥ (g.nonterms.length : Int)
  · have e4 : decide (to ≥ (g.nonterms.length : Int)) = true := by simp; omega
    simp only [hr2, zaa, zac, zae, zah, zai, zaj, zak, zal, zam, zao, zaq, zav, zax, zay, zaz, zbi, zbk, Nat.reduceEqDiff, Option.map_some, zck, zcn, zcq, zct, Bool.not_true, List.getElem?_cons_zero, List.getElem?_cons_succ, Nat.zero_add, zdb, zdc, zdd, r_2, a_t, a_v, zdo, zdp, zdq, zds, zdt, zdu, zeb, zec, zef, zeg, zeo, zep, zew, zex, if_true, if_false, o2.load1, e0, e1, e2, e3, e4]
    exact ⟨_, _, h2, G2, .no (by rintro ⟨_, i, j, _, rfl, _⟩; omega), rfl⟩
  have e4 : decide (to ≥ (g.nonterms.length : Int)) = false := by simp; omega
  obtain ⟨x0, rfl⟩ := Int.eq_ofNat_of_zero_le (a := fr) (by omega)
  obtain ⟨y0, rfl⟩ := Int.eq_ofNat_of_zero_le (a := to) (by omega)
  have hx0 : x0 < g.nonterms.length := by omega
  have hy0 : y0 < g.nonterms.length := by omega
  have z1 : decide ((g.nonterms.length : Int) ≤ (g.nonterms.length : Int)) = true := by simp
  have z2 : decide ((g.nonterms.length : Int) ≤ 2 ^ 40) = true := by simp; omega
  have z3 : decide (((1 : Nat) : Int) * (g.nonterms.length : Int) ≤ 2 ^ 40) = true := by simp; omega
  have z4 : decide ((x0 : Int) < (g.nonterms.length : Int)) = true := by simp; omega
  have er : reps g.nonterms.length [.bool false] = bv (List.replicate g.nonterms.length false) := by rw [reps_one]; simp [bv]
  have g3 := Grow.new h2 (newBlk (bv (List.replicate g.nonterms.length false)) (I.t 4))
  have o3 := Own.of_new h2 (bv (List.replicate g.nonterms.length false)) (I.t 4)
  have n3 := next_new h2 (newBlk (bv (List.replicate g.nonterms.length false)) (I.t 4))
  simp only [hr2, zaa, zab, zac, zae, zai, zaj, zak, zal, zam, zap, zaq, zav, zax, zay, zbi, zbk, Nat.reduceEqDiff, Option.map_some, zck, zcn, zcq, zct, Bool.and_self, Bool.not_true, List.getElem?_cons_zero, List.getElem?_cons_succ, Nat.zero_add, zdb, zdc, zdd, Nat.mul_one, Int.toNat_natCast, zdh, Bool.true_and, a_t, a_v, zdo, zdp, zdq, zds, zdt, zdu, zeb, zec, zed, zee, zef, zeg, zeo, zep, zew, zex, zfe, zff, if_true, if_false, o2.load1, e0, e1, e2, e3, e4, z1, z2, z3, er]
  generalize hh3 : h2.new (newBlk (bv (List.replicate g.nonterms.length false)) (I.t 4)) = h3 at g3 o3 n3
  have hst3 := o3.storeL x0 [.bool true] (by simp) (by simp [bv_len]; omega) rfl
  have hset : splice (bv (List.replicate g.nonterms.length false)) x0 [.bool true] = bv ((List.replicate g.nonterms.length false).set x0 true) := by
    rw [splice_one (by rw [bv_len]; simpa using hx0)]
    unfold bv
    rw [List.map_set]
  rw [hset] at hst3
  have o4 := o3.put (bv ((List.replicate g.nonterms.length false).set x0 true))
  have g4 := g3.put (Nat.le_refl _) (newBlk (bv ((List.replicate g.nonterms.length false).set x0 true)) (I.t 4))
  have n4 : (h3.put h2.next (newBlk (bv ((List.replicate g.nonterms.length false).set x0 true)) (I.t 4))).next = h2.next + 1 := n3
  have hring : Ring g.rules g.nonterms.length x0 y0 0 ((List.replicate g.nonterms.length false).set x0 true) [x0] [[]] := Ring.init hx0
  have hcnt : ((List.replicate g.nonterms.length false).set x0 true).count false + 1 = g.nonterms.length := by
    rw [count_set (by rw [List.getElem?_replicate, if_pos hx0])]
    simp
  generalize (List.replicate g.nonterms.length false).set x0 true = seen0 at hst3 o4 g4 n4 hring hcnt
  generalize h3.put h2.next (newBlk (bv seen0) (I.t 4)) = h4 at hst3 o4 g4 n4
  have f5 : fillV (reps 1 [V.int .i64 0]) [(0, 1, .int .i64 (x0 : Int))] = some [.int .i64 (x0 : Int)] := rfl
  have g5 := Grow.new h4 (newBlk [.int .i64 (x0 : Int)] (I.t 3))
  have o5 := Own.of_new h4 [.int .i64 (x0 : Int)] (I.t 3)
  have n5 := next_new h4 (newBlk [.int .i64 (x0 : Int)] (I.t 3))
  generalize hh5 : h4.new (newBlk [.int .i64 (x0 : Int)] (I.t 3)) = h5 at g5 o5 n5
  have f6 : fillV (reps 1 [V.slice none 0 (.ex 0)]) [(0, 1, .slice none 0 (.ex 0))] = some [V.slice none 0 (.ex 0)] := rfl
  have g6 := Grow.new h5 (newBlk [V.slice none 0 (.ex 0)] (I.t 69))
  have o6 := Own.of_new h5 [V.slice none 0 (.ex 0)] (I.t 69)
  have n6 := next_new h5 (newBlk [V.slice none 0 (.ex 0)] (I.t 69))
  generalize hh6 : h5.new (newBlk [V.slice none 0 (.ex 0)] (I.t 69)) = h6 at g6 o6 n6
  have p5 : RoL (h2.next + 1) h6.next h6 (.slice (some (h4.next, 0)) 1 (.ex 1)) (fv [x0]) := ((o5.grow g6).rd (.ex 1) rfl).wide (by omega) (by omega)
  have p6 : RoL (h2.next + 1) h6.next h6 (.slice (some (h5.next, 0)) 1 (.ex 1)) [V.slice none 0 (.ex 0)] := (o6.rd (.ex 1) rfl).wide (by omega) (by omega)
  simp only [zaa, zac, zaf, zai, zaj, zak, zal, zam, zaq, zar, zax, zay, zbi, zbj, zbk, List.map_cons, List.map_nil, Nat.reduceEqDiff, zbq, Nat.zero_add, Nat.mul_one, a_t, a_v, zdp, zej, zek, zel, zfh, if_true, if_false, List.length_cons, List.length_nil, z4, hst3, f5, hh5, f6, hh6]
  refine s_loop (fun kk st => ∃ (d : Nat) (seen : List Bool) (at_ : List Nat) (ls : List (List Nat)) (v12 v13 : V) (ws : List V) (F : Frm) (h' : Hp), kk = 2 * seen.count false + (if at_ = [] then 0 else 1) ∧ st = ⟨F, [], none, h'⟩ ∧ Ring g.rules g.nonterms.length x0 y0 d seen at_ ls ∧ Grow h2 h' ∧
      Own h' h2.next (bv seen) (I.t 4) ∧ RoL (h2.next + 1) h'.next h' v12 (fv at_) ∧ RoL (h2.next + 1) h'.next h' v13 ws ∧ ws.length = ls.length ∧ (∀ (i : Nat) (w : V) (l : List Nat), ws[i]? = some w → ls[i]? = some l → RoL (h2.next + 1) h'.next h' w (fv l)) ∧ at_.length ≤ 60 ∧ (at_ ≠ [] → d + seen.count false ≤ 60) ∧
      gt F 2 = .int .i64 y0 ∧ gt F 3 = .ptr (some (h.next, 0)) ∧ gt F 11 = .slice (some (h2.next, 0)) g.nonterms.length (.ex g.nonterms.length) ∧ gt F 12 = v12 ∧ gt F 13 = v13) _
    ⟨0, seen0, [x0], [[]], _, _, _, _, h6, rfl, rfl, hring, (g4.trans g5).trans g6, (o4.grow g5).grow g6, p5, p6, rfl, fun i w l k1 k2 => by
      match i, k1, k2 with
      | 0, k1, k2 => cases k1; cases k2; exact ⟨none, .ex 0, rfl, .inl ⟨rfl, rfl⟩⟩
      | i + 1, k1, _ => simp at k1, by simp, fun _ => by omega, by simp only [zbk, Nat.reduceEqDiff, if_true, if_false], by simp only [zbk, Nat.reduceEqDiff, if_true, if_false], by simp only [zbk, Nat.reduceEqDiff, if_true, if_false], by simp only [zbk, Nat.reduceEqDiff, if_true, if_false], by simp only [zbk, Nat.reduceEqDiff, if_true, if_false]⟩ ?_
  clear p5 p6 hring hcnt o6 g6 n6 o5 g5 n5 o4 g4 n4 hst3 hset o3 g3 n3 hh3 hh5 hh6 f5 f6
  clear h3 h4 h5 h6 seen0
  rintro kk _ ⟨d, seen, at_, ls, v12, v13, ws, F, h3, hkk, rfl, hring, g3, o3, r12, r13, hwl, hws, hal, hdl, q2, q3, q11, q12, q13⟩
  have G3 := G2.trans g3
  have N3 := o3.low
  by_cases ha : at_ = []
  · subst ha
    obtain ⟨a12, c12, rfl⟩ := r12.len
    obtain rfl : ls = [] := List.length_eq_zero_iff.1 hring.len
    have e5 : decide (((fv []).length : Int) > 0) = false := rfl
    simp only [zaa, zac, zae, zag, zah, zai, zaj, zak, zal, zam, zap, zaq, zax, zay, zba, zbe, zbi, zbk, Nat.reduceEqDiff, zcm, r_2, a_t, a_v, zdo, zdp, zdt, zeo, zep, if_true, if_false, q12, e5]
    exact ⟨_, _, h3, G3, .no (by
      rintro ⟨_, i, j, hi, hj, _, _, l, hl⟩
      obtain rfl : i = x0 := by omega
      obtain rfl : j = y0 := by omega
      exact hring.none l hl), rfl⟩
  have hap : 0 < at_.length := List.length_pos_iff.2 ha
  have hdl := hdl ha
  rw [if_neg ha] at hkk
  have e5 : decide ((at_.length : Int) > 0) = true := decide_eq_true (by omega)
  obtain ⟨b12, c12, rfl, _⟩ := r12.getF hap
  simp only [zaa, zab, zac, zae, zaf, zai, zaj, zak, zal, zam, zao, zaq, zax, zay, zbi, zbk, Nat.reduceEqDiff, zcm, a_t, a_v, zdo, zdp, zdt, zeo, zep, if_true, if_false, q12, e5]
  -- is it the end?
  refine s_loop (fun jj st => ∃ (i : Nat) (F : Frm), jj + i = at_.length ∧ st = ⟨F, [], none, h3⟩ ∧ (∀ j, j < i → at_[j]? ≠ some y0) ∧ gt F 2 = .int .i64 y0 ∧ gt F 3 = .ptr (some (h.next, 0)) ∧ gt F 11 = .slice (some (h2.next, 0)) g.nonterms.length (.ex g.nonterms.length) ∧ gt F 12 = .slice (some (b12, 0)) at_.length c12 ∧ gt F 13 = v13 ∧
      gt F 14 = .slice none 0 (.ex 0) ∧ gt F 15 = .slice none 0 (.ex 0) ∧ gt F 16 = .int .i64 i) at_.length
    ⟨0, _, rfl, rfl, fun j hj => by omega, by simp only [zbk, Nat.reduceEqDiff, if_false, q2], by simp only [zbk, Nat.reduceEqDiff, if_false, q3], by simp only [zbk, Nat.reduceEqDiff, if_false, q11], by simp only [zbk, Nat.reduceEqDiff, if_false, q12], by simp only [zbk, Nat.reduceEqDiff, if_false, q13], by simp only [zbk, Nat.reduceEqDiff, if_true, if_false], by simp only [zbk, Nat.reduceEqDiff, if_true, if_false], by simp only [zbk, Nat.reduceEqDiff, if_true, if_false]; rfl⟩ ?_
  clear q2 q3 q11 q12 q13 F
  rintro jj _ ⟨i, F, hjj, rfl, hno, q2, q3, q11, q12, q13, q14, q15, q16⟩
  by_cases hi : i < at_.length
  · have d1 : decide ((i : Int) < (at_.length : Int)) = true := decide_eq_true (by omega)
    have w1 : IntKind.i64.wrap ((i : Int) + 1) = ((i + 1 : Nat) : Int) := by rw [wrap_i64 (by omega) (by omega)]; rfl
    obtain ⟨b', c', e, ld⟩ := r12.getF hi
    cases e
    by_cases hy : at_[i] = y0
    · have e6 : ((at_[i] : Int) == (y0 : Int)) = true := bq_eq (by rw [hy])
      have hil : i < ws.length := by rw [hwl, hring.len]; exact hi
      have hil2 : i < ls.length := by rw [hring.len]; exact hi
      obtain ⟨b13, c13, rfl, ld2⟩ := r13.get hil
      have d2 : decide ((i : Int) < (ws.length : Int)) = true := decide_eq_true (by omega)
      simp only [zaa, zab, zac, zae, zaf, zah, zai, zaj, zak, zal, zam, zao, zaq, zax, zay, zaz, zbd, zbi, zbk, Nat.reduceEqDiff, Option.map_some, zck, zcq, zcu, Bool.and_self, Nat.zero_add, r_2, Nat.mul_one, Int.toNat_natCast, zdh, a_t, a_v, zdo, zdp, zdt, zdu, zed, zee, zef, zeg, zeo, zep, if_true, if_false, q2, q12, q13, q16, d1, ld, e6, d2, ld2]
      have hl := hring.found (l := ls[i]) (by rw [List.getElem?_eq_getElem hi, hy]) (List.getElem?_eq_getElem hil2)
      exact ⟨_, _, h3, G3, ⟨⟨_, ls[i], hws i _ _ (List.getElem?_eq_getElem hil) (List.getElem?_eq_getElem hil2), fun e => (by cases e), fun _ => ⟨x0, y0, rfl, rfl, hl⟩⟩, by
        simp only [true_iff]
        exact ⟨hck, x0, y0, rfl, rfl, hx0, hy0, _, hl.chn⟩⟩, rfl⟩
    · have e6 : ((at_[i] : Int) == (y0 : Int)) = false := bq_ne (by omega)
      simp only [zaa, zab, zac, zae, zaf, zai, zaj, zak, zal, zam, zao, zap, zaq, zax, zay, zbc, zbi, zbk, Nat.reduceEqDiff, Option.map_some, zch, zck, zcq, zcu, Bool.and_self, Nat.zero_add, Nat.mul_one, Int.toNat_natCast, zdh, a_t, a_v, zdo, zdp, zdt, zdu, zed, zee, zef, zeg, zeo, zep, if_true, if_false, q2, q12, q16, d1, ld, e6, w1]
      refine ⟨jj - 1, by omega, i + 1, _, by omega, rfl, fun j hj => ?_, by simp only [zbk, Nat.reduceEqDiff, if_false, q2], by simp only [zbk, Nat.reduceEqDiff, if_false, q3], by simp only [zbk, Nat.reduceEqDiff, if_false, q11], by simp only [zbk, Nat.reduceEqDiff, if_false, q12], by simp only [zbk, Nat.reduceEqDiff, if_false, q13], by simp only [zbk, Nat.reduceEqDiff, if_false, q14], by simp only [zbk, Nat.reduceEqDiff, if_false, q15], by simp only [zbk, Nat.reduceEqDiff, if_true, if_false]⟩
      rcases Nat.lt_succ_iff_lt_or_eq.1 hj with h | h
      · exact hno j h
      · subst h
        rw [List.getElem?_eq_getElem hi]
        exact fun e => hy (Option.some.inj e)
  have d1 : decide ((i : Int) < (at_.length : Int)) = false := decide_eq_false (by omega)
  have hto : y0 ∉ at_ := fun hm => by
    obtain ⟨j, hj⟩ := List.getElem?_of_mem hm
    have := (List.getElem?_eq_some_iff.1 hj).1
    exact hno j (by omega) hj
  simp only [zaa, zac, zae, zaf, zag, zah, zai, zaj, zak, zal, zam, zap, zaq, zax, zay, zba, zbe, zbi, zbk, Nat.reduceEqDiff, zck, r_2, a_t, a_v, zdo, zdp, zdt, zeo, zep, if_true, if_false, q12, q16, d1]
  clear hno hjj d1 hi q16
  have hb6 : h2.next + 1 ≤ h3.next := N3
  refine s_loop (fun jj st => ∃ (i : Nat) (seen' : List Bool) (nx : List Nat) (mo : List (List Nat)) (v14 v15 : V) (F : Frm) (h4 : Hp), jj + i = at_.length ∧ st = ⟨F, [], none, h4⟩ ∧ Mid g.rules g.nonterms.length x0 d seen at_ ls i 0 seen' nx mo ∧ MidH I h3.next h2.next h3 h4 seen' nx mo v14 v15 ∧
      gt F 2 = .int .i64 y0 ∧ gt F 3 = .ptr (some (h.next, 0)) ∧ gt F 11 = .slice (some (h2.next, 0)) g.nonterms.length (.ex g.nonterms.length) ∧ gt F 12 = .slice (some (b12, 0)) at_.length c12 ∧ gt F 13 = v13 ∧ gt F 14 = v14 ∧ gt F 15 = v15 ∧ gt F 17 = .int .i64 i) at_.length
    ⟨0, seen, [], [], _, _, _, h3, rfl, rfl, Mid.init hring, MidH.init rfl o3, by simp only [zbk, Nat.reduceEqDiff, if_false, q2], by simp only [zbk, Nat.reduceEqDiff, if_false, q3], by simp only [zbk, Nat.reduceEqDiff, if_false, q11], by simp only [zbk, Nat.reduceEqDiff, if_false, q12], by simp only [zbk, Nat.reduceEqDiff, if_false, q13], by simp only [zbk, Nat.reduceEqDiff, if_false, q14], by simp only [zbk, Nat.reduceEqDiff, if_false, q15], by simp only [zbk, Nat.reduceEqDiff, if_true, if_false]; rfl⟩ ?_
  clear q2 q3 q11 q12 q13 q14 q15 F
  rintro jj _ ⟨i, seen', nx, mo, v14, v15, F, h4, hjj, rfl, hmid, hmh, q2, q3, q11, q12, q13, q14, q15, q17⟩
  by_cases hi : i < at_.length
  · have d1 : decide ((i : Int) < (at_.length : Int)) = true := decide_eq_true (by omega)
    have hil : i < ws.length := by rw [hwl, hring.len]; exact hi
    have hil2 : i < ls.length := by rw [hring.len]; exact hi
    obtain ⟨b13, c13, rfl, ld13⟩ := r13.get hil
    have d13 : decide ((i : Int) < (ws.length : Int)) = true := decide_eq_true (by omega)
    simp only [zaa, zab, zac, zae, zaf, zai, zaj, zak, zal, zam, zao, zaq, zax, zay, zbi, zbk, Nat.reduceEqDiff, zck, a_t, a_v, zdo, zdp, zdt, zeo, zep, if_true, if_false, q12, q17, d1]
    refine s_loop (fun j2 st => ∃ (k : Nat) (seen' : List Bool) (nx : List Nat) (mo : List (List Nat)) (v14 v15 : V) (F : Frm) (h4 : Hp), j2 + k = g.rules.length ∧ st = ⟨F, [], none, h4⟩ ∧ Mid g.rules g.nonterms.length x0 d seen at_ ls i k seen' nx mo ∧ MidH I h3.next h2.next h3 h4 seen' nx mo v14 v15 ∧
        gt F 2 = .int .i64 y0 ∧ gt F 3 = .ptr (some (h.next, 0)) ∧ gt F 11 = .slice (some (h2.next, 0)) g.nonterms.length (.ex g.nonterms.length) ∧ gt F 12 = .slice (some (b12, 0)) at_.length c12 ∧ gt F 13 = .slice (some (b13, 0)) ws.length c13 ∧ gt F 14 = v14 ∧ gt F 15 = v15 ∧ gt F 17 = .int .i64 i ∧ gt F 18 = .int .i64 k) g.rules.length
      ⟨0, seen', nx, mo, _, _, _, h4, rfl, rfl, hmid, hmh, by simp only [zbk, Nat.reduceEqDiff, if_false, q2], by simp only [zbk, Nat.reduceEqDiff, if_false, q3], by simp only [zbk, Nat.reduceEqDiff, if_false, q11], by simp only [zbk, Nat.reduceEqDiff, if_false, q12], by simp only [zbk, Nat.reduceEqDiff, if_false, q13], by simp only [zbk, Nat.reduceEqDiff, if_false, q14], by simp only [zbk, Nat.reduceEqDiff, if_false, q15], by simp only [zbk, Nat.reduceEqDiff, if_false, q17], by simp only [zbk, Nat.reduceEqDiff, if_true, if_false]; rfl⟩ ?_
    clear q2 q3 q11 q12 q13 q14 q15 q17 F hmid hmh
    clear seen' nx mo v14 v15 h4
    rintro j2 _ ⟨k, seen', nx, mo, v14, v15, F, h4, hj2, rfl, hmid, hmh, q2, q3, q11, q12, q13, q14, q15, q17, q18⟩
    have o4 : Own h4 h.next [.slice ta g.terms.length tc, .slice na g.nonterms.length nc, .int .i64 g.axi, .slice ra g.rules.length rc] (I.t 33) := by
      have o23 := o2.grow g3
      exact ⟨(hmh.old _ o23.low (by omega)).trans o23.is, Nat.lt_of_lt_of_le o23.low hmh.next⟩
    have G4 : Grow h h4 := ⟨Nat.le_trans G3.next hmh.next, fun b hb => (hmh.old b (Nat.lt_of_lt_of_le hb G3.next) (by omega)).trans (G3.get b hb)⟩
    by_cases hk : k < g.rules.length
    · have d2 : decide ((k : Int) < (g.rules.length : Int)) = true := decide_eq_true (by omega)
      have w2 : IntKind.i64.wrap ((k : Int) + 1) = ((k + 1 : Nat) : Int) := by rw [wrap_i64 (by omega) (by omega)]; rfl
      obtain ⟨b, o, a', c', rfl, hat, hin⟩ := (hR.grow G4).get hk
      have hld := hat.loadL
      simp only [List.length_cons, List.length_nil, Nat.zero_add, Nat.reduceAdd, zbn] at hld
      simp only [zaa, zab, zac, zae, zaf, zai, zaj, zak, zal, zam, zao, zaq, zas, zax, zay, zbi, zbk, List.map_cons, List.map_nil, Nat.reduceEqDiff, Option.map_some, zck, Bool.and_self, List.getElem?_cons_zero, List.getElem?_cons_succ, Nat.zero_add, Int.toNat_natCast, zdh, a_t, zdo, zdp, zdt, zeb, zec, zed, zee, zef, zeg, zeh, zei, zeo, zep, zes, if_true, if_false, q3, q18, o4.load1, d2, hld]
      have hri := List.getElem_mem hk
      have hrk : g.rules[k]? = some g.rules[k] := List.getElem?_eq_getElem hk
      obtain ⟨f1, f2, f3, f4⟩ := FI.each _ hri
      refine (refRen_ok HR ⟨a', c', rfl, hin⟩ (fun s hs => by have := (f4 s hs).2; omega)).mono fun r5 hr5 => ?_
      obtain ⟨h5, g5, hr5⟩ := hr5
      have hmh5 := hmh.grow g5
      have o5 := o4.grow g5
      have l0 := (hat.grow g5).load1 (i := 0) (by simp)
      simp only [Nat.add_zero, zbn, List.getElem_cons_zero] at l0
      obtain ⟨b', c2', e, ld12⟩ := r12.getF hi
      cases e
      have ld12' : load1 h5 b12 i = some (.int .i64 (at_[i] : Nat)) := by
        have := (r12.frame (h' := h5) fun b h1 h2 => (hmh5.old b h2 (by omega))).getF hi
        obtain ⟨b', c2', e, ld⟩ := this
        cases e
        exact ld
      have hati : at_[i]? = some at_[i] := List.getElem?_eq_getElem hi
      have stay : (∀ u m, at_[i]? = some u → Rul g.rules u k m → seen'[m]? = some true) → ∀ F2 : Frm, gt F2 2 = .int .i64 y0 → gt F2 3 = .ptr (some (h.next, 0)) → gt F2 11 = .slice (some (h2.next, 0)) g.nonterms.length (.ex g.nonterms.length) → gt F2 12 = .slice (some (b12, 0)) at_.length c12 → gt F2 13 = .slice (some (b13, 0)) ws.length c13 → gt F2 14 = v14 → gt F2 15 = v15 → gt F2 17 = .int .i64 i → gt F2 18 = .int .i64 (k + 1 : Nat) → 
          ∃ j, j < j2 ∧ ∃ (k : Nat) (seen' : List Bool) (nx : List Nat) (mo : List (List Nat)) (v14 v15 : V) (F : Frm) (h4 : Hp), j + k = g.rules.length ∧ S.mk F2 [] none h5 = ⟨F, [], none, h4⟩ ∧ Mid g.rules g.nonterms.length x0 d seen at_ ls i k seen' nx mo ∧ MidH I h3.next h2.next h3 h4 seen' nx mo v14 v15 ∧
        gt F 2 = .int .i64 y0 ∧ gt F 3 = .ptr (some (h.next, 0)) ∧ gt F 11 = .slice (some (h2.next, 0)) g.nonterms.length (.ex g.nonterms.length) ∧ gt F 12 = .slice (some (b12, 0)) at_.length c12 ∧ gt F 13 = .slice (some (b13, 0)) ws.length c13 ∧ gt F 14 = v14 ∧ gt F 15 = v15 ∧ gt F 17 = .int .i64 i ∧ gt F 18 = .int .i64 k := fun hsk F2 e2 e3 e11 e12 e13 e14 e15 e17 e18 =>
        ⟨j2 - 1, by omega, k + 1, seen', nx, mo, v14, v15, F2, h5, by omega, rfl, hmid.skip hsk, hmh5, e2, e3, e11, e12, e13, e14, e15, e17, e18⟩
      cases hm : ren g.rules[k] with
      | none =>
        simp only [hr5, hm, zaa, zab, zac, zad, zae, zai, zaj, zak, zal, zam, zan, zap, zaq, zav, zax, zay, zbc, zbg, zbi, zbk, Nat.reduceEqDiff, zbn, zch, List.getElem?_cons_zero, List.getElem?_cons_succ, zdb, zdc, zde, Option.getD_none, Option.isSome_none, a_t, a_v, zdo, zdp, zdq, zds, zdt, zew, zex, if_true, if_false, q18, w2]
        refine stay (fun u m hu hru => ?_) _ ?_ ?_ ?_ ?_ ?_ ?_ ?_ ?_ ?_ <;> try (simp only [zbk, Nat.reduceEqDiff, if_true, if_false, q2, q3, q11, q12, q13, q14, q15, q17]; done)
        obtain ⟨r, k1, _, k3⟩ := hru
        rw [hrk] at k1
        cases k1
        rw [hm] at k3
        cases k3
      | some mi =>
        obtain ⟨he, hl, hmn, hm0, hl0⟩ := ren_edge B hri hm
        obtain ⟨m, rfl⟩ := Int.eq_ofNat_of_zero_le hm0
        simp only [Int.toNat_natCast] at hmn
        have d3 : decide ((m : Int) < (g.nonterms.length : Int)) = true := decide_eq_true (by omega)
        by_cases hleft : g.rules[k].left = (at_[i] : Int)
        · have e6 : (g.rules[k].left == (at_[i] : Int)) = true := bq_eq hleft
          have hrul : Rul g.rules at_[i] k m := ⟨_, hrk, hleft, hm⟩
          have hms : m < seen'.length := by rw [hmid.sl]; exact hmn
          have hbm : (bv seen')[m]? = some (.bool seen'[m]) := by unfold bv; rw [List.getElem?_map, List.getElem?_eq_getElem hms]; rfl
          cases hsm : seen'[m] with
          | true =>
            rw [hsm] at hbm
            simp only [hr5, hm, zaa, zab, zac, zad, zae, zai, zaj, zak, zal, zam, zap, zaq, zav, zax, zay, zbc, zbg, zbi, zbk, Nat.reduceEqDiff, Option.map_some, zbn, zch, zcp, zcq, zcu, Bool.and_self, Bool.not_true, List.getElem?_cons_zero, List.getElem?_cons_succ, Nat.zero_add, Nat.add_zero, zdb, zdc, zdg, Nat.mul_one, Int.toNat_natCast, zdh, Option.getD_some, Option.isSome_some, a_t, a_v, zdo, zdp, zdq, zdr, zdt, zdu, zdw, zeb, zec, zed, zee, zef, zeg, zew, zex, if_true, if_false, q3, q11, q12, q17, q18, o5.load1, hmh5.sn.load1, d1, d2, d3, l0, ld12', e6, hbm, w2]
            refine stay (fun u m' hu hru => ?_) _ ?_ ?_ ?_ ?_ ?_ ?_ ?_ ?_ ?_ <;> try (simp only [zbk, Nat.reduceEqDiff, if_true, if_false, q2, q3, q11, q12, q13, q14, q15, q17]; done)
            rw [hati] at hu
            cases hu
            obtain rfl := hrul.det hru
            rw [List.getElem?_eq_getElem hms, hsm]
          | false =>
            rw [hsm] at hbm
            have hm5 : seen'[m]? ≠ some true := by rw [List.getElem?_eq_getElem hms, hsm]; simp
            have hlsi : ls[i]? = some ls[i] := List.getElem?_eq_getElem hil2
            have hcn := hmid.cnt
            have hln := (hring.best i _ _ hati hlsi).2.1
            have hcl := count_len seen
            have hsl := hring.sl
            obtain ⟨h6, s6, f6, v, h7, s7, b8, h8, s8, v9, h9, s9, v10, h10, s10, hmh10⟩ := hmh5.take (k := k) T3 T69 N3 (Nat.lt_succ_self _) (hws i _ _ (List.getElem?_eq_getElem hil) hlsi) hms (by omega) (by omega) hmid.len
            have ld13' : load1 h6 b13 i = some ws[i] := by
              have := (r13.frame (h' := h6) fun b h1 h2 => (f6 b (by omega)).trans (hmh5.old b h2 (by omega))).get hil
              obtain ⟨b', c2', e, ld⟩ := this
              cases e
              exact ld
            have f8 : fillV (reps 1 [V.int .i64 0]) [(0, 1, .int .i64 (k : Int))] = some [.int .i64 (k : Int)] := rfl
            have f9 : fillV (reps 1 [V.int .i64 0]) [(0, 1, .int .i64 (m : Int))] = some [.int .i64 (m : Int)] := rfl
            have f10 : fillV (reps 1 [V.slice none 0 (.ex 0)]) [(0, 1, .slice (some (b8, 0)) (ls[i].length + 1) (.tl 0))] = some [V.slice (some (b8, 0)) (ls[i].length + 1) (.tl 0)] := rfl
            simp only [hr5, hm, zaa, zac, zad, zae, zai, zaj, zak, zal, zam, zao, zaq, zar, zav, zax, zay, zbc, zbg, zbi, zbj, zbk, List.map_cons, List.map_nil, Nat.reduceEqDiff, Option.map_some, zbn, zbq, zch, zcp, zcq, zcu, Bool.and_self, Bool.not_false, List.getElem?_cons_zero, List.getElem?_cons_succ, Nat.zero_add, Nat.add_zero, zdb, zdc, zdg, Nat.mul_one, Int.toNat_natCast, zdh, Option.getD_some, Option.isSome_some, a_t, a_v, zdo, zdp, zdq, zdr, zdt, zdu, zdw, zeb, zec, zed, zee, zef, zeg, zej, zek, zel, zew, zex, zfg, zfh, if_true, if_false, List.length_cons, List.length_nil, q3, q11, q12, q13, q14, q15, q17, q18, o5.load1, hmh5.sn.load1, d1, d2, d3, d13, l0, ld12', e6, hbm, w2, s6, ld13', s7, f8, s8, f9, s9, f10, s10]
            exact ⟨j2 - 1, by omega, k + 1, _, _, _, _, _, _, _, by omega, rfl, hmid.take hring hati hlsi hrul hmn hm5, hmh10, by simp only [zbk, Nat.reduceEqDiff, if_false, q2], by simp only [zbk, Nat.reduceEqDiff, if_false, q3], by simp only [zbk, Nat.reduceEqDiff, if_false, q11], by simp only [zbk, Nat.reduceEqDiff, if_false, q12], by simp only [zbk, Nat.reduceEqDiff, if_false, q13], by simp only [zbk, Nat.reduceEqDiff, if_true, if_false], by simp only [zbk, Nat.reduceEqDiff, if_true, if_false], by simp only [zbk, Nat.reduceEqDiff, if_false, q17], by simp only [zbk, Nat.reduceEqDiff, if_true, if_false]⟩
        · have e6 : (g.rules[k].left == (at_[i] : Int)) = false := bq_ne hleft
          simp only [hr5, hm, zaa, zab, zac, zad, zae, zai, zaj, zak, zal, zam, zan, zap, zaq, zav, zax, zay, zbc, zbg, zbi, zbk, Nat.reduceEqDiff, Option.map_some, zbn, zch, zcq, zcu, Bool.and_self, List.getElem?_cons_zero, List.getElem?_cons_succ, Nat.zero_add, Nat.add_zero, zdb, zdc, zde, zdg, Nat.mul_one, Int.toNat_natCast, zdh, Option.getD_some, Option.isSome_some, a_t, a_v, zdo, zdp, zdq, zdr, zds, zdt, zdu, zeb, zec, zed, zee, zef, zeg, zew, zex, if_true, if_false, q3, q12, q17, q18, o5.load1, d1, d2, l0, ld12', e6, w2]
          refine stay (fun u m' hu hru => ?_) _ ?_ ?_ ?_ ?_ ?_ ?_ ?_ ?_ ?_ <;> try (simp only [zbk, Nat.reduceEqDiff, if_true, if_false, q2, q3, q11, q12, q13, q14, q15, q17]; done)
          rw [hati] at hu
          cases hu
          obtain ⟨r, k1, k2, _⟩ := hru
          rw [hrk] at k1
          cases k1
          exact absurd k2 hleft
    · have d2 : decide ((k : Int) < (g.rules.length : Int)) = false := decide_eq_false (by omega)
      have w1 : IntKind.i64.wrap ((i : Int) + 1) = ((i + 1 : Nat) : Int) := by rw [wrap_i64 (by omega) (by omega)]; rfl
      obtain rfl : k = g.rules.length := by omega
      simp only [zaa, zac, zae, zag, zah, zai, zaj, zak, zal, zam, zap, zaq, zax, zay, zba, zbc, zbe, zbi, zbk, Nat.reduceEqDiff, zch, zck, List.getElem?_cons_zero, List.getElem?_cons_succ, Nat.zero_add, r_2, a_t, a_v, zdo, zdp, zdt, zeb, zec, zef, zeg, zeo, zep, if_true, if_false, q3, q17, q18, o4.load1, d2, w1]
      exact ⟨jj - 1, by omega, i + 1, seen', nx, mo, v14, v15, _, h4, by omega, rfl, hmid.row hring, hmh, by simp only [zbk, Nat.reduceEqDiff, if_false, q2], by simp only [zbk, Nat.reduceEqDiff, if_false, q3], by simp only [zbk, Nat.reduceEqDiff, if_false, q11], by simp only [zbk, Nat.reduceEqDiff, if_false, q12], by simp only [zbk, Nat.reduceEqDiff, if_false, q13], by simp only [zbk, Nat.reduceEqDiff, if_false, q14], by simp only [zbk, Nat.reduceEqDiff, if_false, q15], by simp only [zbk, Nat.reduceEqDiff, if_true, if_false]⟩
  · have d1 : decide ((i : Int) < (at_.length : Int)) = false := decide_eq_false (by omega)
    obtain rfl : i = at_.length := by omega
    simp only [zaa, zac, zae, zag, zah, zai, zaj, zak, zal, zam, zap, zaq, zax, zay, zba, zbc, zbe, zbi, zbk, Nat.reduceEqDiff, zck, r_2, a_t, a_v, zdo, zdp, zdt, zeo, zep, if_true, if_false, q12, q14, q15, q17, d1]
    have hcn := hmid.cnt
    have hcl := count_len seen
    have hsl := hring.sl
    obtain ⟨ws', hl15, hwl', hrow⟩ := hmh.mo
    refine ⟨2 * seen'.count false + (if nx = [] then 0 else 1), ?_, d + 1, seen', nx, mo, v14, v15, ws', _, h4, rfl, rfl, hring.next hmid hto, ⟨Nat.le_trans g3.next hmh.next, fun b hb => (hmh.old b (Nat.lt_of_lt_of_le hb g3.next) (by omega)).trans (g3.get b hb)⟩, hmh.sn, hmh.nx.rd.wide hb6 (Nat.le_refl _), hl15.rd.wide hb6 (Nat.le_refl _), hwl', fun i w l k1 k2 => ?_, by omega, fun hne => ?_, by simp only [zbk, Nat.reduceEqDiff, if_false, q2], by simp only [zbk, Nat.reduceEqDiff, if_false, q3], by simp only [zbk, Nat.reduceEqDiff, if_false, q11], by simp only [zbk, Nat.reduceEqDiff, if_true, if_false], by simp only [zbk, Nat.reduceEqDiff, if_true, if_false]⟩
    · split
      · omega
      · rename_i hne
        have := List.length_pos_iff.2 hne
        omega
    · obtain ⟨b, rfl, k3, k4, k5, _⟩ := hrow i w l k1 k2
      exact ⟨some (b, 0), .tl 0, by rw [fv_len], .inr ⟨b, _, rfl, by omega, k5, k3, rfl⟩⟩
    · have := List.length_pos_iff.2 hne
      omega
end Go.Vm
