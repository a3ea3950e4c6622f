/- What the document's Move comes to. -/
import Derived.Test.YtaccdnpmoghidaaGreatDoorWpK8
import Derived.Test.YtaccdnpmoghidaaGreatDoorWpF8
set_option linter.unusedVariables false
set_option linter.unusedSimpArgs false
namespace Go.Vm
variable {P : Program} {Y : Fns} {I : Ids}
theorem splice_whole {l m : List V} (h : l.length = m.length) : splice l 0 m = m := by
  unfold splice
  rw [List.take_zero, List.nil_append, Nat.zero_add, ← h, List.drop_length, List.append_nil]
theorem rv_get (r : List Int) {j : Nat} (hj : j < r.length) : (rv r)[j]? = some (.int .i64 (r.getD j 0)) := by
  unfold rv
  rw [List.getElem?_map, List.getD_eq_getElem?_getD, List.getElem?_eq_getElem hj]
  rfl
def rfI (by' : Int) (r : List Int) : List Int := (r.set 2 (putR by' (r.getD 2 0)).1).set 3 (putR by' (r.getD 3 0)).1
def rfS (by' : Int) (r : List Int) : List Int := (r.set 1 (putR by' (r.getD 1 0)).1).set 2 (putR by' (r.getD 2 0)).1
def okI (by' : Int) (r : List Int) : Bool := (putR by' (r.getD 2 0)).2 && (putR by' (r.getD 3 0)).2
def okS (by' : Int) (r : List Int) : Bool := (putR by' (r.getD 1 0)).2 && (putR by' (r.getD 2 0)).2
theorem rfI_len (by' : Int) (r : List Int) : (rfI by' r).length = r.length := by simp [rfI]
theorem rfS_len (by' : Int) (r : List Int) : (rfS by' r).length = r.length := by simp [rfS]
set_option maxHeartbeats 2000000 in
theorem gR1_ok (HP : FnIs P Y (I.f 394) 35 [.tmp 4, .tmp 5] (c394 I)) (T : RowT P 4 (I.t 197) 32 [V.int .i64 0, .int .i64 0, .int .i64 0, .int .i64 0] [0, 0, 0]) {ctx : Ctx} {h : Hp} {bp bz bq : Nat} {by' : Int} {ok0 : Bool} {ia : Option (Nat × Nat)} {ic : Cap} {rows : List (List Int)} {cells qc : List V}
    (o1 : Own h bp cells (I.t 177)) (hcell : cells[2]? = some (.slice ia rows.length ic)) (oq : Own h bq qc (I.t 177)) (hq4 : qc.length = 4) (hqc : qc[2]? = some (.slice none 0 (.ex 0))) (hne : bp ≠ bq)
    (hR : ∀ h', h.next ≤ h'.next → (∀ c, c < h.next → c ≠ bq → h'.get c = h.get c) → Rw h' 4 ia rows) (hb : 2 * rows.length * 32 ≤ 281474976710656)
    {F : Frm} (q1 : gt F 1 = .int .i64 by') (q2 : gt F 2 = .ptr (some (bp, 0))) (q4 : gt F 4 = .ptr (some (bz, 0))) (q6 : gt F 6 = .ptr (some (bq, 0))) (q11 : gt F 11 = .bool ok0) {Q : X → S → Prop}
    (hQ : ∀ F' h' v, gt F' 1 = .int .i64 by' → gt F' 2 = .ptr (some (bp, 0)) → gt F' 4 = .ptr (some (bz, 0)) → gt F' 6 = .ptr (some (bq, 0)) → gt F' 11 = .bool (ok0 && rows.all (okI by')) → h.next ≤ h'.next → (∀ c, c < h.next → c ≠ bq → h'.get c = h.get c) →
      Own h' bq (qc.set 2 v) (I.t 177) → Lst h.next h' v (fl (rows.map (rfI by'))) 4 (I.t 197) → Q .normal ⟨F', [], none, h'⟩) : IXW P Y ctx (gR1 I) ⟨F, [], none, h⟩ Q := by
  have hlen0 : rows.length ≤ 4611686018427387904 := by omega
  unfold gR1
  simp only [zaa, zac, zaf, zai, zaj, zak, zal, zam, zaq, zax, zay, zbi, a_v, zdp]
  have hqs : qc.set 2 (.slice none 0 (.ex 0)) = qc := by
    obtain ⟨k1, k2⟩ := List.getElem?_eq_some_iff.1 hqc
    rw [← k2, List.set_getElem_self]
  refine s_loop (fun kk st => ∃ (i : Nat) (F : Frm) (h' : Hp) (v : V), kk + i = rows.length ∧ st = ⟨F, [], none, h'⟩ ∧ gt F 1 = .int .i64 by' ∧ gt F 2 = .ptr (some (bp, 0)) ∧ gt F 4 = .ptr (some (bz, 0)) ∧ gt F 6 = .ptr (some (bq, 0)) ∧ gt F 11 = .bool (ok0 && (rows.take i).all (okI by')) ∧ gt F 12 = .int .i64 i ∧
      h.next ≤ h'.next ∧ (∀ c, c < h.next → c ≠ bq → h'.get c = h.get c) ∧ Own h' bq (qc.set 2 v) (I.t 177) ∧ Lst h.next h' v (fl ((rows.take i).map (rfI by'))) 4 (I.t 197)) rows.length
    ⟨0, _, h, .slice none 0 (.ex 0), rfl, rfl, by simp only [zbk, Nat.reduceEqDiff, if_false, q1], by simp only [zbk, Nat.reduceEqDiff, if_false, q2], by simp only [zbk, Nat.reduceEqDiff, if_false, q4], by simp only [zbk, Nat.reduceEqDiff, if_false, q6], by simp only [zbk, Nat.reduceEqDiff, List.all_nil, Bool.and_true, if_false, List.take_zero, List.all_nil, q11, List.take_zero, List.all_nil, Bool.and_true], by simp only [zbk, if_true]; rfl, Nat.le_refl _, fun _ _ _ => rfl, by rw [hqs]; exact oq, Lst.nil _ _ _ _⟩ ?_
  clear q1 q2 q4 q6 q11 F
  rintro kk _ ⟨i, F, h1, v, hkk, rfl, q1, q2, q4, q6, q11, qi, hn, hf, oq1, hl⟩
  have o11 := o1.same hn (hf bp o1.low hne)
  have hld : load1 h1 bp 2 = some (.slice ia rows.length ic) := by rw [o11.load1]; exact hcell
  by_cases hi : i < rows.length
  · have d1 : decide ((i : Int) < (rows.length : Int)) = true := decide_eq_true (by omega)
    have w1 : IntKind.i64.wrap ((i : Int) + 1) = ((i + 1 : Nat) : Int) := by rw [wrap_i64 (by omega) (by omega)]; rfl
    have hR1 := hR h1 hn hf
    have hwi := hR1.wid rows[i] (List.getElem_mem hi)
    obtain ⟨b, o, rfl, hat, _⟩ := hR1.get hi
    have hat := hat.loadL
    rw [rv_len, hwi] at hat
    have hrl : (rv rows[i]).length = 4 := by rw [rv_len]; exact hwi
    have g2 := Grow.new h1 (newBlk [V.int .i64 0, .int .i64 0, .int .i64 0, .int .i64 0] (I.t 197))
    have o2 := Own.of_new h1 [V.int .i64 0, .int .i64 0, .int .i64 0, .int .i64 0] (I.t 197)
    have n2 : (h1.new (newBlk [V.int .i64 0, .int .i64 0, .int .i64 0, .int .i64 0] (I.t 197))).next = h1.next + 1 := rfl
    have f2 : ∀ c, c < h1.next → (h1.new (newBlk [V.int .i64 0, .int .i64 0, .int .i64 0, .int .i64 0] (I.t 197))).get c = h1.get c := fun c hc => get_new _ hc
    generalize hh2 : h1.new (newBlk [V.int .i64 0, .int .i64 0, .int .i64 0, .int .i64 0] (I.t 197)) = h2 at g2 o2 n2 f2
    have s2 := o2.storeL 0 (rv rows[i]) (fun e => by rw [e] at hrl; simp at hrl) (by rw [hrl]; exact Nat.le_refl _) (rv_cell _)
    rw [splice_whole (by rw [hrl]; rfl)] at s2
    have o3 := o2.put (rv rows[i])
    have f3 : ∀ c, c < h1.next → (h2.put h1.next (newBlk (rv rows[i]) (I.t 197))).get c = h1.get c := fun c hc => (get_put_ne _ (by omega)).trans (f2 c hc)
    have n3 : (h2.put h1.next (newBlk (rv rows[i]) (I.t 197))).next = h1.next + 1 := n2
    generalize hh3 : h2.put h1.next (newBlk (rv rows[i]) (I.t 197)) = h3 at o3 f3 n3 s2
    have v1 := rv_get rows[i] (j := 2) (by omega)
    have v2 := rv_get rows[i] (j := 3) (by omega)
    have s4 := o3.storeL 2 [.int .i64 (putR by' (rows[i].getD 2 0)).1] (by simp) (by rw [hrl]; simp) rfl
    rw [splice_one (by omega), rv_set] at s4
    have o4 := o3.put (rv (rows[i].set 2 (putR by' (rows[i].getD 2 0)).1))
    have s5 := o4.storeL 3 [.int .i64 (putR by' (rows[i].getD 3 0)).1] (by simp) (by rw [rv_len, List.length_set]; simp; omega) rfl
    rw [splice_one (by rw [rv_len, List.length_set]; omega), rv_set] at s5
    have o5 := o4.put (rv ((rows[i].set 2 (putR by' (rows[i].getD 2 0)).1).set 3 (putR by' (rows[i].getD 3 0)).1))
    have f5 : ∀ c, c < h1.next → ((h3.put h1.next (newBlk (rv (rows[i].set 2 (putR by' (rows[i].getD 2 0)).1)) (I.t 197))).put h1.next (newBlk (rv ((rows[i].set 2 (putR by' (rows[i].getD 2 0)).1).set 3 (putR by' (rows[i].getD 3 0)).1)) (I.t 197))).get c = h1.get c := fun c hc => (get_put_ne _ (by omega)).trans ((get_put_ne _ (by omega)).trans (f3 c hc))
    have n5 : ((h3.put h1.next (newBlk (rv (rows[i].set 2 (putR by' (rows[i].getD 2 0)).1)) (I.t 197))).put h1.next (newBlk (rv ((rows[i].set 2 (putR by' (rows[i].getD 2 0)).1).set 3 (putR by' (rows[i].getD 3 0)).1)) (I.t 197))).next = h1.next + 1 := n3
    rw [show (rows[i].set 2 (putR by' (rows[i].getD 2 0)).1).set 3 (putR by' (rows[i].getD 3 0)).1 = rfI by' rows[i] from rfl] at s5 o5 f5 n5
    generalize hh5 : (h3.put h1.next (newBlk (rv (rows[i].set 2 (putR by' (rows[i].getD 2 0)).1)) (I.t 197))).put h1.next (newBlk (rv (rfI by' rows[i])) (I.t 197)) = h5 at s5 o5 f5 n5
    have oq5 := oq1.same (h' := h5) (by omega) (f5 bq (by have := oq1.low; omega))
    have hl5 : Lst h.next h5 v (fl ((rows.take i).map (rfI by'))) 4 (I.t 197) := hl.frame (by omega) fun b k _ hb => f5 b hb
    have hrl5 : (rv (rfI by' rows[i])).length = 4 := by rw [rv_len, rfI_len]; exact hwi
    have ld5 := o5.loadL 0 4
    rw [hrl5, if_pos (by omega), List.drop_zero, ← hrl5, List.take_length, hrl5] at ld5
    have f6 : fillV (reps 1 [V.int .i64 0, .int .i64 0, .int .i64 0, .int .i64 0]) [(0, 4, .agg (rv (rfI by' rows[i])))] = some (rv (rfI by' rows[i])) := by
      have : reps 1 [V.int .i64 0, .int .i64 0, .int .i64 0, .int .i64 0] = [V.int .i64 0, .int .i64 0, .int .i64 0, .int .i64 0] := by simp [reps]
      rw [this]
      unfold fillV
      simp only [zbo, hrl5, rv_cell]
      rw [if_pos (by simp), splice_whole (by rw [hrl5]; rfl)]
      rfl
    have g6 := Grow.new h5 (newBlk (rv (rfI by' rows[i])) (I.t 197))
    have o6 := Own.of_new h5 (rv (rfI by' rows[i])) (I.t 197)
    have n6 : (h5.new (newBlk (rv (rfI by' rows[i])) (I.t 197))).next = h5.next + 1 := rfl
    generalize hh6 : h5.new (newBlk (rv (rfI by' rows[i])) (I.t 197)) = h6 at g6 o6 n6
    have tw : ∀ r ∈ (rows.take i).map (rfI by'), r.length = 4 := fun r hr => by
      obtain ⟨x, hx, rfl⟩ := List.mem_map.1 hr
      rw [rfI_len]; exact hR1.wid x (List.mem_of_mem_take hx)
    have tl : (fl ((rows.take i).map (rfI by'))).length = i * 4 := by rw [fl_len tw]; simp [Nat.min_eq_left (Nat.le_of_lt hi)]
    obtain ⟨h7, happ, m1, m2, m3, m4, m5⟩ := app_ok2 T.ty (by omega) (hl5.grow g6) (by omega) (src_own o6 hrl5 (by omega)) (by omega) (by omega) (rv_cell _) (k := i) tl (by omega) (by omega)
    have oq7 := (oq5.grow g6).same (h' := h7) (by omega) (m3 bq (by have := oq5.low; omega) fun b hv e => by
      subst hv
      have := hl.low
      have := oq.low
      omega)
    have s7 := oq7.storeL 2 [.slice (some (h6.next, 0)) (i + 1) (.tl 0)] (by simp) (by rw [List.length_set, hq4]; simp) rfl
    rw [splice_one (by rw [List.length_set, hq4]; omega), List.set_set] at s7
    have oq8 := oq7.put (qc.set 2 (.slice (some (h6.next, 0)) (i + 1) (.tl 0)))
    have ldq : load1 h5 bq 2 = some v := by rw [oq5.load1, List.getElem?_set_self (by omega)]
    have hml : Lst h.next (h7.put bq (newBlk (qc.set 2 (.slice (some (h6.next, 0)) (i + 1) (.tl 0))) (I.t 177))) (.slice (some (h6.next, 0)) (i + 1) (.tl 0)) (fl ((rows.take i).map (rfI by')) ++ rv (rfI by' rows[i])) 4 (I.t 197) :=
      m1.put (by have := oq.low; omega) _
    have f8 : ∀ c, c < h.next → c ≠ bq → (h7.put bq (newBlk (qc.set 2 (.slice (some (h6.next, 0)) (i + 1) (.tl 0))) (I.t 177))).get c = h.get c := fun c hc hc2 => by
      rw [get_put_ne _ (fun e => hc2 e.symm), m3 c (by omega) (fun b hv e => by subst hv; have := hl.low; omega), g6.get c (by omega), f5 c (by omega), hf c hc hc2]
    have ha : (rows.take (i + 1)).all (okI by') = ((rows.take i).all (okI by') && ((putR by' (rows[i].getD 2 0)).2 && (putR by' (rows[i].getD 3 0)).2)) := by
      rw [List.take_succ_eq_append_getElem hi, List.all_append]
      simp [okI]
    have e8 : fl ((rows.take (i + 1)).map (rfI by')) = fl ((rows.take i).map (rfI by')) ++ rv (rfI by' rows[i]) := by
      rw [List.take_succ_eq_append_getElem hi, List.map_append, fl_append, List.map_cons, List.map_nil, fl_one]
    have n8 : (h7.put bq (newBlk (qc.set 2 (.slice (some (h6.next, 0)) (i + 1) (.tl 0))) (I.t 177))).next = h7.next := rfl
    rw [← e8] at hml
    simp only [zaa, zab, zac, zae, zaf, zai, zaj, zak, zal, zam, zao, zaq, zar, zas, zax, zay, zbi, zbj, zbk, List.map_cons, List.map_nil, Nat.reduceEqDiff, Option.map_some, zbo, zck, Bool.and_self, Nat.zero_add, Int.toNat_natCast, zdh, a_t, zdo, zdp, zdt, zeb, zec, zed, zee, zef, zeg, zeh, zei, zej, zek, zel, zem, zeo, zep, zes, if_true, if_false, q1, q2, qi, d1, hld, hat, hrl, hh2, s2, o3.load1, v1]
    refine (refPut_ok HP _ _).mono fun r0 hr0 => ?_
    simp only [hr0, zaa, zac, zai, zaj, zak, zal, zam, zaq, zas, zav, zax, zay, zbi, zbk, List.map_cons, List.map_nil, Nat.reduceEqDiff, List.getElem?_cons_zero, List.getElem?_cons_succ, Nat.zero_add, a_t, zdo, zdp, zeb, zec, zef, zeg, zes, zew, zex, if_true, if_false, q1, o3.load1, v2]
    refine (refPut_ok HP _ _).mono fun r1 hr1 => ?_
    cases k1 : (ok0 && (rows.take i).all (okI by')) <;> cases k2 : (putR by' (rows[i].getD 2 0)).2 <;> cases k3 : (putR by' (rows[i].getD 3 0)).2 <;> rw [k1] at q11 <;>
      simp only [hr1, zaa, zac, zai, zaj, zak, zal, zam, zan, zaq, zar, zav, zax, zay, zbc, zbi, zbj, zbk, List.map_cons, List.map_nil, Nat.reduceEqDiff, Option.map_some, zbp, zbt, zch, List.getElem?_cons_zero, List.getElem?_cons_succ, Nat.zero_add, zdb, zdc, zde, zdg, Nat.zero_mul, a_t, a_v, zdo, zdp, zdq, zdr, zds, zdt, zeb, zec, zef, zeg, zeh, zei, zej, zek, zel, zew, zex, zfg, zfh, if_true, if_false, List.length_cons, List.length_nil, q6, q11, qi, k3, s4, s5, ldq, ld5, f6, hh6, happ, s7, w1] <;>
      exact ⟨kk - 1, by omega, i + 1, _, _, .slice (some (h6.next, 0)) (i + 1) (.tl 0), by omega, rfl, by simp only [zbk, Nat.reduceEqDiff, if_false, q1], by simp only [zbk, Nat.reduceEqDiff, if_false, q2], by simp only [zbk, Nat.reduceEqDiff, if_false, q4], by simp only [zbk, Nat.reduceEqDiff, if_false, q6], by simp only [zbk, Nat.reduceEqDiff, Bool.and_true, Bool.and_self, Bool.and_false, if_true, if_false, ha, ← Bool.and_assoc, k1, k2, k3], by simp only [zbk, Nat.reduceEqDiff, if_true, if_false], by rw [n8]; omega, f8, oq8, hml⟩
  · have d1 : decide ((i : Int) < (rows.length : Int)) = false := decide_eq_false (by omega)
    obtain rfl : i = rows.length := by omega
    rw [List.take_length] at q11 hl
    simp only [zaa, zac, zae, zag, zai, zaj, zak, zal, zam, zap, zaq, zax, zay, zba, zbe, zbi, zbk, Nat.reduceEqDiff, zck, Nat.zero_add, a_t, zdo, zdp, zdt, zeb, zec, zef, zeg, zeo, zep, if_true, if_false, q2, qi, d1, hld]
    exact hQ _ h1 v (by simp only [zbk, Nat.reduceEqDiff, if_false, q1]) (by simp only [zbk, Nat.reduceEqDiff, if_false, q2]) (by simp only [zbk, Nat.reduceEqDiff, if_false, q4]) (by simp only [zbk, Nat.reduceEqDiff, if_false, q6]) (by simp only [zbk, Nat.reduceEqDiff, if_false, q11]) hn hf oq1 hl
set_option maxHeartbeats 2000000 in
theorem gR2_ok (HP : FnIs P Y (I.f 394) 35 [.tmp 4, .tmp 5] (c394 I)) (T : RowT P 3 (I.t 163) 24 [V.int .i64 0, .int .i64 0, .int .i64 0] [0, 0]) {ctx : Ctx} {h : Hp} {bp bz bq : Nat} {by' : Int} {ok0 : Bool} {ia : Option (Nat × Nat)} {ic : Cap} {rows : List (List Int)} {cells qc : List V}
    (o1 : Own h bp cells (I.t 177)) (hcell : cells[3]? = some (.slice ia rows.length ic)) (oq : Own h bq qc (I.t 177)) (hq4 : qc.length = 4) (hqc : qc[3]? = some (.slice none 0 (.ex 0))) (hne : bp ≠ bq)
    (hR : ∀ h', h.next ≤ h'.next → (∀ c, c < h.next → c ≠ bq → h'.get c = h.get c) → Rw h' 3 ia rows) (hb : 2 * rows.length * 24 ≤ 281474976710656)
    {F : Frm} (q1 : gt F 1 = .int .i64 by') (q2 : gt F 2 = .ptr (some (bp, 0))) (q4 : gt F 4 = .ptr (some (bz, 0))) (q6 : gt F 6 = .ptr (some (bq, 0))) (q11 : gt F 11 = .bool ok0) {Q : X → S → Prop}
    (hQ : ∀ F' h' v, gt F' 1 = .int .i64 by' → gt F' 2 = .ptr (some (bp, 0)) → gt F' 4 = .ptr (some (bz, 0)) → gt F' 6 = .ptr (some (bq, 0)) → gt F' 11 = .bool (ok0 && rows.all (okS by')) → h.next ≤ h'.next → (∀ c, c < h.next → c ≠ bq → h'.get c = h.get c) →
      Own h' bq (qc.set 3 v) (I.t 177) → Lst h.next h' v (fl (rows.map (rfS by'))) 3 (I.t 163) → Q .normal ⟨F', [], none, h'⟩) : IXW P Y ctx (gR2 I) ⟨F, [], none, h⟩ Q := by
  have hlen0 : rows.length ≤ 4611686018427387904 := by omega
  unfold gR2
  simp only [zaa, zac, zaf, zai, zaj, zak, zal, zam, zaq, zax, zay, zbi, a_v, zdp]
  have hqs : qc.set 3 (.slice none 0 (.ex 0)) = qc := by
    obtain ⟨k1, k2⟩ := List.getElem?_eq_some_iff.1 hqc
    rw [← k2, List.set_getElem_self]
  refine s_loop (fun kk st => ∃ (i : Nat) (F : Frm) (h' : Hp) (v : V), kk + i = rows.length ∧ st = ⟨F, [], none, h'⟩ ∧ gt F 1 = .int .i64 by' ∧ gt F 2 = .ptr (some (bp, 0)) ∧ gt F 4 = .ptr (some (bz, 0)) ∧ gt F 6 = .ptr (some (bq, 0)) ∧ gt F 11 = .bool (ok0 && (rows.take i).all (okS by')) ∧ gt F 18 = .int .i64 i ∧
      h.next ≤ h'.next ∧ (∀ c, c < h.next → c ≠ bq → h'.get c = h.get c) ∧ Own h' bq (qc.set 3 v) (I.t 177) ∧ Lst h.next h' v (fl ((rows.take i).map (rfS by'))) 3 (I.t 163)) rows.length
    ⟨0, _, h, .slice none 0 (.ex 0), rfl, rfl, by simp only [zbk, Nat.reduceEqDiff, if_false, q1], by simp only [zbk, Nat.reduceEqDiff, if_false, q2], by simp only [zbk, Nat.reduceEqDiff, if_false, q4], by simp only [zbk, Nat.reduceEqDiff, if_false, q6], by simp only [zbk, Nat.reduceEqDiff, List.all_nil, Bool.and_true, if_false, List.take_zero, List.all_nil, q11, List.take_zero, List.all_nil, Bool.and_true], by simp only [zbk, if_true]; rfl, Nat.le_refl _, fun _ _ _ => rfl, by rw [hqs]; exact oq, Lst.nil _ _ _ _⟩ ?_
  clear q1 q2 q4 q6 q11 F
  rintro kk _ ⟨i, F, h1, v, hkk, rfl, q1, q2, q4, q6, q11, qi, hn, hf, oq1, hl⟩
  have o11 := o1.same hn (hf bp o1.low hne)
  have hld : load1 h1 bp 3 = some (.slice ia rows.length ic) := by rw [o11.load1]; exact hcell
  by_cases hi : i < rows.length
  · have d1 : decide ((i : Int) < (rows.length : Int)) = true := decide_eq_true (by omega)
    have w1 : IntKind.i64.wrap ((i : Int) + 1) = ((i + 1 : Nat) : Int) := by rw [wrap_i64 (by omega) (by omega)]; rfl
    have hR1 := hR h1 hn hf
    have hwi := hR1.wid rows[i] (List.getElem_mem hi)
    obtain ⟨b, o, rfl, hat, _⟩ := hR1.get hi
    have hat := hat.loadL
    rw [rv_len, hwi] at hat
    have hrl : (rv rows[i]).length = 3 := by rw [rv_len]; exact hwi
    have g2 := Grow.new h1 (newBlk [V.int .i64 0, .int .i64 0, .int .i64 0] (I.t 163))
    have o2 := Own.of_new h1 [V.int .i64 0, .int .i64 0, .int .i64 0] (I.t 163)
    have n2 : (h1.new (newBlk [V.int .i64 0, .int .i64 0, .int .i64 0] (I.t 163))).next = h1.next + 1 := rfl
    have f2 : ∀ c, c < h1.next → (h1.new (newBlk [V.int .i64 0, .int .i64 0, .int .i64 0] (I.t 163))).get c = h1.get c := fun c hc => get_new _ hc
    generalize hh2 : h1.new (newBlk [V.int .i64 0, .int .i64 0, .int .i64 0] (I.t 163)) = h2 at g2 o2 n2 f2
    have s2 := o2.storeL 0 (rv rows[i]) (fun e => by rw [e] at hrl; simp at hrl) (by rw [hrl]; exact Nat.le_refl _) (rv_cell _)
    rw [splice_whole (by rw [hrl]; rfl)] at s2
    have o3 := o2.put (rv rows[i])
    have f3 : ∀ c, c < h1.next → (h2.put h1.next (newBlk (rv rows[i]) (I.t 163))).get c = h1.get c := fun c hc => (get_put_ne _ (by omega)).trans (f2 c hc)
    have n3 : (h2.put h1.next (newBlk (rv rows[i]) (I.t 163))).next = h1.next + 1 := n2
    generalize hh3 : h2.put h1.next (newBlk (rv rows[i]) (I.t 163)) = h3 at o3 f3 n3 s2
    have v1 := rv_get rows[i] (j := 1) (by omega)
    have v2 := rv_get rows[i] (j := 2) (by omega)
    have s4 := o3.storeL 1 [.int .i64 (putR by' (rows[i].getD 1 0)).1] (by simp) (by rw [hrl]; simp) rfl
    rw [splice_one (by omega), rv_set] at s4
    have o4 := o3.put (rv (rows[i].set 1 (putR by' (rows[i].getD 1 0)).1))
    have s5 := o4.storeL 2 [.int .i64 (putR by' (rows[i].getD 2 0)).1] (by simp) (by rw [rv_len, List.length_set]; simp; omega) rfl
    rw [splice_one (by rw [rv_len, List.length_set]; omega), rv_set] at s5
    have o5 := o4.put (rv ((rows[i].set 1 (putR by' (rows[i].getD 1 0)).1).set 2 (putR by' (rows[i].getD 2 0)).1))
    have f5 : ∀ c, c < h1.next → ((h3.put h1.next (newBlk (rv (rows[i].set 1 (putR by' (rows[i].getD 1 0)).1)) (I.t 163))).put h1.next (newBlk (rv ((rows[i].set 1 (putR by' (rows[i].getD 1 0)).1).set 2 (putR by' (rows[i].getD 2 0)).1)) (I.t 163))).get c = h1.get c := fun c hc => (get_put_ne _ (by omega)).trans ((get_put_ne _ (by omega)).trans (f3 c hc))
    have n5 : ((h3.put h1.next (newBlk (rv (rows[i].set 1 (putR by' (rows[i].getD 1 0)).1)) (I.t 163))).put h1.next (newBlk (rv ((rows[i].set 1 (putR by' (rows[i].getD 1 0)).1).set 2 (putR by' (rows[i].getD 2 0)).1)) (I.t 163))).next = h1.next + 1 := n3
    rw [show (rows[i].set 1 (putR by' (rows[i].getD 1 0)).1).set 2 (putR by' (rows[i].getD 2 0)).1 = rfS by' rows[i] from rfl] at s5 o5 f5 n5
    generalize hh5 : (h3.put h1.next (newBlk (rv (rows[i].set 1 (putR by' (rows[i].getD 1 0)).1)) (I.t 163))).put h1.next (newBlk (rv (rfS by' rows[i])) (I.t 163)) = h5 at s5 o5 f5 n5
    have oq5 := oq1.same (h' := h5) (by omega) (f5 bq (by have := oq1.low; omega))
    have hl5 : Lst h.next h5 v (fl ((rows.take i).map (rfS by'))) 3 (I.t 163) := hl.frame (by omega) fun b k _ hb => f5 b hb
    have hrl5 : (rv (rfS by' rows[i])).length = 3 := by rw [rv_len, rfS_len]; exact hwi
    have ld5 := o5.loadL 0 3
    rw [hrl5, if_pos (by omega), List.drop_zero, ← hrl5, List.take_length, hrl5] at ld5
    have f6 : fillV (reps 1 [V.int .i64 0, .int .i64 0, .int .i64 0]) [(0, 3, .agg (rv (rfS by' rows[i])))] = some (rv (rfS by' rows[i])) := by
      have : reps 1 [V.int .i64 0, .int .i64 0, .int .i64 0] = [V.int .i64 0, .int .i64 0, .int .i64 0] := by simp [reps]
      rw [this]
      unfold fillV
      simp only [zbo, hrl5, rv_cell]
      rw [if_pos (by simp), splice_whole (by rw [hrl5]; rfl)]
      rfl
    have g6 := Grow.new h5 (newBlk (rv (rfS by' rows[i])) (I.t 163))
    have o6 := Own.of_new h5 (rv (rfS by' rows[i])) (I.t 163)
    have n6 : (h5.new (newBlk (rv (rfS by' rows[i])) (I.t 163))).next = h5.next + 1 := rfl
    generalize hh6 : h5.new (newBlk (rv (rfS by' rows[i])) (I.t 163)) = h6 at g6 o6 n6
    have tw : ∀ r ∈ (rows.take i).map (rfS by'), r.length = 3 := fun r hr => by
      obtain ⟨x, hx, rfl⟩ := List.mem_map.1 hr
      rw [rfS_len]; exact hR1.wid x (List.mem_of_mem_take hx)
    have tl : (fl ((rows.take i).map (rfS by'))).length = i * 3 := by rw [fl_len tw]; simp [Nat.min_eq_left (Nat.le_of_lt hi)]
    obtain ⟨h7, happ, m1, m2, m3, m4, m5⟩ := app_ok2 T.ty (by omega) (hl5.grow g6) (by omega) (src_own o6 hrl5 (by omega)) (by omega) (by omega) (rv_cell _) (k := i) tl (by omega) (by omega)
    have oq7 := (oq5.grow g6).same (h' := h7) (by omega) (m3 bq (by have := oq5.low; omega) fun b hv e => by
      subst hv
      have := hl.low
      have := oq.low
      omega)
    have s7 := oq7.storeL 3 [.slice (some (h6.next, 0)) (i + 1) (.tl 0)] (by simp) (by rw [List.length_set, hq4]; simp) rfl
    rw [splice_one (by rw [List.length_set, hq4]; omega), List.set_set] at s7
    have oq8 := oq7.put (qc.set 3 (.slice (some (h6.next, 0)) (i + 1) (.tl 0)))
    have ldq : load1 h5 bq 3 = some v := by rw [oq5.load1, List.getElem?_set_self (by omega)]
    have hml : Lst h.next (h7.put bq (newBlk (qc.set 3 (.slice (some (h6.next, 0)) (i + 1) (.tl 0))) (I.t 177))) (.slice (some (h6.next, 0)) (i + 1) (.tl 0)) (fl ((rows.take i).map (rfS by')) ++ rv (rfS by' rows[i])) 3 (I.t 163) :=
      m1.put (by have := oq.low; omega) _
    have f8 : ∀ c, c < h.next → c ≠ bq → (h7.put bq (newBlk (qc.set 3 (.slice (some (h6.next, 0)) (i + 1) (.tl 0))) (I.t 177))).get c = h.get c := fun c hc hc2 => by
      rw [get_put_ne _ (fun e => hc2 e.symm), m3 c (by omega) (fun b hv e => by subst hv; have := hl.low; omega), g6.get c (by omega), f5 c (by omega), hf c hc hc2]
    have ha : (rows.take (i + 1)).all (okS by') = ((rows.take i).all (okS by') && ((putR by' (rows[i].getD 1 0)).2 && (putR by' (rows[i].getD 2 0)).2)) := by
      rw [List.take_succ_eq_append_getElem hi, List.all_append]
      simp [okS]
    have e8 : fl ((rows.take (i + 1)).map (rfS by')) = fl ((rows.take i).map (rfS by')) ++ rv (rfS by' rows[i]) := by
      rw [List.take_succ_eq_append_getElem hi, List.map_append, fl_append, List.map_cons, List.map_nil, fl_one]
    have n8 : (h7.put bq (newBlk (qc.set 3 (.slice (some (h6.next, 0)) (i + 1) (.tl 0))) (I.t 177))).next = h7.next := rfl
    rw [← e8] at hml
    simp only [zaa, zab, zac, zae, zaf, zai, zaj, zak, zal, zam, zao, zaq, zar, zas, zax, zay, zbi, zbj, zbk, List.map_cons, List.map_nil, Nat.reduceEqDiff, Option.map_some, zbo, zck, Bool.and_self, Nat.zero_add, Int.toNat_natCast, zdh, a_t, zdo, zdp, zdt, zeb, zec, zed, zee, zef, zeg, zeh, zei, zej, zek, zel, zem, zeo, zep, zes, if_true, if_false, q1, q2, qi, d1, hld, hat, hrl, hh2, s2, o3.load1, v1]
    refine (refPut_ok HP _ _).mono fun r0 hr0 => ?_
    simp only [hr0, zaa, zac, zai, zaj, zak, zal, zam, zaq, zas, zav, zax, zay, zbi, zbk, List.map_cons, List.map_nil, Nat.reduceEqDiff, List.getElem?_cons_zero, List.getElem?_cons_succ, Nat.zero_add, a_t, zdo, zdp, zeb, zec, zef, zeg, zes, zew, zex, if_true, if_false, q1, o3.load1, v2]
    refine (refPut_ok HP _ _).mono fun r1 hr1 => ?_
    cases k1 : (ok0 && (rows.take i).all (okS by')) <;> cases k2 : (putR by' (rows[i].getD 1 0)).2 <;> cases k3 : (putR by' (rows[i].getD 2 0)).2 <;> rw [k1] at q11 <;>
      simp only [hr1, zaa, zac, zai, zaj, zak, zal, zam, zan, zaq, zar, zav, zax, zay, zbc, zbi, zbj, zbk, List.map_cons, List.map_nil, Nat.reduceEqDiff, Option.map_some, zbp, zbt, zch, List.getElem?_cons_zero, List.getElem?_cons_succ, Nat.zero_add, zdb, zdc, zde, zdg, Nat.zero_mul, a_t, a_v, zdo, zdp, zdq, zdr, zds, zdt, zeb, zec, zef, zeg, zeh, zei, zej, zek, zel, zew, zex, zfg, zfh, if_true, if_false, List.length_cons, List.length_nil, q6, q11, qi, k3, s4, s5, ldq, ld5, f6, hh6, happ, s7, w1] <;>
      exact ⟨kk - 1, by omega, i + 1, _, _, .slice (some (h6.next, 0)) (i + 1) (.tl 0), by omega, rfl, by simp only [zbk, Nat.reduceEqDiff, if_false, q1], by simp only [zbk, Nat.reduceEqDiff, if_false, q2], by simp only [zbk, Nat.reduceEqDiff, if_false, q4], by simp only [zbk, Nat.reduceEqDiff, if_false, q6], by simp only [zbk, Nat.reduceEqDiff, Bool.and_true, Bool.and_self, Bool.and_false, if_true, if_false, ha, ← Bool.and_assoc, k1, k2, k3], by simp only [zbk, Nat.reduceEqDiff, if_true, if_false], by rw [n8]; omega, f8, oq8, hml⟩
  · have d1 : decide ((i : Int) < (rows.length : Int)) = false := decide_eq_false (by omega)
    obtain rfl : i = rows.length := by omega
    rw [List.take_length] at q11 hl
    simp only [zaa, zac, zae, zag, zai, zaj, zak, zal, zam, zap, zaq, zax, zay, zba, zbe, zbi, zbk, Nat.reduceEqDiff, zck, Nat.zero_add, a_t, zdo, zdp, zdt, zeb, zec, zef, zeg, zeo, zep, if_true, if_false, q2, qi, d1, hld]
    exact hQ _ h1 v (by simp only [zbk, Nat.reduceEqDiff, if_false, q1]) (by simp only [zbk, Nat.reduceEqDiff, if_false, q2]) (by simp only [zbk, Nat.reduceEqDiff, if_false, q4]) (by simp only [zbk, Nat.reduceEqDiff, if_false, q6]) (by simp only [zbk, Nat.reduceEqDiff, if_false, q11]) hn hf oq1 hl
end Go.Vm
