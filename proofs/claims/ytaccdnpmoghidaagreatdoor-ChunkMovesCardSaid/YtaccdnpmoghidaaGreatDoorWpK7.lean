/- What chunk.Move comes to. -/
import Derived.Test.YtaccdnpmoghidaaGreatDoorWpK6
import Derived.Test.YtaccdnpmoghidaaGreatDoorWpF7
set_option linter.unusedVariables false
set_option linter.unusedSimpArgs false
namespace Go.Vm
variable {P : Program} {Y : Fns} {I : Ids}
theorem fl_cons (r : List Int) (l : List (List Int)) : fl (r :: l) = rv r ++ fl l := by simp [fl]
theorem fl_get {k : Nat} : ∀ {l : List (List Int)} (hw : ∀ r ∈ l, r.length = k) {i j : Nat} (hi : i < l.length) (hj : j < k), (fl l)[i * k + j]? = some (.int .i64 (l[i].getD j 0))
  | r :: l, hw, 0, j, hi, hj => by
    have hr := hw r List.mem_cons_self
    rw [fl_cons, Nat.zero_mul, Nat.zero_add, List.getElem?_append_left (by rw [rv_len]; omega)]
    simp only [List.getElem_cons_zero]
    unfold rv
    rw [List.getElem?_map, List.getD_eq_getElem?_getD, List.getElem?_eq_getElem (by omega)]
    rfl
  | r :: l, hw, i + 1, j, hi, hj => by
    have hr := hw r List.mem_cons_self
    have ih := fl_get (l := l) (fun x hx => hw x (List.mem_cons_of_mem _ hx)) (i := i) (by simpa using hi) hj
    rw [fl_cons, List.getElem?_append_right (by rw [rv_len, hr, Nat.succ_mul]; omega), rv_len, hr, show (i + 1) * k + j - k = i * k + j by rw [Nat.succ_mul]; omega]
    simpa using ih
theorem rv_set (r : List Int) (j : Nat) (v : Int) : (rv r).set j (.int .i64 v) = rv (r.set j v) := by unfold rv; rw [List.map_set]
theorem fl_set {k : Nat} : ∀ {l : List (List Int)} (hw : ∀ r ∈ l, r.length = k) {i j : Nat} (hi : i < l.length) (hj : j < k) {v : Int}, (fl l).set (i * k + j) (.int .i64 v) = fl (l.set i (l[i].set j v))
  | r :: l, hw, 0, j, hi, hj, v => by
    have hr := hw r List.mem_cons_self
    rw [fl_cons, Nat.zero_mul, Nat.zero_add, List.set_append_left _ _ (by rw [rv_len]; omega), rv_set]
    simp only [List.getElem_cons_zero, List.set_cons_zero, fl_cons]
  | r :: l, hw, i + 1, j, hi, hj, v => by
    have hr := hw r List.mem_cons_self
    have ih := fl_set (l := l) (fun x hx => hw x (List.mem_cons_of_mem _ hx)) (i := i) (by simpa using hi) hj (v := v)
    rw [fl_cons, List.set_append_right _ _ (by rw [rv_len, hr, Nat.succ_mul]; omega), rv_len, hr, show (i + 1) * k + j - k = i * k + j by rw [Nat.succ_mul]; omega, ih]
    simp only [List.getElem_cons_succ, List.set_cons_succ, fl_cons]
/-- A number put elsewhere, if it may be. -/
def mvC (by' x : Int) : Int := if putB by' x then x else wr (x + by')
def mvI (by' : Int) (r : List Int) : List Int := (r.set 2 (mvC by' (r.getD 2 0))).set 3 (mvC by' (r.getD 3 0))
def mvS (by' : Int) (r : List Int) : List Int := (r.set 1 (mvC by' (r.getD 1 0))).set 2 (mvC by' (r.getD 2 0))
def bdI (by' : Int) (r : List Int) : Bool := putB by' (r.getD 2 0) || putB by' (r.getD 3 0)
def bdS (by' : Int) (r : List Int) : Bool := putB by' (r.getD 1 0) || putB by' (r.getD 2 0)
theorem mvI_len (by' : Int) (r : List Int) : (mvI by' r).length = r.length := by simp [mvI]
theorem mvS_len (by' : Int) (r : List Int) : (mvS by' r).length = r.length := by simp [mvS]
theorem put2_ok (H : FnIs P Y (I.f 390) 45 [] (c390 I)) {h : Hp} {bm em b e : Nat} {ex bad : Bool} {L : List V} {by' x : Int} {j : Nat} (om : Own h bm [.int .i64 by', .bool bad] em) (ob : OwnX ex h b L e) (hj : L[j]? = some (.int .i64 x)) (hne : b ≠ bm) :
    CW P Y (I.f 390) [.ptr (some (bm, 0)), .ptr (some (b, j))] none h (fun q => ∃ h', q = .ret (.tuple []) none h' ∧ h'.next = h.next ∧ (∀ c, c ≠ bm → c ≠ b → h'.get c = h.get c) ∧ Own h' bm [.int .i64 by', .bool (bad || putB by' x)] em ∧ OwnX ex h' b (L.set j (.int .i64 (mvC by' x))) e) := by
  refine (put_ok H om ob hj hne).mono ?_
  rintro _ rfl
  unfold mvC
  cases hb : putB by' x with
  | true =>
    have hLj : L.set j (.int .i64 x) = L := by
      obtain ⟨h1, h2⟩ := List.getElem?_eq_some_iff.1 hj
      rw [← h2, List.set_getElem_self]
    simp only [if_true, Bool.or_true, hLj]
    exact ⟨_, rfl, rfl, fun c h1 h2 => get_put_ne _ (fun e => h1 e.symm), om.put _, ob.put_ne _ (fun e => hne e.symm)⟩
  | false =>
    simp only [Bool.false_eq_true, if_false, Bool.or_false]
    exact ⟨_, rfl, rfl, fun c h1 h2 => get_put_ne _ (fun e => h2 e.symm), om.put_ne _ hne, ob.put _⟩
set_option maxHeartbeats 4000000 in
theorem gM1_ok (H0 : FnIs P Y (I.f 390) 45 [] (c390 I)) {ctx : Ctx} {h : Hp} {bp bm bz n0 : Nat} {by' : Int} {bad : Bool} {ia : Option (Nat × Nat)} {rows : List (List Int)} {cells : List V}
    (o1 : Own h bp cells (I.t 177)) (hcell : cells[2]? = some (.slice ia rows.length (.ex rows.length))) (om : Own h bm [.int .i64 by', .bool bad] (I.t 480)) (hM : Mine n0 h ia (fl rows) (I.t 197)) (hw : ∀ r ∈ rows, r.length = 4)
    (hs : ∀ b, ia = some (b, 0) → b ≠ bp ∧ b ≠ bm) (hne : bp ≠ bm) (hl : rows.length ≤ 4611686018427387904) {F : Frm} (q2 : gt F 2 = .ptr (some (bp, 0))) (q4 : gt F 4 = .ptr (some (bz, 0))) (q5 : gt F 5 = .nilIface) (q6 : gt F 6 = .ptr (some (bm, 0))) (q7 : gt F 7 = .func (I.f 390) [] []) {Q : X → S → Prop}
    (hQ : ∀ F' h', gt F' 2 = .ptr (some (bp, 0)) → gt F' 4 = .ptr (some (bz, 0)) → gt F' 5 = .nilIface → gt F' 6 = .ptr (some (bm, 0)) → gt F' 7 = .func (I.f 390) [] [] → h'.next = h.next → (∀ c, c ≠ bm → ia ≠ some (c, 0) → h'.get c = h.get c) →
      Own h' bm [.int .i64 by', .bool (bad || rows.any (bdI by'))] (I.t 480) → Mine n0 h' ia (fl (rows.map (mvI by'))) (I.t 197) → Q .normal ⟨F', [], none, h'⟩) : IXW P Y ctx (gM1 I) ⟨F, [], none, h⟩ Q := by
  have hcv : ∀ (h : Hp) (args : List V), callV P h (I.f 390) args = .enter (I.f 390) args := fun h args => callV_is H0 h args
  have hc1 : ∀ h', (∀ c, c ≠ bm → ia ≠ some (c, 0) → h'.get c = h.get c) → load1 h' bp 2 = some (.slice ia rows.length (.ex rows.length)) := fun h' hf => by
    rw [← hcell, ← o1.load1]
    unfold load1
    rw [hf bp hne fun e => (hs bp e).1 rfl]
  have hc0 := hc1 h fun _ _ _ => rfl
  unfold gM1
  simp only [zaa, zac, zaf, zai, zaj, zak, zal, zam, zaq, zax, zay, zbi, zbk, Nat.reduceEqDiff, Nat.zero_add, a_t, a_v, zdo, zdp, zeb, zec, zef, zeg, zeo, zep, if_true, if_false, q2, hc0]
  refine s_loop (fun kk st => ∃ (i : Nat) (F : Frm) (h' : Hp), kk + i = rows.length ∧ st = ⟨F, [], none, h'⟩ ∧ gt F 2 = .ptr (some (bp, 0)) ∧ gt F 4 = .ptr (some (bz, 0)) ∧ gt F 5 = .nilIface ∧ gt F 6 = .ptr (some (bm, 0)) ∧ gt F 7 = .func (I.f 390) [] [] ∧ gt F 33 = .int .i64 rows.length ∧ gt F 34 = .int .i64 i ∧
      h'.next = h.next ∧ (∀ c, c ≠ bm → ia ≠ some (c, 0) → h'.get c = h.get c) ∧ Own h' bm [.int .i64 by', .bool (bad || (rows.take i).any (bdI by'))] (I.t 480) ∧ Mine n0 h' ia (fl ((rows.take i).map (mvI by') ++ rows.drop i)) (I.t 197)) rows.length
    ⟨0, _, h, rfl, rfl, by simp only [zbk, Nat.reduceEqDiff, if_false, q2], by simp only [zbk, Nat.reduceEqDiff, if_false, q4], by simp only [zbk, Nat.reduceEqDiff, if_false, q5], by simp only [zbk, Nat.reduceEqDiff, if_false, q6], by simp only [zbk, Nat.reduceEqDiff, if_false, q7], by simp only [zbk, Nat.reduceEqDiff, if_true, if_false], by simp only [zbk, Nat.reduceEqDiff, if_true, if_false]; rfl, rfl, fun _ _ _ => rfl, by simpa using om, by simpa using hM⟩ ?_
  clear q2 q4 q5 q6 q7 F
  rintro kk _ ⟨i, F, h1, hkk, rfl, q2, q4, q5, q6, q7, qn, qi, hn, hf, om1, hM1⟩
  by_cases hi : i < rows.length
  · have d1 : decide ((i : Int) < (rows.length : Int)) = true := decide_eq_true (by omega)
    have w1 : IntKind.i64.wrap ((i : Int) + 1) = ((i + 1 : Nat) : Int) := by rw [wrap_i64 (by omega) (by omega)]; rfl
    have hwi := hw rows[i] (List.getElem_mem hi)
    have hR : ∀ r ∈ (rows.take i).map (mvI by') ++ rows.drop i, r.length = 4 := fun r hr => by
      rcases List.mem_append.1 hr with hr | hr
      · obtain ⟨x, hx, rfl⟩ := List.mem_map.1 hr
        rw [mvI_len]; exact hw x (List.mem_of_mem_take hx)
      · exact hw r (List.mem_of_mem_drop hr)
    have hlt : i < ((rows.take i).map (mvI by') ++ rows.drop i).length := by simp; omega
    have hgi : ((rows.take i).map (mvI by') ++ rows.drop i)[i] = rows[i] := by
      rw [List.getElem_append_right (by simp; omega)]
      simp [Nat.min_eq_left (Nat.le_of_lt hi)]
    obtain ⟨ex, b, rfl, hnb, ob⟩ : ∃ ex b, ia = some (b, 0) ∧ n0 ≤ b ∧ OwnX ex h1 b (fl ((rows.take i).map (mvI by') ++ rows.drop i)) (I.t 197) := by
      rcases hM1.is with ⟨_, h2⟩ | h2
      · have := fl_len hR
        rw [h2] at this
        simp only [List.length_nil] at this
        have h3 : 0 < ((rows.take i).map (mvI by') ++ rows.drop i).length * 4 := Nat.mul_pos (by omega) (by omega)
        omega
      · exact h2
    obtain ⟨hbp, hbm⟩ := hs b rfl
    have hld := hc1 h1 hf
    have v1 := fl_get hR hlt (j := 2) (by omega)
    rw [hgi] at v1
    simp only [zaa, zab, zac, zae, zaf, zai, zaj, zak, zal, zam, zao, zaq, zas, zax, zay, zbi, zbk, List.map_cons, List.map_nil, Nat.reduceEqDiff, zck, Bool.and_self, Nat.zero_add, Int.toNat_natCast, zdh, a_t, zdo, zdp, zdt, zeb, zec, zed, zee, zef, zeg, zet, zeu, if_true, if_false, List.nil_append, List.append_nil, q2, q6, q7, qn, qi, d1, hld, hcv]
    refine (put2_ok H0 om1 ob v1 hbm).mono fun r1 hr1 => ?_
    obtain ⟨h2, hr1, n2, f2, om2, ob2⟩ := hr1
    rw [fl_set hR hlt (by omega), hgi] at ob2
    have hR2 : ∀ r ∈ ((rows.take i).map (mvI by') ++ rows.drop i).set i (rows[i].set 2 (mvC by' (rows[i].getD 2 0))), r.length = 4 := fun r hr => by
      rcases List.mem_or_eq_of_mem_set hr with hr | rfl
      · exact hR r hr
      · rw [List.length_set]; exact hwi
    have hlt2 : i < (((rows.take i).map (mvI by') ++ rows.drop i).set i (rows[i].set 2 (mvC by' (rows[i].getD 2 0)))).length := by rw [List.length_set]; exact hlt
    have v2 := fl_get hR2 hlt2 (j := 3) (by omega)
    have v2' : (rows[i].set 2 (mvC by' (rows[i].getD 2 0))).getD 3 0 = rows[i].getD 3 0 := by
      rw [List.getD_eq_getElem?_getD, List.getElem?_set_ne (by omega), ← List.getD_eq_getElem?_getD]
    rw [List.getElem_set_self, v2'] at v2
    have hf2 : ∀ c, c ≠ bm → some (b, 0) ≠ some (c, 0) → h2.get c = h.get c := fun c hc hc2 => (f2 c hc fun e => hc2 (by rw [e])).trans (hf c hc hc2)
    have hld2 := hc1 h2 hf2
    simp only [hr1, zac, zai, zaj, zak, zal, zam, zaq, zas, zav, zax, zay, zbi, zbk, List.map_cons, List.map_nil, Nat.reduceEqDiff, Bool.and_self, Nat.zero_add, Int.toNat_natCast, zdh, a_t, zdo, zdp, zeb, zec, zed, zee, zef, zeg, zet, zeu, if_true, if_false, List.nil_append, List.append_nil, q2, q6, q7, d1, hld2, hcv]
    refine (put2_ok H0 om2 ob2 v2 hbm).mono fun r2 hr2 => ?_
    obtain ⟨h3, hr2, n3, f3, om3, ob3⟩ := hr2
    rw [fl_set hR2 hlt2 (by omega), List.getElem_set_self, List.set_set] at ob3
    simp only [hr2, zac, zai, zaj, zak, zal, zam, zaq, zav, zax, zay, zbc, zbi, zbk, Nat.reduceEqDiff, zch, a_t, a_v, zdo, zdp, zdt, if_true, if_false, qi, w1]
    refine ⟨kk - 1, by omega, i + 1, _, h3, by omega, rfl, by simp only [zbk, Nat.reduceEqDiff, if_false, q2], by simp only [zbk, Nat.reduceEqDiff, if_false, q4], by simp only [zbk, Nat.reduceEqDiff, if_false, q5], by simp only [zbk, Nat.reduceEqDiff, if_false, q6], by simp only [zbk, Nat.reduceEqDiff, if_false, q7], by simp only [zbk, Nat.reduceEqDiff, if_false, qn], by simp only [zbk, Nat.reduceEqDiff, if_true, if_false], by omega, fun c hc hc2 => (f3 c hc fun e => hc2 (by rw [e])).trans (hf2 c hc hc2), ?_, ⟨.inr ⟨ex, b, rfl, hnb, ?_⟩⟩⟩
    · have e1 : (rows.take (i + 1)).any (bdI by') = ((rows.take i).any (bdI by') || (putB by' (rows[i].getD 2 0) || putB by' (rows[i].getD 3 0))) := by
        rw [List.take_succ_eq_append_getElem hi, List.any_append]
        simp [bdI]
      rw [e1]
      simpa only [Bool.or_assoc] using om3
    · have e2 : (rows.take (i + 1)).map (mvI by') ++ rows.drop (i + 1) = ((rows.take i).map (mvI by') ++ rows.drop i).set i ((rows[i].set 2 (mvC by' (rows[i].getD 2 0))).set 3 (mvC by' (rows[i].getD 3 0))) := by
        have hz : i - ((rows.take i).map (mvI by')).length = 0 := by simp; omega
        rw [List.take_succ_eq_append_getElem hi, List.map_append, List.append_assoc, List.set_append_right _ _ (by simp; omega), hz, List.drop_eq_getElem_cons hi, List.set_cons_zero]
        rfl
      rw [e2]
      exact ob3
  · have d1 : decide ((i : Int) < (rows.length : Int)) = false := decide_eq_false (by omega)
    obtain rfl : i = rows.length := by omega
    rw [List.take_length] at om1 hM1
    rw [List.drop_length, List.append_nil] at hM1
    simp only [zaa, zac, zae, zag, zai, zaj, zak, zal, zam, zap, zaq, zax, zay, zba, zbe, zbi, zbk, zck, a_t, zdo, zdt, if_true, qn, qi, d1]
    exact hQ _ h1 (by simp only [zbk, Nat.reduceEqDiff, if_false, q2]) (by simp only [zbk, Nat.reduceEqDiff, if_false, q4]) (by simp only [zbk, Nat.reduceEqDiff, if_false, q5]) (by simp only [zbk, Nat.reduceEqDiff, if_false, q6]) (by simp only [zbk, Nat.reduceEqDiff, if_false, q7]) hn hf om1 hM1
set_option maxHeartbeats 4000000 in
theorem gM2_ok (H0 : FnIs P Y (I.f 390) 45 [] (c390 I)) {ctx : Ctx} {h : Hp} {bp bm bz n0 : Nat} {by' : Int} {bad : Bool} {ia : Option (Nat × Nat)} {rows : List (List Int)} {cells : List V}
    (o1 : Own h bp cells (I.t 177)) (hcell : cells[3]? = some (.slice ia rows.length (.ex rows.length))) (om : Own h bm [.int .i64 by', .bool bad] (I.t 480)) (hM : Mine n0 h ia (fl rows) (I.t 163)) (hw : ∀ r ∈ rows, r.length = 3)
    (hs : ∀ b, ia = some (b, 0) → b ≠ bp ∧ b ≠ bm) (hne : bp ≠ bm) (hl : rows.length ≤ 4611686018427387904) {F : Frm} (q2 : gt F 2 = .ptr (some (bp, 0))) (q4 : gt F 4 = .ptr (some (bz, 0))) (q5 : gt F 5 = .nilIface) (q6 : gt F 6 = .ptr (some (bm, 0))) (q7 : gt F 7 = .func (I.f 390) [] []) {Q : X → S → Prop}
    (hQ : ∀ F' h', gt F' 2 = .ptr (some (bp, 0)) → gt F' 4 = .ptr (some (bz, 0)) → gt F' 5 = .nilIface → gt F' 6 = .ptr (some (bm, 0)) → gt F' 7 = .func (I.f 390) [] [] → h'.next = h.next → (∀ c, c ≠ bm → ia ≠ some (c, 0) → h'.get c = h.get c) →
      Own h' bm [.int .i64 by', .bool (bad || rows.any (bdS by'))] (I.t 480) → Mine n0 h' ia (fl (rows.map (mvS by'))) (I.t 163) → Q .normal ⟨F', [], none, h'⟩) : IXW P Y ctx (gM2 I) ⟨F, [], none, h⟩ Q := by
  have hcv : ∀ (h : Hp) (args : List V), callV P h (I.f 390) args = .enter (I.f 390) args := fun h args => callV_is H0 h args
  have hc1 : ∀ h', (∀ c, c ≠ bm → ia ≠ some (c, 0) → h'.get c = h.get c) → load1 h' bp 3 = some (.slice ia rows.length (.ex rows.length)) := fun h' hf => by
    rw [← hcell, ← o1.load1]
    unfold load1
    rw [hf bp hne fun e => (hs bp e).1 rfl]
  have hc0 := hc1 h fun _ _ _ => rfl
  unfold gM2
  simp only [zaa, zac, zaf, zai, zaj, zak, zal, zam, zaq, zax, zay, zbi, zbk, Nat.reduceEqDiff, Nat.zero_add, a_t, a_v, zdo, zdp, zeb, zec, zef, zeg, zeo, zep, if_true, if_false, q2, hc0]
  refine s_loop (fun kk st => ∃ (i : Nat) (F : Frm) (h' : Hp), kk + i = rows.length ∧ st = ⟨F, [], none, h'⟩ ∧ gt F 2 = .ptr (some (bp, 0)) ∧ gt F 4 = .ptr (some (bz, 0)) ∧ gt F 5 = .nilIface ∧ gt F 6 = .ptr (some (bm, 0)) ∧ gt F 7 = .func (I.f 390) [] [] ∧ gt F 56 = .int .i64 rows.length ∧ gt F 57 = .int .i64 i ∧
      h'.next = h.next ∧ (∀ c, c ≠ bm → ia ≠ some (c, 0) → h'.get c = h.get c) ∧ Own h' bm [.int .i64 by', .bool (bad || (rows.take i).any (bdS by'))] (I.t 480) ∧ Mine n0 h' ia (fl ((rows.take i).map (mvS by') ++ rows.drop i)) (I.t 163)) rows.length
    ⟨0, _, h, rfl, rfl, by simp only [zbk, Nat.reduceEqDiff, if_false, q2], by simp only [zbk, Nat.reduceEqDiff, if_false, q4], by simp only [zbk, Nat.reduceEqDiff, if_false, q5], by simp only [zbk, Nat.reduceEqDiff, if_false, q6], by simp only [zbk, Nat.reduceEqDiff, if_false, q7], by simp only [zbk, Nat.reduceEqDiff, if_true, if_false], by simp only [zbk, Nat.reduceEqDiff, if_true, if_false]; rfl, rfl, fun _ _ _ => rfl, by simpa using om, by simpa using hM⟩ ?_
  clear q2 q4 q5 q6 q7 F
  rintro kk _ ⟨i, F, h1, hkk, rfl, q2, q4, q5, q6, q7, qn, qi, hn, hf, om1, hM1⟩
  by_cases hi : i < rows.length
  · have d1 : decide ((i : Int) < (rows.length : Int)) = true := decide_eq_true (by omega)
    have w1 : IntKind.i64.wrap ((i : Int) + 1) = ((i + 1 : Nat) : Int) := by rw [wrap_i64 (by omega) (by omega)]; rfl
    have hwi := hw rows[i] (List.getElem_mem hi)
    have hR : ∀ r ∈ (rows.take i).map (mvS by') ++ rows.drop i, r.length = 3 := fun r hr => by
      rcases List.mem_append.1 hr with hr | hr
      · obtain ⟨x, hx, rfl⟩ := List.mem_map.1 hr
        rw [mvS_len]; exact hw x (List.mem_of_mem_take hx)
      · exact hw r (List.mem_of_mem_drop hr)
    have hlt : i < ((rows.take i).map (mvS by') ++ rows.drop i).length := by simp; omega
    have hgi : ((rows.take i).map (mvS by') ++ rows.drop i)[i] = rows[i] := by
      rw [List.getElem_append_right (by simp; omega)]
      simp [Nat.min_eq_left (Nat.le_of_lt hi)]
    obtain ⟨ex, b, rfl, hnb, ob⟩ : ∃ ex b, ia = some (b, 0) ∧ n0 ≤ b ∧ OwnX ex h1 b (fl ((rows.take i).map (mvS by') ++ rows.drop i)) (I.t 163) := by
      rcases hM1.is with ⟨_, h2⟩ | h2
      · have := fl_len hR
        rw [h2] at this
        simp only [List.length_nil] at this
        have h3 : 0 < ((rows.take i).map (mvS by') ++ rows.drop i).length * 3 := Nat.mul_pos (by omega) (by omega)
        omega
      · exact h2
    obtain ⟨hbp, hbm⟩ := hs b rfl
    have hld := hc1 h1 hf
    have v1 := fl_get hR hlt (j := 1) (by omega)
    rw [hgi] at v1
    simp only [zaa, zab, zac, zae, zaf, zai, zaj, zak, zal, zam, zao, zaq, zas, zax, zay, zbi, zbk, List.map_cons, List.map_nil, Nat.reduceEqDiff, zck, Bool.and_self, Nat.zero_add, Int.toNat_natCast, zdh, a_t, zdo, zdp, zdt, zeb, zec, zed, zee, zef, zeg, zet, zeu, if_true, if_false, List.nil_append, List.append_nil, q2, q6, q7, qn, qi, d1, hld, hcv]
    refine (put2_ok H0 om1 ob v1 hbm).mono fun r1 hr1 => ?_
    obtain ⟨h2, hr1, n2, f2, om2, ob2⟩ := hr1
    rw [fl_set hR hlt (by omega), hgi] at ob2
    have hR2 : ∀ r ∈ ((rows.take i).map (mvS by') ++ rows.drop i).set i (rows[i].set 1 (mvC by' (rows[i].getD 1 0))), r.length = 3 := fun r hr => by
      rcases List.mem_or_eq_of_mem_set hr with hr | rfl
      · exact hR r hr
      · rw [List.length_set]; exact hwi
    have hlt2 : i < (((rows.take i).map (mvS by') ++ rows.drop i).set i (rows[i].set 1 (mvC by' (rows[i].getD 1 0)))).length := by rw [List.length_set]; exact hlt
    have v2 := fl_get hR2 hlt2 (j := 2) (by omega)
    have v2' : (rows[i].set 1 (mvC by' (rows[i].getD 1 0))).getD 2 0 = rows[i].getD 2 0 := by
      rw [List.getD_eq_getElem?_getD, List.getElem?_set_ne (by omega), ← List.getD_eq_getElem?_getD]
    rw [List.getElem_set_self, v2'] at v2
    have hf2 : ∀ c, c ≠ bm → some (b, 0) ≠ some (c, 0) → h2.get c = h.get c := fun c hc hc2 => (f2 c hc fun e => hc2 (by rw [e])).trans (hf c hc hc2)
    have hld2 := hc1 h2 hf2
    simp only [hr1, zac, zai, zaj, zak, zal, zam, zaq, zas, zav, zax, zay, zbi, zbk, List.map_cons, List.map_nil, Nat.reduceEqDiff, Bool.and_self, Nat.zero_add, Int.toNat_natCast, zdh, a_t, zdo, zdp, zeb, zec, zed, zee, zef, zeg, zet, zeu, if_true, if_false, List.nil_append, List.append_nil, q2, q6, q7, d1, hld2, hcv]
    refine (put2_ok H0 om2 ob2 v2 hbm).mono fun r2 hr2 => ?_
    obtain ⟨h3, hr2, n3, f3, om3, ob3⟩ := hr2
    rw [fl_set hR2 hlt2 (by omega), List.getElem_set_self, List.set_set] at ob3
    simp only [hr2, zac, zai, zaj, zak, zal, zam, zaq, zav, zax, zay, zbc, zbi, zbk, Nat.reduceEqDiff, zch, a_t, a_v, zdo, zdp, zdt, if_true, if_false, qi, w1]
    refine ⟨kk - 1, by omega, i + 1, _, h3, by omega, rfl, by simp only [zbk, Nat.reduceEqDiff, if_false, q2], by simp only [zbk, Nat.reduceEqDiff, if_false, q4], by simp only [zbk, Nat.reduceEqDiff, if_false, q5], by simp only [zbk, Nat.reduceEqDiff, if_false, q6], by simp only [zbk, Nat.reduceEqDiff, if_false, q7], by simp only [zbk, Nat.reduceEqDiff, if_false, qn], by simp only [zbk, Nat.reduceEqDiff, if_true, if_false], by omega, fun c hc hc2 => (f3 c hc fun e => hc2 (by rw [e])).trans (hf2 c hc hc2), ?_, ⟨.inr ⟨ex, b, rfl, hnb, ?_⟩⟩⟩
    · have e1 : (rows.take (i + 1)).any (bdS by') = ((rows.take i).any (bdS by') || (putB by' (rows[i].getD 1 0) || putB by' (rows[i].getD 2 0))) := by
        rw [List.take_succ_eq_append_getElem hi, List.any_append]
        simp [bdS]
      rw [e1]
      simpa only [Bool.or_assoc] using om3
    · have e2 : (rows.take (i + 1)).map (mvS by') ++ rows.drop (i + 1) = ((rows.take i).map (mvS by') ++ rows.drop i).set i ((rows[i].set 1 (mvC by' (rows[i].getD 1 0))).set 2 (mvC by' (rows[i].getD 2 0))) := by
        have hz : i - ((rows.take i).map (mvS by')).length = 0 := by simp; omega
        rw [List.take_succ_eq_append_getElem hi, List.map_append, List.append_assoc, List.set_append_right _ _ (by simp; omega), hz, List.drop_eq_getElem_cons hi, List.set_cons_zero]
        rfl
      rw [e2]
      exact ob3
  · have d1 : decide ((i : Int) < (rows.length : Int)) = false := decide_eq_false (by omega)
    obtain rfl : i = rows.length := by omega
    rw [List.take_length] at om1 hM1
    rw [List.drop_length, List.append_nil] at hM1
    simp only [zaa, zac, zae, zag, zai, zaj, zak, zal, zam, zap, zaq, zax, zay, zba, zbe, zbi, zbk, zck, a_t, zdo, zdt, if_true, qn, qi, d1]
    exact hQ _ h1 (by simp only [zbk, Nat.reduceEqDiff, if_false, q2]) (by simp only [zbk, Nat.reduceEqDiff, if_false, q4]) (by simp only [zbk, Nat.reduceEqDiff, if_false, q5]) (by simp only [zbk, Nat.reduceEqDiff, if_false, q6]) (by simp only [zbk, Nat.reduceEqDiff, if_false, q7]) hn hf om1 hM1
end Go.Vm
