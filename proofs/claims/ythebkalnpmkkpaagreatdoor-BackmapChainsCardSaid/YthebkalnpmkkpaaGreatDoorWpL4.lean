/- Lists of ints that were handed out share no memory: kit.ApartInts. -/
import Derived.Test.YthebkalnpmkkpaaGreatDoorWpK5
import Derived.Test.YthebkalnpmkkpaaGreatDoorWpF12
set_option linter.unusedVariables false
set_option linter.unusedSimpArgs false
namespace Go.Vm
variable {P : Program} {Y : Fns} {I : Ids}
set_option maxHeartbeats 2000000 in
theorem gB1_ok (T : RowT P 1 (I.t 3) 8 [V.int .i64 0] []) {ctx : Ctx} {h : Hp} {a : Option (Nat × Nat)} {c : Cap} {A : List Out} {n : Nat} (hA : AllC h a A) (hO : Outs 1 (I.t 3) A n h fun _ _ => False) (hN : A.length ≤ 9223372036854775807) (hm : ∀ x ∈ A, x.2 ≤ 9223372036854775807)
    {F : Frm} (q0 : gt F 0 = .slice a A.length c) (q3 : gt F 3 = .int .i64 0) {Q : X → S → Prop}
    (hQ : ∀ F' h', gt F' 0 = .slice a A.length c → Turned A h h' → Outs 1 (I.t 3) A n h' (fun _ _ => True) → Q .normal ⟨F', [], none, h'⟩) : IXW P Y ctx (gB1 I) ⟨F, [], none, h⟩ Q := by
  have hk : (1 : Nat) ≠ 0 := by omega
  unfold gB1
  simp only [zaf]
  refine s_loop (fun kk st => ∃ (i : Nat) (F : Frm) (h' : Hp), kk + i = A.length ∧ st = ⟨F, [], none, h'⟩ ∧ gt F 0 = .slice a A.length c ∧ gt F 3 = .int .i64 i ∧ Turned A h h' ∧ Outs 1 (I.t 3) A n h' (fun j _ => j < i)) A.length
    ⟨0, _, h, rfl, rfl, q0, q3, .refl _ _, hO.mono fun _ _ _ _ _ _ h => by omega⟩ ?_
  clear q0 q3 F
  rintro kk _ ⟨i, F, h1, hkk, rfl, q0, q3, ht, ho⟩
  by_cases hi : i < A.length
  · have d1 : decide ((i : Int) < (A.length : Int)) = true := decide_eq_true (by omega)
    have hAi : A[i]? = some A[i] := List.getElem?_eq_getElem hi
    have hmi := hm A[i] (List.getElem_mem hi)
    simp only [zaa, zab, zac, zae, zaf, zai, zaj, zak, zal, zam, zao, zaq, zax, zay, zbi, zbk, Nat.reduceEqDiff, zck, a_t, a_v, zdo, zdp, zdt, zeo, zep, if_true, if_false, q0, q3, d1]
    refine s_loop (fun jj st => ∃ (r : Nat) (F : Frm) (h' : Hp), jj + r = A[i].2 ∧ st = ⟨F, [], none, h'⟩ ∧ gt F 0 = .slice a A.length c ∧ gt F 3 = .int .i64 i ∧ gt F 4 = .int .i64 r ∧ Turned A h h' ∧ Outs 1 (I.t 3) A n h' (fun j q => j < i ∨ (j = i ∧ q < r))) A[i].2
      ⟨0, _, h1, rfl, rfl, by simp only [zbk, Nat.reduceEqDiff, if_false, q0], by simp only [zbk, Nat.reduceEqDiff, if_false, q3], by simp only [zbk, Nat.reduceEqDiff, if_true, if_false]; rfl, ht, ho.mono fun _ _ _ _ _ _ h => h.resolve_right fun e => by omega⟩ ?_
    clear q0 q3 F ht ho
    rintro jj _ ⟨r, F, h2, hjj, rfl, q0, q3, q4, ht, ho⟩
    obtain ⟨ba, oa, rfl, hld⟩ := (hA.turned ht).get hi
    unfold outV at hld
    by_cases hr : r < A[i].2
    · have d2 : decide ((r : Int) < (A[i].2 : Int)) = true := decide_eq_true (by omega)
      obtain ⟨b, hb⟩ : ∃ b, A[i].1 = some b := by
        cases hx : A[i].1 with
        | none =>
          have := ho.none i A[i].2 (by rw [hAi, ← hx])
          omega
        | some b => exact ⟨b, rfl⟩
      have hAb : A[i]? = some (some b, A[i].2) := by rw [hAi, ← hb]
      obtain ⟨ob, hst, ho2⟩ := ho.write hk hAb hr (row := [.int .i64 (mk1 i r)]) rfl rfl rfl
      have w1 : IntKind.i64.wrap ((r : Int) + 1) = ((r + 1 : Nat) : Int) := by rw [wrap_i64 (by omega) (by omega)]; rfl
      rw [Nat.mul_one] at hst
      rw [hb] at hld
      have hmk : IntKind.i64.wrap (IntKind.i64.wrap (1000 * (i : Int)) + (r : Int)) = mk1 i r := rfl
      simp only [zaa, zab, zac, zae, zaf, zai, zaj, zak, zal, zam, zao, zaq, zar, zax, zay, zbc, zbi, zbj, zbk, Nat.reduceEqDiff, Option.map_some, zbp, zch, zcj, zck, Bool.and_self, Nat.zero_add, Nat.mul_one, Int.toNat_natCast, zdh, a_t, a_v, zdo, zdp, zdt, zed, zee, zef, zeg, zej, zek, zel, zeo, zep, if_true, if_false, List.length_cons, List.length_nil, q0, q3, q4, d1, d2, hld, hmk, hst, w1]
      refine ⟨jj - 1, by omega, r + 1, _, _, by omega, rfl, by simp only [zbk, Nat.reduceEqDiff, if_false, q0], by simp only [zbk, Nat.reduceEqDiff, if_false, q3], by simp only [zbk, Nat.reduceEqDiff, if_true, if_false], ht.put hAb ob, ho2.mono fun j b' m q _ _ h => ?_⟩
      rcases h with h | ⟨h1, h2⟩
      · exact .inl (.inl h)
      · rcases Nat.lt_succ_iff_lt_or_eq.1 h2 with h3 | h3
        · exact .inl (.inr ⟨h1, h3⟩)
        · exact .inr ⟨h1, h3⟩
    · have d2 : decide ((r : Int) < (A[i].2 : Int)) = false := decide_eq_false (by omega)
      have w1 : IntKind.i64.wrap ((i : Int) + 1) = ((i + 1 : Nat) : Int) := by rw [wrap_i64 (by omega) (by omega)]; rfl
      simp only [zaa, zac, zae, zag, zai, zaj, zak, zal, zam, zap, zaq, zax, zay, zba, zbc, zbe, zbi, zbk, Nat.reduceEqDiff, zch, zck, Bool.and_self, Nat.mul_one, Int.toNat_natCast, zdh, a_t, a_v, zdo, zdp, zdt, zed, zee, zef, zeg, zeo, zep, if_true, if_false, q0, q3, q4, d1, d2, hld, w1]
      refine ⟨kk - 1, by omega, i + 1, _, _, by omega, rfl, by simp only [zbk, Nat.reduceEqDiff, if_false, q0], by simp only [zbk, Nat.reduceEqDiff, if_true, if_false], ht, ho.mono fun j b' m q hj hq h => ?_⟩
      rcases Nat.lt_succ_iff_lt_or_eq.1 h with h3 | h3
      · exact .inl h3
      · subst h3
        rw [hAi] at hj
        have e2 : A[j].2 = m := by cases hx : A[j]; rw [hx] at hj; cases hj; rfl
        exact .inr ⟨rfl, by omega⟩
  · have d1 : decide ((i : Int) < (A.length : Int)) = false := decide_eq_false (by omega)
    simp only [zaa, zac, zae, zag, zai, zaj, zak, zal, zam, zap, zaq, zax, zay, zba, zbe, zbi, zbk, Nat.reduceEqDiff, zck, a_t, zdo, zdp, zdt, zeo, zep, if_true, if_false, q0, q3, d1]
    exact hQ _ _ (by simp only [zbk, Nat.reduceEqDiff, if_false, q0]) ht (ho.mono fun j b m q hj _ _ => by have := (List.getElem?_eq_some_iff.1 hj).1; omega)
set_option maxHeartbeats 4000000 in
theorem gB2_ok (T : RowT P 1 (I.t 3) 8 [V.int .i64 0] []) (T2 : TyIs P (I.t 69) 1 24 [.slice none 0 (.ex 0)]) {ctx : Ctx} {h : Hp} {a : Option (Nat × Nat)} {c : Cap} {A : List Out} {n : Nat} (hA : AllC h a A) (hO : Outs 1 (I.t 3) A n h fun _ _ => True) (hn : n ≤ h.next)
    (hN : 2 * A.length * 24 ≤ 281474976710656) (hm : ∀ x ∈ A, 2 * (x.2 + 30) * 8 ≤ 281474976710656 ∧ x.2 + 30 ≤ 4611686018427387904)
    {F : Frm} (q0 : gt F 0 = .slice a A.length c) (q6 : gt F 6 = .int .i64 0) (q5 : gt F 5 = .slice none 0 (.ex 0)) {Q : X → S → Prop}
    (hQ : ∀ F' h' v, gt F' 0 = .slice a A.length c → gt F' 5 = v → Grow h h' → MoreC 1 (I.t 3) (I.t 69) A h.next A.length h' v → Q .normal ⟨F', [], none, h'⟩) : IXW P Y ctx (gB2 I) ⟨F, [], none, h⟩ Q := by
  have hk : (1 : Nat) ≠ 0 := by omega
  unfold gB2
  simp only [zaf]
  refine s_loop (fun kk st => ∃ (i : Nat) (F : Frm) (h' : Hp) (v : V), kk + i = A.length ∧ st = ⟨F, [], none, h'⟩ ∧ gt F 0 = .slice a A.length c ∧ gt F 6 = .int .i64 i ∧ gt F 5 = v ∧ Grow h h' ∧ MoreC 1 (I.t 3) (I.t 69) A h.next i h' v) A.length
    ⟨0, _, h, _, rfl, rfl, q0, q6, q5, .refl _, ⟨[], Lst.nil _ _ _ _, rfl, fun j hj => absurd hj (Nat.not_lt_zero _)⟩⟩ ?_
  clear q0 q5 q6 F
  rintro kk _ ⟨i, F, h1, v, hkk, rfl, q0, q6, q5, hg, hM⟩
  by_cases hi : i < A.length
  · have d1 : decide ((i : Int) < (A.length : Int)) = true := decide_eq_true (by omega)
    have hAi : A[i]? = some A[i] := List.getElem?_eq_getElem hi
    obtain ⟨hmi, hmi2⟩ := hm A[i] (List.getElem_mem hi)
    obtain ⟨ba, oa, rfl, hld⟩ := (hA.grow hg).get hi
    have hO1 := hO.keep (hg.keep hn)
    simp only [zaa, zab, zac, zae, zaf, zai, zaj, zak, zal, zam, zao, zaq, zax, zay, zbi, zbk, Nat.reduceEqDiff, zck, Bool.and_self, Nat.mul_one, Int.toNat_natCast, zdh, a_t, a_v, zdo, zdp, zdt, zed, zee, zef, zeg, zeo, zep, if_true, if_false, q0, q6, d1, hld]
    refine s_loop (fun jj st => ∃ (r : Nat) (F : Frm) (h' : Hp) (w : V), jj + r = 30 ∧ st = ⟨F, [], none, h'⟩ ∧ gt F 0 = .slice (some (ba, oa)) A.length c ∧ gt F 6 = .int .i64 i ∧ gt F 5 = v ∧ gt F 7 = w ∧ gt F 8 = .int .i64 r ∧ Grow h1 h' ∧ Wl 1 (I.t 3) i A[i] h1.next h' r w) 30
      ⟨0, _, h1, outV A[i], rfl, rfl, by simp only [zbk, Nat.reduceEqDiff, if_false, q0], by simp only [zbk, Nat.reduceEqDiff, if_false, q6], by simp only [zbk, Nat.reduceEqDiff, if_false, q5], by simp only [zbk, Nat.reduceEqDiff, if_true, if_false], by simp only [zbk, Nat.reduceEqDiff, if_true, if_false]; rfl, .refl _, ⟨.inl ⟨rfl, rfl⟩⟩⟩ ?_
    clear q0 q6 q5 F
    rintro jj _ ⟨r, F, h2, w, hjj, rfl, q0, q6, q5, q7, q8, hg2, hw⟩
    by_cases hr : r < 30
    · have d2 : decide ((r : Int) < 30) = true := decide_eq_true (by omega)
      have f2 : fillV (reps 1 [V.int .i64 0]) [(0, 1, .int .i64 (mk2 i r))] = some [.int .i64 (mk2 i r)] := rfl
      have w1 : IntKind.i64.wrap ((r : Int) + 1) = ((r + 1 : Nat) : Int) := by rw [wrap_i64 (by omega) (by omega)]; rfl
      have hmk : IntKind.i64.wrap (IntKind.i64.wrap (500000 + IntKind.i64.wrap (1000 * (i : Int))) + (r : Int)) = mk2 i r := rfl
      obtain ⟨w', h4, happ, hw', hk4⟩ := hw.step T (hO1.keep (hg2.keep (Nat.le_trans hn hg.next))) hAi hg2.next (by have : 2 * (A[i].2 + (r + 1)) * 8 ≤ 2 * (A[i].2 + 30) * 8 := Nat.mul_le_mul_right _ (by omega); omega) (by omega)
      have happ' : appV P (h2.new (newBlk [.int .i64 (mk2 i r)] (I.t 3))) (I.t 3) 1 w (.slice (some (h2.next, 0)) 1 (.ex 1)) = .val w' h4 := happ
      simp only [zaa, zab, zac, zae, zaf, zai, zaj, zak, zal, zam, zao, zaq, zax, zay, zbc, zbi, zbk, List.map_cons, List.map_nil, Nat.reduceEqDiff, zch, zcj, zck, Nat.mul_one, a_t, a_v, zdo, zdp, zdt, zfg, zfh, if_true, if_false, q6, q7, q8, d2, hmk, f2, happ', w1]
      exact ⟨jj - 1, by omega, r + 1, _, h4, w', by omega, rfl, by simp only [zbk, Nat.reduceEqDiff, if_false, q0], by simp only [zbk, Nat.reduceEqDiff, if_false, q6], by simp only [zbk, Nat.reduceEqDiff, if_false, q5], by simp only [zbk, Nat.reduceEqDiff, if_true, if_false], by simp only [zbk, Nat.reduceEqDiff, if_true, if_false], ((hg2.keep (Nat.le_refl _)).trans hk4).grow, hw'⟩
    · obtain rfl : r = 30 := by omega
      have d2 : decide (((30 : Nat) : Int) < 30) = false := rfl
      have w1 : IntKind.i64.wrap ((i : Int) + 1) = ((i + 1 : Nat) : Int) := by rw [wrap_i64 (by omega) (by omega)]; rfl
      obtain ⟨hr0, c1, M, rfl, k1, k2, k3, k4, k5, k6⟩ : 0 < 30 ∧ _ := hw.is.resolve_left fun e => by cases e.1
      obtain ⟨cs, hl, hcs, hall⟩ := hM
      have f3 : fillV (reps 1 [V.slice none 0 (.ex 0)]) [(0, 1, .slice (some (c1, 0)) (A[i].2 + 30) (.tl 0))] = some [.slice (some (c1, 0)) (A[i].2 + 30) (.tl 0)] := rfl
      have g5 := Grow.new h2 (newBlk [.slice (some (c1, 0)) (A[i].2 + 30) (.tl 0)] (I.t 69))
      have o5 := Own.of_new h2 [.slice (some (c1, 0)) (A[i].2 + 30) (.tl 0)] (I.t 69)
      have n5 : (h2.new (newBlk [.slice (some (c1, 0)) (A[i].2 + 30) (.tl 0)] (I.t 69))).next = h2.next + 1 := rfl
      generalize hh5 : h2.new (newBlk [.slice (some (c1, 0)) (A[i].2 + 30) (.tl 0)] (I.t 69)) = h5 at g5 o5 n5
      have hg5 := hg2.trans g5
      have n1 := hg.next
      have n2 := hg2.next
      obtain ⟨h6, happ, m1, m2, m3, m4, m5⟩ := app_ok2 T2 (by omega) (hl.grow hg5) (by omega) (src_own o5 rfl (by omega)) rfl (by omega) rfl (k := i) (by rw [hcs, Nat.mul_one]) (by omega) (by omega)
      simp only [zaa, zac, zae, zag, zai, zaj, zak, zal, zam, zap, zaq, zax, zay, zba, zbc, zbe, zbi, zbk, List.map_cons, List.map_nil, Nat.reduceEqDiff, zch, zck, Nat.mul_one, a_t, a_v, zdo, zdp, zdt, zfg, zfh, if_true, if_false, q6, q5, q7, q8, d2, f3, hh5, happ, w1]
      refine ⟨kk - 1, by omega, i + 1, _, h6, _, by omega, rfl, by simp only [zbk, Nat.reduceEqDiff, if_false, q0], by simp only [zbk, Nat.reduceEqDiff, if_true, if_false], by simp only [zbk, Nat.reduceEqDiff, if_true, if_false], (((hg.trans hg5).keep (Nat.le_refl _)).trans m2).grow, ⟨_, m1, by simp [hcs], fun j hj => ?_⟩⟩
      rcases Nat.lt_succ_iff_lt_or_eq.1 hj with h | h
      · obtain ⟨x, cc, M', p1, p2, p3, p4, p5, p6, p7⟩ := hall j h
        have hne : ∀ b, v = .slice (some (b, 0)) i (.tl 0) → cc ≠ b := fun b e => p6 b i e
        refine ⟨x, cc, M', p1, by rw [List.getElem?_append_left (by omega)]; exact p2, (m3 cc (by omega) hne).trans ((hg5.get cc p5).trans p3), p4, by omega, fun b m e => ?_, p7⟩
        cases e
        omega
      · subst h
        refine ⟨A[j], c1, M, hAi, by rw [List.getElem?_append_right (by omega), hcs, Nat.sub_self]; rfl, (m3 c1 (by omega) fun b e => ?_).trans ((g5.get c1 k3).trans k1), by omega, by omega, fun b m e => ?_, k5, k6⟩
        · rcases hl.is with ⟨e2, _⟩ | ⟨b', k', e2, _, _, _, hb'⟩
          · rw [e2] at e; cases e
          · rw [e2] at e; cases e; omega
        · cases e
          omega
  · have d1 : decide ((i : Int) < (A.length : Int)) = false := decide_eq_false (by omega)
    obtain rfl : i = A.length := by omega
    simp only [zaa, zac, zae, zag, zai, zaj, zak, zal, zam, zap, zaq, zax, zay, zba, zbe, zbi, zbk, Nat.reduceEqDiff, zck, a_t, zdo, zdp, zdt, zeo, zep, if_true, if_false, q0, q6, d1]
    exact hQ _ _ v (by simp only [zbk, Nat.reduceEqDiff, if_false, q0]) (by simp only [zbk, Nat.reduceEqDiff, if_false, q5]) hg hM
set_option maxHeartbeats 4000000 in
theorem gB3_ok {f : FuncId} {h : Hp} {a : Option (Nat × Nat)} {c : Cap} {A : List Out} {n n0 : Nat} {v : V} (hA : AllC h a A) (hO : Outs 1 (I.t 3) A n h fun _ _ => True) (hM : MoreC 1 (I.t 3) (I.t 69) A n0 A.length h v)
    (hN : A.length ≤ 4611686018427387904) (hm : ∀ x ∈ A, x.2 + 30 ≤ 4611686018427387904)
    {F : Frm} (q0 : gt F 0 = .slice a A.length c) (q9 : gt F 9 = .int .i64 0) (q5 : gt F 5 = v) {Q : X → S → Prop}
    (hQ : ∀ F', Q .normal ⟨F', [], none, h⟩) : IXW P Y { fn := f, rnd := none } (gB3 I) ⟨F, [], none, h⟩ Q := by
  unfold gB3
  simp only [zaf]
  refine s_loop (fun kk st => ∃ (i : Nat) (F : Frm), kk + i = A.length ∧ st = ⟨F, [], none, h⟩ ∧ gt F 0 = .slice a A.length c ∧ gt F 9 = .int .i64 i ∧ gt F 5 = v) A.length
    ⟨0, _, rfl, rfl, q0, q9, q5⟩ ?_
  clear q0 q5 q9 F
  rintro kk _ ⟨i, F, hkk, rfl, q0, q9, q5⟩
  by_cases hi : i < A.length
  · have d1 : decide ((i : Int) < (A.length : Int)) = true := decide_eq_true (by omega)
    have hAi : A[i]? = some A[i] := List.getElem?_eq_getElem hi
    have hmi := hm A[i] (List.getElem_mem hi)
    obtain ⟨ba, oa, rfl, hld⟩ := hA.get hi
    obtain ⟨cs, hl, hcs, hall⟩ := hM
    obtain ⟨x, c1, M, p1, p2, p3, p4, p5, p6, p7, p8⟩ := hall i hi
    obtain rfl : A[i] = x := Option.some.inj (hAi.symm.trans p1)
    obtain ⟨bm, rfl, hbm⟩ : ∃ bm, v = .slice (some (bm, 0)) A.length (.tl 0) ∧ load1 h bm i = some (.slice (some (c1, 0)) (A[i].2 + 30) (.tl 0)) := by
      rcases hl.is with ⟨_, e2⟩ | ⟨b', k', e2, e3, e4, e5, e6⟩
      · subst e2; simp at hcs; omega
      · obtain rfl : k' = A.length := by omega
        refine ⟨b', e2, ?_⟩
        unfold load1
        rw [e4]
        exact p2
    have hc1 : ∀ q, load1 h c1 q = M[q]? := fun q => by unfold load1; rw [p3]; rfl
    have e30 : ((30 : Nat) : Int) = 30 := rfl
    unfold outV at hld
    simp only [zaa, zab, zac, zae, zaf, zai, zaj, zak, zal, zam, zao, zaq, zax, zay, zbi, zbk, Nat.reduceEqDiff, zck, Bool.and_self, Nat.mul_one, Int.toNat_natCast, zdh, a_t, a_v, zdo, zdp, zdt, zed, zee, zef, zeg, zeo, zep, if_true, if_false, q0, q9, d1, hld]
    refine s_loop (fun jj st => ∃ (r : Nat) (F : Frm), jj + r = A[i].2 ∧ st = ⟨F, [], none, h⟩ ∧ gt F 0 = .slice (some (ba, oa)) A.length c ∧ gt F 9 = .int .i64 i ∧ gt F 5 = .slice (some (bm, 0)) A.length (.tl 0) ∧ gt F 10 = .int .i64 A[i].2 ∧ gt F 11 = .int .i64 r) A[i].2
      ⟨0, _, rfl, rfl, by simp only [zbk, Nat.reduceEqDiff, if_false, q0], by simp only [zbk, Nat.reduceEqDiff, if_false, q9], by simp only [zbk, Nat.reduceEqDiff, if_false, q5], by simp only [zbk, Nat.reduceEqDiff, if_true, if_false], by simp only [zbk, Nat.reduceEqDiff, if_true, if_false]; rfl⟩ ?_
    clear q0 q9 q5 F
    rintro jj _ ⟨r, F, hjj, rfl, q0, q9, q5, q10, q11⟩
    by_cases hr : r < A[i].2
    · have d2 : decide ((r : Int) < (A[i].2 : Int)) = true := decide_eq_true (by omega)
      have d3 : decide ((r : Int) < ((A[i].2 + 30 : Nat) : Int)) = true := decide_eq_true (by omega)
      have w1 : IntKind.i64.wrap ((r : Int) + 1) = ((r + 1 : Nat) : Int) := by rw [wrap_i64 (by omega) (by omega)]; rfl
      have hmk : IntKind.i64.wrap (IntKind.i64.wrap (1000 * (i : Int)) + (r : Int)) = mk1 i r := rfl
      obtain ⟨b, hb⟩ : ∃ b, A[i].1 = some b := by
        cases hx : A[i].1 with
        | none =>
          have := hO.none i A[i].2 (by rw [hAi, ← hx])
          omega
        | some b => exact ⟨b, rfl⟩
      obtain ⟨_, ex, L, k1, k2, k3⟩ := hO.is i b A[i].2 (by rw [hAi, ← hb])
      have hLr := k3 r hr trivial
      have e1 : (mk1 i r == mk1 i r) = true := bq_eq rfl
      have hLr' := hLr
      rw [Nat.mul_one] at hLr'
      have p7' := p7 r hr
      rw [Nat.mul_one] at p7'
      rw [hb] at hld
      simp only [zaa, zab, zac, zae, zaf, zai, zaj, zak, zal, zam, zao, zap, zaq, zax, zay, zbc, zbi, zbk, Nat.reduceEqDiff, Option.map_some, zch, zcj, zck, zcq, zct, Bool.and_self, Bool.not_true, Nat.zero_add, zdb, zdc, zdd, Nat.mul_one, Int.toNat_natCast, zdh, a_t, a_v, zdo, zdp, zdq, zds, zdt, zdu, zed, zee, zef, zeg, if_true, if_false, q0, q9, q5, q10, q11, d1, d2, d3, hld, hbm, hmk, k1.load1, hc1, hLr', p7', e1, w1]
      exact ⟨jj - 1, by omega, r + 1, _, by omega, rfl, by simp only [zbk, Nat.reduceEqDiff, if_false, q0], by simp only [zbk, Nat.reduceEqDiff, if_false, q9], by simp only [zbk, Nat.reduceEqDiff, if_false, q5], by simp only [zbk, Nat.reduceEqDiff, if_false, q10], by simp only [zbk, Nat.reduceEqDiff, if_true, if_false]⟩
    · have d2 : decide ((r : Int) < (A[i].2 : Int)) = false := decide_eq_false (by omega)
      simp only [zaa, zac, zae, zaf, zag, zai, zaj, zak, zal, zam, zap, zaq, zax, zay, zba, zbe, zbi, zbk, Nat.reduceEqDiff, zch, zck, a_t, a_v, zdo, zdp, zdt, if_true, if_false, q9, q10, q11, d2]
      refine s_loop (fun jj st => ∃ (r : Nat) (F : Frm), jj + r = 30 ∧ st = ⟨F, [], none, h⟩ ∧ gt F 0 = .slice (some (ba, oa)) A.length c ∧ gt F 9 = .int .i64 i ∧ gt F 5 = .slice (some (bm, 0)) A.length (.tl 0) ∧ gt F 10 = .int .i64 A[i].2 ∧ gt F 12 = .int .i64 r) 30
        ⟨0, _, rfl, rfl, by simp only [zbk, Nat.reduceEqDiff, if_false, q0], by simp only [zbk, Nat.reduceEqDiff, if_false, q9], by simp only [zbk, Nat.reduceEqDiff, if_false, q5], by simp only [zbk, Nat.reduceEqDiff, if_false, q10], by simp only [zbk, Nat.reduceEqDiff, if_true, if_false]; rfl⟩ ?_
      clear q0 q9 q5 q10 q11 F hjj hr d2 r jj
      rintro jj _ ⟨r, F, hjj, rfl, q0, q9, q5, q10, q12⟩
      by_cases hr : r < 30
      · have d2 : decide ((r : Int) < 30) = true := decide_eq_true (by omega)
        have d3 : decide (((A[i].2 + r : Nat) : Int) < ((A[i].2 + 30 : Nat) : Int)) = true := decide_eq_true (by omega)
        have w1 : IntKind.i64.wrap ((r : Int) + 1) = ((r + 1 : Nat) : Int) := by rw [wrap_i64 (by omega) (by omega)]; rfl
        have w2 : IntKind.i64.wrap ((A[i].2 : Int) + (r : Int)) = ((A[i].2 + r : Nat) : Int) := by rw [wrap_i64 (by omega) (by omega)]; rfl
        have hmk : IntKind.i64.wrap (IntKind.i64.wrap (500000 + IntKind.i64.wrap (1000 * (i : Int))) + (r : Int)) = mk2 i r := rfl
        have e1 : (mk2 i r == mk2 i r) = true := bq_eq rfl
        have p8' := p8 r hr
        rw [Nat.mul_one] at p8'
        simp only [zaa, zab, zac, zae, zaf, zai, zaj, zak, zal, zam, zao, zap, zaq, zax, zay, zbc, zbi, zbk, Nat.reduceEqDiff, Option.map_some, zch, zcj, zck, zcq, zct, Bool.and_self, Bool.not_true, Nat.zero_add, Nat.mul_one, Int.toNat_natCast, zdh, a_t, a_v, zdo, zdp, zdt, zdu, zed, zee, zef, zeg, if_true, if_false, q9, q5, q10, q12, d1, d2, d3, hbm, hmk, w2, hc1, p8', e1, w1]
        exact ⟨jj - 1, by omega, r + 1, _, by omega, rfl, by simp only [zbk, Nat.reduceEqDiff, if_false, q0], by simp only [zbk, Nat.reduceEqDiff, if_false, q9], by simp only [zbk, Nat.reduceEqDiff, if_false, q5], by simp only [zbk, Nat.reduceEqDiff, if_false, q10], by simp only [zbk, Nat.reduceEqDiff, if_true, if_false]⟩
      · have d2 : decide ((r : Int) < 30) = false := decide_eq_false (by omega)
        have w1 : IntKind.i64.wrap ((i : Int) + 1) = ((i + 1 : Nat) : Int) := by rw [wrap_i64 (by omega) (by omega)]; rfl
        simp only [zaa, zac, zae, zag, zai, zaj, zak, zal, zam, zap, zaq, zax, zay, zba, zbc, zbe, zbi, zbk, Nat.reduceEqDiff, zch, zck, a_t, a_v, zdo, zdp, zdt, if_true, if_false, q9, q12, d2, w1]
        exact ⟨kk - 1, by omega, i + 1, _, by omega, rfl, by simp only [zbk, Nat.reduceEqDiff, if_false, q0], by simp only [zbk, Nat.reduceEqDiff, if_true, if_false], by simp only [zbk, Nat.reduceEqDiff, if_false, q5]⟩
  · have d1 : decide ((i : Int) < (A.length : Int)) = false := decide_eq_false (by omega)
    simp only [zaa, zac, zae, zag, zai, zaj, zak, zal, zam, zap, zaq, zax, zay, zba, zbe, zbi, zbk, Nat.reduceEqDiff, zck, a_t, zdo, zdp, zdt, zeo, zep, if_true, if_false, q0, q9, d1]
    exact hQ _
set_option maxHeartbeats 1000000 in
/-- Lists that share no memory are told to share none. -/
theorem apartInts_ok (H : FnIs P Y (I.f 140) 125 [.tmp 2] (c140 I)) (T : RowT P 1 (I.t 3) 8 [V.int .i64 0] []) (T2 : TyIs P (I.t 69) 1 24 [.slice none 0 (.ex 0)]) {h : Hp} {a : Option (Nat × Nat)} {c : Cap} {A : List Out} (hA : AllC h a A) (hO : Outs 1 (I.t 3) A h.next h fun _ _ => False) {N : Nat} (hl : N = A.length)
    (hN : 2 * N * 24 ≤ 281474976710656) (hm : ∀ x ∈ A, 2 * (x.2 + 30) * 8 ≤ 281474976710656 ∧ x.2 + 30 ≤ 4611686018427387904) :
    CW P Y (I.f 140) [.slice a N c] none h (fun q => ∃ h', Past A h h' ∧ q = .ret (.bool true) none h') := by
  subst hl
  refine CW_ic H (Nat.le_of_ble_eq_true rfl) ?_
  rw [c140_is]
  simp only [zaa, zac, zai, zaj, zak, zal, zam, zaq, zax, zay, zbi, zbl, zbm, Nat.zero_add, a_v, zdp]
  refine gB1_ok (c := c) T hA hO (by omega) (fun x hx => by have := (hm x hx).2; omega) (by simp only [zbk, Nat.reduceEqDiff, if_true, if_false]) (by simp only [zbk, Nat.reduceEqDiff, if_true, if_false]) fun F1 h1 q0 ht ho => ?_
  simp only [zaa, zac, zai, zaj, zak, zal, zam, zaq, zax, zay, zbi, a_v, zdp]
  refine gB2_ok (c := c) T T2 (hA.turned ht) ho (by rw [ht.next]; exact Nat.le_refl _) hN hm (by simp only [zbk, Nat.reduceEqDiff, if_false, q0]) (by simp only [zbk, Nat.reduceEqDiff, if_true, if_false]) (by simp only [zbk, Nat.reduceEqDiff, if_true, if_false]) fun F2 h2 v p0 p5 hg hM => ?_
  simp only [zaa, zac, zai, zaj, zak, zal, zam, zaq, zax, zay, zbi, a_v, zdp]
  refine gB3_ok (c := c) ((hA.turned ht).grow hg) (ho.keep (hg.keep (by rw [ht.next]; exact Nat.le_refl _))) hM (by omega) (fun x hx => (hm x hx).2) (by simp only [zbk, Nat.reduceEqDiff, if_false, p0]) (by simp only [zbk, if_true]) (by simp only [zbk, Nat.reduceEqDiff, if_false, p5]) fun F3 => ?_
  simp only [zaa, zac, zah, zai, zaj, zak, zal, zam, zaq, zax, zay, zbi, zbk, r_1, a_v, zdp, if_true]
  exact ⟨h2, ⟨by have := hg.next; rw [ht.next] at this; exact this, fun c hc hs => (hg.get c (by rw [ht.next]; exact hc)).trans (ht.get c hs)⟩, rfl⟩
end Go.Vm
