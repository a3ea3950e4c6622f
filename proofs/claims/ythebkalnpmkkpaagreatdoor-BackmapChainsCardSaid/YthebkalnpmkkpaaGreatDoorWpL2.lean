/- Rules and grammars, lent with marks behind their lists. -/
import Derived.Test.YthebkalnpmkkpaaGreatDoorWpL1
import Derived.Test.YthebkalnpmkkpaaGreatDoorWpK6
set_option linter.unusedVariables false
set_option linter.unusedSimpArgs false
namespace Go.Vm
variable {P : Program} {Y : Fns} {I : Ids}
theorem LentC.frame {n : Nat} {h h' : Hp} {v : V} {vs : List V} {mk : V} {e : Nat} (s : LentC n h v vs mk e) (hn : h.next ≤ h'.next) (hf : ∀ b k, v = .slice (some (b, 0)) k (.tl 0) → b < h.next → h'.get b = h.get b) : LentC n h' v vs mk e := by
  obtain ⟨b, h1, h2, h3, h4⟩ := s
  exact ⟨b, h1, (hf b _ h1 h4).trans h2, h3, Nat.lt_of_lt_of_le h4 hn⟩
theorem LentC.block {n : Nat} {h : Hp} {b k : Nat} {vs : List V} {mk : V} {e : Nat} (s : LentC n h (.slice (some (b, 0)) k (.tl 0)) vs mk e) : n ≤ b ∧ b < h.next := by
  obtain ⟨b', h1, h2, h3, h4⟩ := s
  cases h1
  exact ⟨h3, h4⟩
abbrev mkI : V := .int .i64 (-7171)
abbrev nilS : V := .slice none 0 (.ex 0)
/-- Rules that were lent. -/
structure LentR (n : Nat) (I : Ids) (h : Hp) (v : V) (rs : List GRule) : Prop where
  is : ∃ (b : Nat) (rows : List (List V)), v = .slice (some (b, 0)) rs.length (.tl 0) ∧ h.get b = some (ambB (rows.flatten ++ [mkI, nilS]) (I.t 101)) ∧ n ≤ b ∧ b < h.next ∧ rows.length = rs.length ∧ (∀ r ∈ rows, r.length = 2) ∧
    ∀ (i : Nat) (r : GRule), rs[i]? = some r → ∃ w, rows[i]? = some [.int .i64 r.left, w] ∧ LentC n h w (r.right.map iv) mkI (I.t 3)
theorem LentR.grow {n : Nat} {h h' : Hp} {v : V} {rs : List GRule} (s : LentR n I h v rs) (g : Grow h h') : LentR n I h' v rs := by
  obtain ⟨b, rows, h1, h2, h3, h4, h5, h6, h7⟩ := s
  refine ⟨b, rows, h1, (g.get b h4).trans h2, h3, Nat.lt_of_lt_of_le h4 g.next, h5, h6, fun i r hr => ?_⟩
  obtain ⟨w, k1, k2⟩ := h7 i r hr
  exact ⟨w, k1, k2.grow g⟩
theorem LentR.low {n k : Nat} {h : Hp} {v : V} {rs : List GRule} (s : LentR n I h v rs) (hk : k ≤ n) : LentR k I h v rs := by
  obtain ⟨b, rows, h1, h2, h3, h4, h5, h6, h7⟩ := s
  refine ⟨b, rows, h1, h2, by omega, h4, h5, h6, fun i r hr => ?_⟩
  obtain ⟨w, k1, k2⟩ := h7 i r hr
  exact ⟨w, k1, k2.low hk⟩
set_option maxHeartbeats 2000000 in
theorem lentRules_ok (H : FnIs P Y (I.f 261) 36 [.tmp 2] (c261 I)) (HI : FnIs P Y (I.f 108) 14 [.tmp 2] (c108 I)) (T3 : TyIs P (I.t 3) 1 8 [.int .i64 0]) (T : TyIs P (I.t 101) 2 32 [.int .i64 0, nilS]) {h : Hp} {a : Option (Nat × Nat)} {c : Cap} {rs : List GRule} (hl : Rules h a rs) {n : Nat} (hn : n = rs.length)
    (hb : 2 * (n + 1) * 32 ≤ 281474976710656) (hr : ∀ r ∈ rs, 2 * (r.right.length + 1) * 8 ≤ 281474976710656) :
    CW P Y (I.f 261) [.slice a n c] none h (fun q => ∃ v h', Grow h h' ∧ LentR h.next I h' v rs ∧ q = .ret v none h') := by
  subst hn
  refine CW_ic H (Nat.le_of_ble_eq_true rfl) ?_
  have HI' : FnIs P Y (I.f 108) 14 [.tmp 2] (gL1 (I.t 3) (.int .i64 0) mkI) := HI
  unfold c261
  simp only [zaa, zac, zaf, zai, zaj, zak, zal, zam, zaq, zax, zay, zbi, zbl, zbm, Nat.zero_add, a_v, zdp]
  refine s_loop (fun kk st => ∃ (i : Nat) (F : Frm) (h' : Hp) (v : V) (rows : List (List V)), kk + i = rs.length ∧ st = ⟨F, [], none, h'⟩ ∧ gt F 0 = .slice a rs.length c ∧ gt F 4 = .int .i64 i ∧ gt F 3 = v ∧ Grow h h' ∧ Lst h.next h' v rows.flatten 2 (I.t 101) ∧ rows.length = i ∧ (∀ r ∈ rows, r.length = 2) ∧
      ∀ (j : Nat) (r : GRule), j < i → rs[j]? = some r → ∃ w, rows[j]? = some [.int .i64 r.left, w] ∧ LentC h.next h' w (r.right.map iv) mkI (I.t 3) ∧ ∀ b b' k k', w = .slice (some (b, 0)) k (.tl 0) → v = .slice (some (b', 0)) k' (.tl 0) → b ≠ b') rs.length
    ⟨0, _, h, nilS, [], rfl, rfl, by simp only [zbk, Nat.reduceEqDiff, if_true, if_false], by simp only [zbk, Nat.reduceEqDiff, if_true, if_false]; rfl, by simp only [zbk, Nat.reduceEqDiff, if_true, if_false], .refl _, Lst.nil _ _ _ _, rfl, fun _ h => (by cases h), fun j r hj => absurd hj (Nat.not_lt_zero _)⟩ ?_
  rintro kk _ ⟨i, F, h1, v, rows, hkk, rfl, q0, q4, q3, hg, hL, hlen, hw2, hall⟩
  have n1 := hg.next
  have hfl : ∀ {rows : List (List V)}, (∀ r ∈ rows, r.length = 2) → rows.flatten.length = rows.length * 2 := fun {rows} hw => by
    induction rows with
    | nil => rfl
    | cons r rows ih =>
      have h1 := hw r List.mem_cons_self
      have h2 := ih fun x hx => hw x (List.mem_cons_of_mem _ hx)
      simp only [List.flatten_cons, List.length_append, h1, h2, List.length_cons]
      omega
  by_cases hi : i < rs.length
  · have d1 : decide ((i : Int) < (rs.length : Int)) = true := decide_eq_true (by omega)
    have w1 : IntKind.i64.wrap ((i : Int) + 1) = ((i + 1 : Nat) : Int) := by rw [wrap_i64 (by omega) (by omega)]; rfl
    obtain ⟨b, o, a', c', rfl, hat, hin⟩ := hl.get hi
    have hlow := hat.low
    have hx := (hat.grow hg).load1 (i := 1) (by simp)
    simp only [List.getElem_cons_succ, List.getElem_cons_zero] at hx
    simp only [zaa, zab, zac, zae, zaf, zai, zaj, zak, zal, zam, zao, zaq, zas, zax, zay, zbi, zbk, List.map_cons, List.map_nil, Nat.reduceEqDiff, zbn, zck, Bool.and_self, Int.toNat_natCast, zdh, a_t, zdo, zdp, zdt, zeb, zec, zed, zee, zef, zeg, zeo, zep, zes, if_true, if_false, q0, q4, d1, hx]
    refine (gL1_ok HI' T3 rfl rfl (hin.grow hg).cl (by simp [V.isCell]) (n := rs[i].right.length) (by simp) (hr rs[i] (List.getElem_mem hi)) (by have := hr rs[i] (List.getElem_mem hi); omega)).mono fun r0 hr0 => ?_
    obtain ⟨w, h2, g2, hW, hr0⟩ := hr0
    obtain ⟨bw, rfl, hbw⟩ := hW.is
    have hWb := hW.block
    have n2 := g2.next
    have hy := ((hat.grow hg).grow g2).load1 (i := 0) (by simp)
    simp only [List.getElem_cons_zero, Nat.add_zero, zbn] at hy
    have f1 : fillV [V.int .i64 0, nilS] [(0, 1, .int .i64 rs[i].left), (1, 1, .slice (some (bw, 0)) (rs[i].right.map iv).length (.tl 0))] = some [.int .i64 rs[i].left, .slice (some (bw, 0)) (rs[i].right.map iv).length (.tl 0)] := rfl
    have f2 : fillV (reps 1 [V.int .i64 0, nilS]) [(0, 2, .agg [.int .i64 rs[i].left, .slice (some (bw, 0)) (rs[i].right.map iv).length (.tl 0)])] = some [.int .i64 rs[i].left, .slice (some (bw, 0)) (rs[i].right.map iv).length (.tl 0)] := rfl
    have g3 := Grow.new h2 (newBlk [.int .i64 rs[i].left, .slice (some (bw, 0)) (rs[i].right.map iv).length (.tl 0)] (I.t 101))
    have o3 := Own.of_new h2 [.int .i64 rs[i].left, .slice (some (bw, 0)) (rs[i].right.map iv).length (.tl 0)] (I.t 101)
    have n3 : (h2.new (newBlk [.int .i64 rs[i].left, .slice (some (bw, 0)) (rs[i].right.map iv).length (.tl 0)] (I.t 101))).next = h2.next + 1 := rfl
    generalize hh3 : h2.new (newBlk [.int .i64 rs[i].left, .slice (some (bw, 0)) (rs[i].right.map iv).length (.tl 0)] (I.t 101)) = h3 at g3 o3 n3
    obtain ⟨h4, happ, m1, m2, m3, m4, m5⟩ := app_ok2 T (by omega) (hL.grow (g2.trans g3)) (by omega) (src_own o3 rfl (by omega)) rfl (by omega) rfl (k := i) (by rw [hfl hw2, hlen]) (by omega) (by omega)
    simp only [hr0, zac, zai, zaj, zak, zal, zam, zaq, zav, zax, zay, zbc, zbi, zbk, List.map_cons, List.map_nil, Nat.reduceEqDiff, Option.map_some, zch, Bool.and_self, Nat.add_zero, Nat.zero_mul, Int.toNat_natCast, zdh, a_t, a_v, zdo, zdp, zdt, zeb, zec, zed, zee, zef, zeg, zey, zfg, zfh, if_true, if_false, q0, q4, q3, d1, hy, f1, f2, hh3, happ, w1]
    refine ⟨kk - 1, by omega, i + 1, _, h4, .slice (some (h3.next, 0)) (i + 1) (.tl 0), rows ++ [[.int .i64 rs[i].left, .slice (some (bw, 0)) (rs[i].right.map iv).length (.tl 0)]], by omega, rfl, by simp only [zbk, Nat.reduceEqDiff, if_false, q0], by simp only [zbk, Nat.reduceEqDiff, if_true, if_false], by simp only [zbk, Nat.reduceEqDiff, if_true, if_false], (((hg.trans (g2.trans g3)).keep (Nat.le_refl _)).trans m2).grow, by rw [List.flatten_append]; simpa using m1, by simp [hlen], fun r hr => ?_, fun j r hj hrj => ?_⟩
    · rcases List.mem_append.1 hr with hr | hr
      · exact hw2 r hr
      · simp at hr; rw [hr]; rfl
    · rcases Nat.lt_succ_iff_lt_or_eq.1 hj with hj | hj
      · obtain ⟨w, k1, k2, k3⟩ := hall j r hj hrj
        refine ⟨w, by rw [List.getElem?_append_left (by omega)]; exact k1, k2.frame (by omega) fun b k hv hb => ?_, fun b b' k k' e1 e2 => ?_⟩
        · rw [m3 b (by omega) fun b' e => k3 b b' k i hv e, g3.get b (by omega), g2.get b hb]
        · cases e2
          subst e1
          have := k2.block
          omega
      · subst hj
        rw [List.getElem?_eq_getElem hi] at hrj
        cases hrj
        refine ⟨_, by rw [List.getElem?_append_right (by omega), hlen, Nat.sub_self]; rfl, (hW.low n1).frame (by omega) fun b k hv hb => ?_, fun b b' k k' e1 e2 => ?_⟩
        · cases hv
          rw [m3 bw (by omega) fun b' e => ?_, g3.get bw (by omega)]
          subst e
          have := hL.low
          omega
        · cases e1
          cases e2
          omega
  · have d1 : decide ((i : Int) < (rs.length : Int)) = false := decide_eq_false (by omega)
    obtain rfl : i = rs.length := by omega
    have f1 : fillV [V.int .i64 0, nilS] [(0, 1, mkI)] = some [mkI, nilS] := rfl
    have f2 : fillV (reps 1 [V.int .i64 0, nilS]) [(0, 2, .agg [mkI, nilS])] = some [mkI, nilS] := rfl
    have g3 := Grow.new h1 (newBlk [mkI, nilS] (I.t 101))
    have o3 := Own.of_new h1 [mkI, nilS] (I.t 101)
    have n3 : (h1.new (newBlk [mkI, nilS] (I.t 101))).next = h1.next + 1 := rfl
    generalize hh3 : h1.new (newBlk [mkI, nilS] (I.t 101)) = h3 at g3 o3 n3
    obtain ⟨h4, happ, m1, m2, m3, m4, m5⟩ := app_ok2 T (by omega) (hL.grow g3) (by omega) (src_own o3 rfl (by omega)) rfl (by omega) rfl (k := rs.length) (by rw [hfl hw2, hlen]) (by omega) (by omega)
    have e1 : decide (0 ≤ rs.length) = true := by simp
    have e2 : decide (rs.length ≤ rs.length + 1) = true := by simp
    simp only [zaa, zac, zae, zag, zah, zai, zaj, zak, zal, zam, zap, zaq, zax, zay, zba, zbe, zbi, zbk, List.map_cons, List.map_nil, Nat.reduceEqDiff, Option.map_some, zbn, zck, Bool.and_self, Nat.add_zero, r_1, Nat.zero_mul, Bool.true_and, zdj, zdm, Option.getD_none, Option.getD_some, Nat.zero_le, decide_true, Nat.sub_zero, Option.isSome_some, Bool.true_or, a_t, a_v, zdo, zdp, zdt, zeo, zep, zey, zez, zfa, zfc, zfd, zfg, zfh, if_true, if_false, q0, q4, q3, d1, f1, f2, hh3, happ, e2]
    refine ⟨_, h4, (((hg.trans g3).keep (Nat.le_refl _)).trans m2).grow, ⟨h3.next, rows, rfl, m5, by omega, by omega, hlen, hw2, fun i r hr => ?_⟩, rfl⟩
    obtain ⟨w, k1, k2, k3⟩ := hall i r (List.getElem?_eq_some_iff.1 hr).1 hr
    refine ⟨w, k1, k2.frame (by omega) fun b k hv hb => ?_⟩
    rw [m3 b (by omega) fun b' e => k3 b b' k _ hv e, g3.get b hb]
end Go.Vm
