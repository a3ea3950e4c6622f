/- The document's Move, whole; it is the program's. -/
import Derived.Test.YtaccdnpmoghidaaGreatDoorWpK9
set_option linter.unusedVariables false
set_option linter.unusedSimpArgs false
namespace Go.Vm
variable {P : Program} {Y : Fns} {I : Ids}
theorem Lst.rows {n k e : Nat} {h : Hp} {v : V} {rs : List (List Int)} (s : Lst n h v (fl rs) k e) (hk : k ≠ 0) (hw : ∀ r ∈ rs, r.length = k) : ∃ a c, v = .slice a rs.length c ∧ Rw h k a rs := by
  have hl := fl_len hw
  rcases s.is with ⟨rfl, h2⟩ | ⟨b, m, rfl, h2, h3, h4, h5⟩
  · have : rs = [] := by
      rw [h2] at hl
      cases rs with
      | nil => rfl
      | cons r rs => simp [Nat.succ_mul] at hl; omega
    subst this
    exact ⟨none, .ex 0, rfl, ⟨fun _ h => (by cases h), .inl rfl⟩⟩
  · have : m = rs.length := by
      have : m * k = rs.length * k := by rw [← h2, hl]
      exact Nat.eq_of_mul_eq_mul_right (Nat.pos_of_ne_zero hk) this
    subst this
    refine ⟨some (b, 0), .tl 0, rfl, ⟨fun r hr => ?_, .inr ⟨b, 0, rfl, ?_⟩⟩⟩
    · obtain ⟨x, hx, rfl⟩ := List.mem_map.1 hr
      rw [rv_len]; exact hw x hx
    · have : h.get b = some (ambB (fl rs ++ []) e) := by rw [List.append_nil]; exact h3
      exact at_amb this h5
def rfOK (by' : Int) (p : Pc) : Bool := (((putR by' p.fr).2 && (putR by' p.to).2) && p.items.all (okI by')) && p.steps.all (okS by')
def rfP (by' : Int) (p : Pc) : Pc := if rfOK by' p then ⟨(putR by' p.fr).1, (putR by' p.to).1, p.items.map (rfI by'), p.steps.map (rfS by')⟩ else ⟨0, 0, [], []⟩
theorem ok_and (a b : Bool) : (if a then b else false) = (a && b) := by cases a <;> rfl
set_option maxHeartbeats 4000000 in
theorem refMove_ok (H : FnIs P Y (I.f 163) 136 [.cell 4 (I.t 177), .tmp 5] (c163 I)) (HP : FnIs P Y (I.f 394) 35 [.tmp 4, .tmp 5] (c394 I)) (T : PcT P I)
    {h : Hp} {cs : List V} {p : Pc} (hp : PcC h cs p) (hb1 : 2 * p.items.length * 32 ≤ 281474976710656) (hb2 : 2 * p.steps.length * 24 ≤ 281474976710656) (by' : Int) :
    CW P Y (I.f 163) [.agg cs, .int .i64 by'] none h (fun q => ∃ ds h', Grow h h' ∧ PcC h' ds (rfP by' p) ∧ q = .ret (.tuple [.agg ds, .int .i64 (if rfOK by' p then 0 else 12)]) none h') := by
  refine CW_ic H (Nat.le_of_ble_eq_true rfl) ?_
  obtain ⟨ia, ic, sa, sc, rfl, hI, hS⟩ := hp
  rw [c163_is]
  have wI := hI.wid
  have wS := hS.wid
  have g1 := Grow.new h (newBlk [.int .i64 p.fr, .int .i64 p.to, .slice ia p.items.length ic, .slice sa p.steps.length sc] (I.t 177))
  have o1 := Own.of_new h [.int .i64 p.fr, .int .i64 p.to, .slice ia p.items.length ic, .slice sa p.steps.length sc] (I.t 177)
  have n1 : (h.new (newBlk [.int .i64 p.fr, .int .i64 p.to, .slice ia p.items.length ic, .slice sa p.steps.length sc] (I.t 177))).next = h.next + 1 := rfl
  generalize hh1 : h.new (newBlk [.int .i64 p.fr, .int .i64 p.to, .slice ia p.items.length ic, .slice sa p.steps.length sc] (I.t 177)) = h1 at g1 o1 n1
  have g2 := Grow.new h1 (newBlk [.int .i64 0, .int .i64 0, .slice none 0 (.ex 0), .slice none 0 (.ex 0)] (I.t 177))
  have oz := Own.of_new h1 [.int .i64 0, .int .i64 0, .slice none 0 (.ex 0), .slice none 0 (.ex 0)] (I.t 177)
  have n2 : (h1.new (newBlk [.int .i64 0, .int .i64 0, .slice none 0 (.ex 0), .slice none 0 (.ex 0)] (I.t 177))).next = h1.next + 1 := rfl
  generalize hh2 : h1.new (newBlk [.int .i64 0, .int .i64 0, .slice none 0 (.ex 0), .slice none 0 (.ex 0)] (I.t 177)) = h2 at g2 oz n2
  have g3 := Grow.new h2 (newBlk [.int .i64 0, .int .i64 0, .slice none 0 (.ex 0), .slice none 0 (.ex 0)] (I.t 177))
  have oq := Own.of_new h2 [.int .i64 0, .int .i64 0, .slice none 0 (.ex 0), .slice none 0 (.ex 0)] (I.t 177)
  have n3 : (h2.new (newBlk [.int .i64 0, .int .i64 0, .slice none 0 (.ex 0), .slice none 0 (.ex 0)] (I.t 177))).next = h2.next + 1 := rfl
  generalize hh3 : h2.new (newBlk [.int .i64 0, .int .i64 0, .slice none 0 (.ex 0), .slice none 0 (.ex 0)] (I.t 177)) = h3 at g3 oq n3
  have o1 := o1.grow (g2.trans g3)
  have oz := oz.grow g3
  have G3 := (g1.trans g2).trans g3
  have s4 := oq.storeL 0 [.int .i64 (putR by' p.fr).1] (by simp) (by simp) rfl
  rw [splice_one (by simp), List.set_cons_zero] at s4
  have oq4 := oq.put [.int .i64 (putR by' p.fr).1, .int .i64 0, .slice none 0 (.ex 0), .slice none 0 (.ex 0)]
  have s5 := oq4.storeL 1 [.int .i64 (putR by' p.to).1] (by simp) (by simp) rfl
  rw [splice_one (by simp), List.set_cons_succ, List.set_cons_zero] at s5
  have oq5 := oq4.put [.int .i64 (putR by' p.fr).1, .int .i64 (putR by' p.to).1, .slice none 0 (.ex 0), .slice none 0 (.ex 0)]
  have f5 : ∀ c, c ≠ h2.next → ((h3.put h2.next (newBlk [.int .i64 (putR by' p.fr).1, .int .i64 0, .slice none 0 (.ex 0), .slice none 0 (.ex 0)] (I.t 177))).put h2.next (newBlk [.int .i64 (putR by' p.fr).1, .int .i64 (putR by' p.to).1, .slice none 0 (.ex 0), .slice none 0 (.ex 0)] (I.t 177))).get c = h3.get c := fun c hc => (get_put_ne _ (fun e => hc e.symm)).trans (get_put_ne _ (fun e => hc e.symm))
  have n5 : ((h3.put h2.next (newBlk [.int .i64 (putR by' p.fr).1, .int .i64 0, .slice none 0 (.ex 0), .slice none 0 (.ex 0)] (I.t 177))).put h2.next (newBlk [.int .i64 (putR by' p.fr).1, .int .i64 (putR by' p.to).1, .slice none 0 (.ex 0), .slice none 0 (.ex 0)] (I.t 177))).next = h3.next := rfl
  generalize hh5 : (h3.put h2.next (newBlk [.int .i64 (putR by' p.fr).1, .int .i64 0, .slice none 0 (.ex 0), .slice none 0 (.ex 0)] (I.t 177))).put h2.next (newBlk [.int .i64 (putR by' p.fr).1, .int .i64 (putR by' p.to).1, .slice none 0 (.ex 0), .slice none 0 (.ex 0)] (I.t 177)) = h5 at oq5 f5 n5
  have o5 := o1.same (h' := h5) (by omega) (f5 _ (by omega))
  have z5 := oz.same (h' := h5) (by omega) (f5 _ (by omega))
  have gr5 : ∀ h', h5.next ≤ h'.next → (∀ c, c < h5.next → c ≠ h2.next → h'.get c = h5.get c) → Grow h h' := fun h' hn hf => ⟨by omega, fun c hc => by
    rw [hf c (by omega) (by omega), f5 c (by omega), G3.get c hc]⟩
  simp only [zaa, zac, zai, zaj, zak, zal, zam, zaq, zas, zax, zay, zbi, zbk, List.map_cons, List.map_nil, zbl, zbm, Nat.reduceEqDiff, Nat.reduceAdd, zbo, zby, zcc, List.all_cons, List.all_nil, Bool.and_self, List.getElem?_cons_zero, Nat.zero_add, Nat.add_zero, a_t, a_v, zdo, zdp, zeb, zec, zef, zeg, zem, zen, zes, if_true, if_false, List.all_cons, List.all_nil, hh1, hh2, hh3, o1.load1]
  refine (refPut_ok HP _ _).mono fun r0 hr0 => ?_
  simp only [hr0, zaa, zac, zai, zaj, zak, zal, zam, zaq, zas, zav, zax, zay, zbi, zbk, List.map_cons, List.map_nil, Nat.reduceEqDiff, List.getElem?_cons_zero, List.getElem?_cons_succ, Nat.zero_add, a_t, zdo, zdp, zeb, zec, zef, zeg, zes, zew, zex, if_true, if_false, o1.load1]
  refine (refPut_ok HP _ _).mono fun r1 hr1 => ?_
  have ag := T.agg
  have sz := T.size
  have goal : ∀ F : Frm, gt F 1 = .int .i64 by' → gt F 2 = .ptr (some (h.next, 0)) → gt F 4 = .ptr (some (h1.next, 0)) → gt F 6 = .ptr (some (h2.next, 0)) → gt F 11 = .bool ((putR by' p.fr).2 && (putR by' p.to).2) →
      IXW P Y { fn := I.f 163, rnd := none } (.seq (gR1 I) <| .seq (gR2 I) <| c163t I) ⟨F, [], none, h5⟩ (qCall P [.cell 4 (I.t 177), .tmp 5] none (fun q => ∃ ds h', Grow h h' ∧ PcC h' ds (rfP by' p) ∧ q = .ret (.tuple [.agg ds, .int .i64 (if rfOK by' p then 0 else 12)]) none h')) := by
    intro F q1 q2 q4 q6 q11
    simp only [zaa]
    refine gR1_ok (bz := h1.next) HP T.ri o5 rfl oq5 rfl rfl (by omega) (fun h' hn hf => hI.grow (gr5 h' hn hf)) hb1 q1 q2 q4 q6 q11 fun F1 h6 v p1 p2 p4 p6 p11 n6 f6 oq6 l6 => ?_
    simp only [List.set_cons_succ, List.set_cons_zero] at oq6
    have o6 := o5.same n6 (f6 _ (by omega) (by omega))
    have z6 := z5.same n6 (f6 _ (by omega) (by omega))
    simp only [zay, zai, zaa]
    refine gR2_ok (bz := h1.next) HP T.rs o6 rfl oq6 rfl rfl (by omega) (fun h' hn hf => hS.grow (gr5 h' (by omega) fun c hc hc2 => (hf c (by omega) hc2).trans (f6 c hc hc2))) hb2 p1 p2 p4 p6 p11 fun F2 h7 w r1 r2 r4 r6 r11 n7 f7 oq7 l7 => ?_
    simp only [List.set_cons_succ, List.set_cons_zero] at oq7
    have z7 := z6.same n7 (f7 _ (by omega) (by omega))
    have l67 : Lst h5.next h7 v (fl (p.items.map (rfI by'))) 4 (I.t 197) := l6.frame n7 fun b k hv hb => f7 b hb (by subst hv; have := l6.low; omega)
    have g7 := gr5 h7 (by omega) fun c hc hc2 => (f7 c (by omega) hc2).trans (f6 c hc hc2)
    obtain ⟨av, cv, rfl, hv⟩ := l67.rows (by omega) fun r hr => by
      obtain ⟨x, hx, rfl⟩ := List.mem_map.1 hr
      rw [rfI_len]; exact wI x hx
    obtain ⟨aw, cw, rfl, hw⟩ := l7.rows (by omega) fun r hr => by
      obtain ⟨x, hx, rfl⟩ := List.mem_map.1 hr
      rw [rfS_len]; exact wS x hx
    have hOK : (((putR by' p.fr).2 && (putR by' p.to).2) && p.items.all (okI by') && p.steps.all (okS by')) = rfOK by' p := rfl
    rw [hOK] at r11
    unfold c163t
    cases hB : rfOK by' p with
    | false =>
      rw [hB] at r11
      have s8 := z7.storeL 0 [.int .i64 0, .int .i64 0, .slice none 0 (.ex 0), .slice none 0 (.ex 0)] (by simp) (by simp) rfl
      rw [sp4] at s8
      have z8 := z7.put [.int .i64 0, .int .i64 0, .slice none 0 (.ex 0), .slice none 0 (.ex 0)]
      have g8 := g7.put (b := h1.next) (by omega) (newBlk [.int .i64 0, .int .i64 0, .slice none 0 (.ex 0), .slice none 0 (.ex 0)] (I.t 177))
      have f0' : fillV [V.int .i64 0, .int .i64 0, .slice none 0 (.ex 0), .slice none 0 (.ex 0)] [] = some [V.int .i64 0, .int .i64 0, .slice none 0 (.ex 0), .slice none 0 (.ex 0)] := rfl
      have ld := z8.loadL 0 4
      simp only [List.length_cons, List.length_nil, Nat.reduceAdd, Nat.reduceLeDiff, if_true, List.drop_zero, List.take_succ_cons, List.take_zero] at ld
      simp only [zaa, zac, zae, zah, zai, zaj, zak, zal, zam, zao, zaq, zar, zax, zay, zaz, zbi, zbj, zbk, List.map_nil, Nat.reduceEqDiff, Option.map_some, Nat.reduceAdd, zbo, zcp, Bool.not_false, Nat.zero_add, Bool.false_eq_true, a_t, a_v, zdo, zdp, zdw, zej, zek, zel, zey, if_true, if_false, List.length_cons, List.length_nil, r4, r11, f0', s8]
      refine r_ret ((r_cell ag sz (by simp only [zbk, Nat.reduceEqDiff, if_false, r4]) ld).trans ((congrArg _ r_tmp).trans rfl)) ?_
      have hP : rfP by' p = ⟨0, 0, [], []⟩ := by unfold rfP; rw [hB]; rfl
      refine ⟨_, _, g8, by rw [hP]; exact ⟨none, .ex 0, none, .ex 0, rfl, ⟨fun _ h => (by cases h), .inl rfl⟩, ⟨fun _ h => (by cases h), .inl rfl⟩⟩, ?_⟩
      simp only [zbk, Nat.reduceEqDiff, if_true, if_false, List.length_nil, retV]
    | true =>
      rw [hB] at r11
      have ldq := oq7.loadL 0 4
      simp only [List.length_cons, List.length_nil, Nat.reduceAdd, Nat.reduceLeDiff, if_true, List.drop_zero, List.take_succ_cons, List.take_zero] at ldq
      have s8 := z7.storeL 0 [.int .i64 (putR by' p.fr).1, .int .i64 (putR by' p.to).1, .slice av (p.items.map (rfI by')).length cv, .slice aw (p.steps.map (rfS by')).length cw] (by simp) (by simp) rfl
      rw [sp4] at s8
      have z8 := z7.put [.int .i64 (putR by' p.fr).1, .int .i64 (putR by' p.to).1, .slice av (p.items.map (rfI by')).length cv, .slice aw (p.steps.map (rfS by')).length cw]
      have g8 := g7.put (b := h1.next) (by omega) (newBlk [.int .i64 (putR by' p.fr).1, .int .i64 (putR by' p.to).1, .slice av (p.items.map (rfI by')).length cv, .slice aw (p.steps.map (rfS by')).length cw] (I.t 177))
      have ld := z8.loadL 0 4
      simp only [List.length_cons, List.length_nil, Nat.reduceAdd, Nat.reduceLeDiff, if_true, List.drop_zero, List.take_succ_cons, List.take_zero] at ld
      have hP : rfP by' p = ⟨(putR by' p.fr).1, (putR by' p.to).1, p.items.map (rfI by'), p.steps.map (rfS by')⟩ := by unfold rfP; rw [hB]; rfl
      simp only [zaa, zab, zac, zae, zah, zai, zaj, zak, zal, zam, zap, zaq, zar, zax, zay, zbi, zbj, zbk, Nat.reduceEqDiff, Option.map_some, Nat.reduceAdd, zbo, zcp, Bool.not_true, Nat.zero_add, a_t, a_v, zdo, zdp, zdw, zeh, zei, zej, zek, zel, if_true, if_false, List.length_cons, List.length_nil, r4, r6, r11, ldq, s8]
      refine r_ret ((r_cell ag sz (by simp only [zbk, Nat.reduceEqDiff, if_false, r4]) ld).trans ((congrArg _ r_tmp).trans rfl)) ?_
      refine ⟨[.int .i64 (putR by' p.fr).1, .int .i64 (putR by' p.to).1, .slice av (p.items.map (rfI by')).length cv, .slice aw (p.steps.map (rfS by')).length cw], _, g8, ?_, ?_⟩
      · rw [hP]
        refine ⟨av, cv, aw, cw, rfl, ?_, ?_⟩
        · obtain ⟨a8, c8, e8, k8⟩ := (l67.put (c := h1.next) (by omega) (newBlk [.int .i64 (putR by' p.fr).1, .int .i64 (putR by' p.to).1, .slice av (p.items.map (rfI by')).length cv, .slice aw (p.steps.map (rfS by')).length cw] (I.t 177))).rows (by omega) fun r hr => by
            obtain ⟨x, hx, rfl⟩ := List.mem_map.1 hr
            rw [rfI_len]; exact wI x hx
          simp only [V.slice.injEq] at e8
          rw [← e8.1] at k8
          exact k8
        · obtain ⟨a8, c8, e8, k8⟩ := (l7.put (c := h1.next) (by omega) (newBlk [.int .i64 (putR by' p.fr).1, .int .i64 (putR by' p.to).1, .slice av (p.items.map (rfI by')).length cv, .slice aw (p.steps.map (rfS by')).length cw] (I.t 177))).rows (by omega) fun r hr => by
            obtain ⟨x, hx, rfl⟩ := List.mem_map.1 hr
            rw [rfS_len]; exact wS x hx
          simp only [V.slice.injEq] at e8
          rw [← e8.1] at k8
          exact k8
      · simp only [zbk, Nat.reduceEqDiff, if_true, if_false, retV]
  cases k1 : (putR by' p.fr).2 <;> cases k2 : (putR by' p.to).2 <;> simp only [hr1, zaa, zac, zai, zaj, zak, zal, zam, zan, zaq, zar, zav, zax, zay, zbi, zbj, zbk, Nat.reduceEqDiff, zbp, List.getElem?_cons_zero, List.getElem?_cons_succ, Nat.zero_add, Nat.add_zero, zdb, zdc, zde, zdg, a_t, a_v, zdo, zdp, zdq, zdr, zds, zeb, zec, zej, zek, zel, zew, zex, if_true, if_false, List.length_cons, List.length_nil, k2, s4, s5, hh5] <;>
    exact goal _ (by simp only [zbk, Nat.reduceEqDiff, if_true, if_false]) (by simp only [zbk, Nat.reduceEqDiff, if_true, if_false]) (by simp only [zbk, Nat.reduceEqDiff, if_true, if_false]) (by simp only [zbk, Nat.reduceEqDiff, if_true, if_false]) (by simp only [zbk, Nat.reduceEqDiff, Bool.and_true, Bool.and_self, Bool.and_false, if_true, if_false, k1, k2])
end Go.Vm
