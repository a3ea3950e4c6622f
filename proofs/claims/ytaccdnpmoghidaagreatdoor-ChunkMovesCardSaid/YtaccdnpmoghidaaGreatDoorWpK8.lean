/- chunk.Move, whole. -/
import Derived.Test.YtaccdnpmoghidaaGreatDoorWpK7
set_option linter.unusedVariables false
set_option linter.unusedSimpArgs false
namespace Go.Vm
variable {P : Program} {Y : Fns} {I : Ids}
theorem Mine.same {n : Nat} {h h' : Hp} {a : Option (Nat × Nat)} {l : List V} {e : Nat} (s : Mine n h a l e) (hn : h.next ≤ h'.next) (hf : ∀ c, a = some (c, 0) → n ≤ c → c < h.next → h'.get c = h.get c) : Mine n h' a l e := by
  refine ⟨s.is.imp id fun ⟨ex, b, h1, h2, h3⟩ => ⟨ex, b, h1, h2, ⟨(hf b h1 h2 h3.low).trans h3.is, Nat.lt_of_lt_of_le h3.low hn⟩⟩⟩
theorem Mine.out {n : Nat} {h : Hp} {a : Option (Nat × Nat)} {l : List V} {e : Nat} (s : Mine n h a l e) : ∃ ob : Option Nat, a = ob.map fun b => (b, 0) := by
  rcases s.is with ⟨rfl, _⟩ | ⟨_, b, rfl, _⟩
  · exact ⟨none, rfl⟩
  · exact ⟨some b, rfl⟩
theorem Mine.below {n : Nat} {h : Hp} {b : Nat} {l : List V} {e : Nat} (s : Mine n h (some (b, 0)) l e) : n ≤ b ∧ b < h.next := by
  rcases s.is with ⟨h1, _⟩ | ⟨_, b', h1, h2, h3⟩
  · cases h1
  · cases h1; exact ⟨h2, h3.low⟩
theorem Mine.lower {n m : Nat} {h : Hp} {a : Option (Nat × Nat)} {l : List V} {e : Nat} (s : Mine n h a l e) (hm : m ≤ n) : Mine m h a l e :=
  ⟨s.is.imp id fun ⟨ex, b, h1, h2, h3⟩ => ⟨ex, b, h1, by omega, h3⟩⟩
theorem Own.same {h h' : Hp} {b : Nat} {l : List V} {e : Nat} (o : Own h b l e) (hn : h.next ≤ h'.next) (hf : h'.get b = h.get b) : Own h' b l e := ⟨hf.trans o.is, Nat.lt_of_lt_of_le o.low hn⟩
/-- A piece put elsewhere: may it be? what comes out. -/
def mvB (by' : Int) (p : Pc) : Bool := putB by' p.fr || putB by' p.to || p.items.any (bdI by') || p.steps.any (bdS by')
def mvP (by' : Int) (p : Pc) : Pc := if mvB by' p then ⟨0, 0, [], []⟩ else ⟨mvC by' p.fr, mvC by' p.to, p.items.map (mvI by'), p.steps.map (mvS by')⟩
def errV (I : Ids) (b : Bool) : V := if b then sentV I 0 else .nilIface
/-- What was returned: a piece whose lists are one's own, apart. -/
structure Moved (I : Ids) (n : Nat) (h : Hp) (q : Pc) (x : PcO) : Prop where
  fr : x.1 = q.fr
  to : x.2.1 = q.to
  il : x.2.2.1.2 = q.items.length
  sl : x.2.2.2.2 = q.steps.length
  im : Mine n h (x.2.2.1.1.map fun b => (b, 0)) (fl q.items) (I.t 197)
  sm : Mine n h (x.2.2.2.1.map fun b => (b, 0)) (fl q.steps) (I.t 163)
  ap : ∀ b b', x.2.2.1.1 = some b → x.2.2.2.1 = some b' → b ≠ b'
set_option maxHeartbeats 4000000 in
theorem move_ok (H : FnIs P Y (I.f 162) 84 [.cell 4 (I.t 177), .tmp 5] (c162 I)) (H0 : FnIs P Y (I.f 390) 45 [] (c390 I)) (C1 : FnIs P Y (I.f 392) 8 [.tmp 2] (c392 I)) (C2 : FnIs P Y (I.f 393) 8 [.tmp 2] (c393 I)) (D1 : FnIs P Y (I.f 391) 9 [.tmp 2] (c391 I)) (D2 : FnIs P Y (I.f 358) 9 [.tmp 2] (c358 I)) (T : PcT P I)
    {h : Hp} (G : Glob I h) {cs : List V} {p : Pc} (hp : PcC h cs p) (hb1 : 2 * p.items.length * 32 ≤ 281474976710656) (hb2 : 2 * p.steps.length * 24 ≤ 281474976710656) (by' : Int) :
    CW P Y (I.f 162) [.agg cs, .int .i64 by'] none h (fun q => ∃ x h', Grow h h' ∧ Moved I h.next h' (mvP by' p) x ∧ q = .ret (.tuple [.agg (pcoV x), errV I (mvB by' p)]) none h') := by
  refine CW_ic H (Nat.le_of_ble_eq_true rfl) ?_
  obtain ⟨ia, ic, sa, sc, rfl, hI, hS⟩ := hp
  rw [c162_is]
  have C1' : FnIs P Y (I.f 392) 8 [.tmp 2] (gClone 4 (I.t 197)) := C1
  have C2' : FnIs P Y (I.f 393) 8 [.tmp 2] (gClone 3 (I.t 163)) := C2
  have D1' : FnIs P Y (I.f 391) 9 [.tmp 2] (gClip 4 (I.t 197)) := D1
  have D2' : FnIs P Y (I.f 358) 9 [.tmp 2] (gClip 3 (I.t 163)) := D2
  have hcv : ∀ (h : Hp) (args : List V), callV P h (I.f 390) args = .enter (I.f 390) args := fun h args => callV_is H0 h args
  have wI := hI.wid
  have wS := hS.wid
  have g1 := Grow.new h (newBlk [.int .i64 p.fr, .int .i64 p.to, .slice ia p.items.length ic, .slice sa p.steps.length sc] (I.t 177))
  have o1 := Own.of_new h [.int .i64 p.fr, .int .i64 p.to, .slice ia p.items.length ic, .slice sa p.steps.length sc] (I.t 177)
  have n1 : (h.new (newBlk [.int .i64 p.fr, .int .i64 p.to, .slice ia p.items.length ic, .slice sa p.steps.length sc] (I.t 177))).next = h.next + 1 := rfl
  generalize hh1 : h.new (newBlk [.int .i64 p.fr, .int .i64 p.to, .slice ia p.items.length ic, .slice sa p.steps.length sc] (I.t 177)) = h1 at g1 o1 n1
  have g2 := Grow.new h1 (newBlk [.int .i64 0, .int .i64 0, .slice none 0 (.ex 0), .slice none 0 (.ex 0)] (I.t 177))
  have oz := Own.of_new h1 [.int .i64 0, .int .i64 0, .slice none 0 (.ex 0), .slice none 0 (.ex 0)] (I.t 177)
  have n2 : (h1.new (newBlk [.int .i64 0, .int .i64 0, .slice none 0 (.ex 0), .slice none 0 (.ex 0)] (I.t 177))).next = h1.next + 1 := rfl
  generalize hh2 : h1.new (newBlk [.int .i64 0, .int .i64 0, .slice none 0 (.ex 0), .slice none 0 (.ex 0)] (I.t 177)) = h2 at g2 oz n2
  have f0 : fillV [V.int .i64 0, .bool false] [(0, 1, .int .i64 by')] = some [.int .i64 by', .bool false] := rfl
  have g3 := Grow.new h2 (newBlk [.int .i64 by', .bool false] (I.t 480))
  have om := Own.of_new h2 [.int .i64 by', .bool false] (I.t 480)
  have n3 : (h2.new (newBlk [.int .i64 by', .bool false] (I.t 480))).next = h2.next + 1 := rfl
  generalize hh3 : h2.new (newBlk [.int .i64 by', .bool false] (I.t 480)) = h3 at g3 om n3
  have o1 := o1.grow (g2.trans g3)
  have oz := oz.grow g3
  have G3 := (g1.trans g2).trans g3
  simp only [zaa, zac, zai, zaj, zak, zal, zam, zaq, zas, zax, zay, zbi, zbk, List.map_cons, List.map_nil, zbl, zbm, Nat.reduceEqDiff, Option.map_some, Nat.reduceAdd, zbo, zby, zbz, zcc, List.all_cons, List.all_nil, Bool.and_self, List.getElem?_cons_zero, List.getElem?_cons_succ, Nat.zero_add, a_t, a_v, zdo, zdp, zeb, zec, zef, zeg, zem, zen, zes, zey, if_true, if_false, zfk, zfm, zfn, zfp, zfq, zfr, zfu, zfv, true_and, List.all_cons, List.all_nil, hh1, hh2, f0, hh3, o1.load1]
  refine (gClone_ok C1' T.ri (hI.grow G3) rfl hb1 (by omega)).mono ?_
  rintro _ ⟨a1, c1, h4, g4, M1, rfl⟩
  simp only [zas, zav, zax, zbi, zbk, List.map_cons, List.map_nil, Nat.reduceEqDiff, Nat.reduceAdd, a_t, zes, if_true, if_false, zfm, zfn, zfp, zft, zfx, true_and]
  refine (gClip_ok D1' a1 _ c1).mono ?_
  rintro _ rfl
  have o14 := o1.grow g4
  have l1 : decide (h.next < h3.next) = true := decide_eq_true (by omega)
  have l2 : decide (h.next < h4.next) = true := decide_eq_true (by have := g4.next; omega)
  simp only [zaq, zas, zav, zax, zbi, zbk, List.map_cons, List.map_nil, Nat.reduceEqDiff, Nat.reduceAdd, List.all_cons, List.all_nil, Bool.and_self, List.getElem?_cons_zero, List.getElem?_cons_succ, Nat.zero_add, a_t, zdo, zeb, zec, zef, zeg, zes, if_true, if_false, zfm, zfn, zfp, zfq, zfr, zft, zfu, zfv, zfw, zfx, zga, zge, zgf, zgg, zgh, zgi, zgj, zgk, Nat.reduceBEq, true_and, and_true, List.all_cons, List.all_nil, o1.load1, o14.load1, l1, l2]
  refine (gClone_ok C2' T.rs (hS.grow (G3.trans g4)) rfl hb2 (by omega)).mono ?_
  rintro _ ⟨a2, c2, h5, g5, M2, rfl⟩
  simp only [zas, zav, zax, zbi, zbk, List.map_cons, List.map_nil, Nat.reduceEqDiff, Nat.reduceAdd, a_t, zes, if_true, if_false, zfm, zfn, zfp, zft, zfx, true_and]
  refine (gClip_ok D2' a2 _ c2).mono ?_
  rintro _ rfl
  have k4 := g4.next
  have k5 := g5.next
  have o15 := o14.grow g5
  have s1 := o15.storeL 2 [.slice a1 p.items.length (.ex p.items.length)] (by simp) (by simp) rfl
  rw [sp2] at s1
  have o16 := o15.put [.int .i64 p.fr, .int .i64 p.to, .slice a1 p.items.length (.ex p.items.length), .slice sa p.steps.length sc]
  have s2 := o16.storeL 3 [.slice a2 p.steps.length (.ex p.steps.length)] (by simp) (by simp) rfl
  rw [sp3] at s2
  have o17 := o16.put [.int .i64 p.fr, .int .i64 p.to, .slice a1 p.items.length (.ex p.items.length), .slice a2 p.steps.length (.ex p.steps.length)]
  have m5 := om.grow (g4.trans g5)
  have z5 := oz.grow (g4.trans g5)
  have f67 : ∀ c, c ≠ h.next → ((h5.put h.next (newBlk [.int .i64 p.fr, .int .i64 p.to, .slice a1 p.items.length (.ex p.items.length), .slice sa p.steps.length sc] (I.t 177))).put h.next (newBlk [.int .i64 p.fr, .int .i64 p.to, .slice a1 p.items.length (.ex p.items.length), .slice a2 p.steps.length (.ex p.steps.length)] (I.t 177))).get c = h5.get c := fun c hc =>
    (get_put_ne _ (fun e => hc e.symm)).trans (get_put_ne _ (fun e => hc e.symm))
  have n67 : ((h5.put h.next (newBlk [.int .i64 p.fr, .int .i64 p.to, .slice a1 p.items.length (.ex p.items.length), .slice sa p.steps.length sc] (I.t 177))).put h.next (newBlk [.int .i64 p.fr, .int .i64 p.to, .slice a1 p.items.length (.ex p.items.length), .slice a2 p.steps.length (.ex p.steps.length)] (I.t 177))).next = h5.next := rfl
  simp only [zaa, zac, zai, zaj, zal, zam, zaq, zar, zav, zax, zay, zbi, zbj, zbk, List.map_cons, List.map_nil, Nat.reduceEqDiff, Nat.reduceAdd, zbt, Nat.zero_add, Nat.add_zero, a_t, zdp, zeb, zec, zej, zek, zel, zet, zeu, if_true, if_false, List.length_cons, List.length_nil, List.nil_append, List.append_nil, zfl, zfm, zfn, zfp, zfq, zft, zfx, true_and, s1, s2]
  generalize (h5.put h.next (newBlk [.int .i64 p.fr, .int .i64 p.to, .slice a1 p.items.length (.ex p.items.length), .slice sa p.steps.length sc] (I.t 177))).put h.next (newBlk [.int .i64 p.fr, .int .i64 p.to, .slice a1 p.items.length (.ex p.items.length), .slice a2 p.steps.length (.ex p.steps.length)] (I.t 177)) = h7 at o17 f67 n67
  have m7 := m5.same (Nat.le_of_eq n67.symm) (f67 _ (by omega))
  have z7 := z5.same (Nat.le_of_eq n67.symm) (f67 _ (by omega))
  -- the two places
  simp only [zas, hcv]
  refine (put2_ok H0 m7 o17.x (x := p.fr) (j := 0) rfl (by omega)).mono ?_
  rintro _ ⟨h8, rfl, n8, f8, m8, p8⟩
  simp only [List.set_cons_zero] at p8
  simp only [zaa, zac, zai, zaj, zak, zal, zam, zaq, zas, zav, zax, zay, zbi, zbk, List.map_cons, List.map_nil, Nat.reduceEqDiff, Nat.zero_add, a_t, zdp, zeb, zec, zet, zeu, if_true, if_false, List.nil_append, List.append_nil, hcv]
  refine (put2_ok H0 m8 p8 (x := p.to) (j := 1) rfl (by omega)).mono ?_
  rintro _ ⟨h9, rfl, n9, f9, m9, p9⟩
  simp only [List.set_cons_succ, List.set_cons_zero] at p9
  have o9 := p9.own
  have f59 : ∀ c, c ≠ h.next → c ≠ h2.next → h9.get c = h5.get c := fun c hc1 hc2 => (f9 c hc2 hc1).trans ((f8 c hc2 hc1).trans (f67 c hc1))
  have n59 : h9.next = h5.next := by omega
  have M1' := (M1.grow g5).same (Nat.le_of_eq n59.symm) fun c e hc hc2 => f59 c (by omega) (by omega)
  have M2' := M2.same (Nat.le_of_eq n59.symm) fun c e hc hc2 => f59 c (by omega) (by omega)
  have z9 := z7.same (h' := h9) (by omega) ((f9 _ (by omega) (by omega)).trans (f8 _ (by omega) (by omega)))
  have b1 : ∀ b, a1 = some (b, 0) → h3.next ≤ b ∧ b < h4.next := fun b e => by subst e; exact M1.below
  have b2 : ∀ b, a2 = some (b, 0) → h4.next ≤ b ∧ b < h5.next := fun b e => by subst e; exact M2.below
  have hil : p.items.length ≤ 4611686018427387904 := by omega
  have hsl : p.steps.length ≤ 4611686018427387904 := by omega
  simp only [zaa, zai, zaj, zak, zav, zay, zbi]
  refine gM1_ok (bz := h1.next) H0 o9 rfl m9 M1' wI (fun b e => by have := b1 b e; omega) (by omega) hil (by simp only [zbk, Nat.reduceEqDiff, if_true, if_false]) (by simp only [zbk, Nat.reduceEqDiff, if_true, if_false]) (by simp only [zbk, Nat.reduceEqDiff, if_true, if_false]) (by simp only [zbk, Nat.reduceEqDiff, if_true, if_false]) (by simp only [zbk, Nat.reduceEqDiff, if_true, if_false]) fun F1 h10 q2 q4 q5 q6 q7 n10 f10 m10 N1 => ?_
  have o10 := o9.same (Nat.le_of_eq n10.symm) (f10 _ (by omega) fun e => by have := b1 _ e; omega)
  have z10 := z9.same (Nat.le_of_eq n10.symm) (f10 _ (by omega) fun e => by have := b1 _ e; omega)
  have M2'' := M2'.same (Nat.le_of_eq n10.symm) fun c e hc hc2 => f10 c (by omega) fun e1 => by have := b1 _ e1; omega
  simp only [zaa, zai, zay]
  refine gM2_ok (bz := h1.next) H0 o10 rfl m10 M2'' wS (fun b e => by have := b2 b e; omega) (by omega) hsl q2 q4 q5 q6 q7 fun F2 h11 r2 r4 r5 r6 r7 n11 f11 m11 N2 => ?_
  have o11 := o10.same (Nat.le_of_eq n11.symm) (f11 _ (by omega) fun e => by have := b2 _ e; omega)
  have z11 := z10.same (Nat.le_of_eq n11.symm) (f11 _ (by omega) fun e => by have := b2 _ e; omega)
  have N1' := N1.same (Nat.le_of_eq n11.symm) fun c e hc hc2 => f11 c (by omega) fun e1 => by have := b1 _ e; have := b2 _ e1; omega
  have hbad : (((false || putB by' p.fr) || putB by' p.to) || p.items.any (bdI by') || p.steps.any (bdS by')) = mvB by' p := by unfold mvB; rw [Bool.false_or]
  rw [hbad] at m11
  have gr : Grow h h11 := by
    refine ⟨by omega, fun c hc => ?_⟩
    have k1 := (g4.trans g5).get c (by omega)
    have k2 := G3.get c hc
    rw [f11 c (by omega) fun e => by have := b2 _ e; omega, f10 c (by omega) fun e => by have := b1 _ e; omega, f59 c (by omega) (by omega), k1, k2]
  obtain ⟨ob1, rfl⟩ := M1.out
  obtain ⟨ob2, rfl⟩ := M2.out
  have ag := T.agg
  have sz := T.size
  cases hB : mvB by' p with
  | true =>
    rw [hB] at m11
    have s12 := z11.storeL 0 [.int .i64 0, .int .i64 0, .slice none 0 (.ex 0), .slice none 0 (.ex 0)] (by simp) (by simp) rfl
    rw [sp4] at s12
    have z12 := z11.put [.int .i64 0, .int .i64 0, .slice none 0 (.ex 0), .slice none 0 (.ex 0)]
    have gr2 := gr.put (b := h1.next) (by omega) (newBlk [.int .i64 0, .int .i64 0, .slice none 0 (.ex 0), .slice none 0 (.ex 0)] (I.t 177))
    have e1 := (G.grow gr).sent 0 (by omega)
    have e2 := (G.grow gr2).sent 0 (by omega)
    have f0' : fillV [V.int .i64 0, .int .i64 0, .slice none 0 (.ex 0), .slice none 0 (.ex 0)] [] = some [V.int .i64 0, .int .i64 0, .slice none 0 (.ex 0), .slice none 0 (.ex 0)] := rfl
    have ld := z12.loadL 0 4
    simp only [List.length_cons, List.length_nil, Nat.reduceAdd, Nat.reduceLeDiff, if_true, List.drop_zero, List.take_succ_cons, List.take_zero] at ld
    simp only [zaa, zac, zae, zah, zai, zaj, zak, zal, zam, zao, zaq, zar, zax, zay, zaz, zbi, zbj, zbk, List.map_nil, Nat.reduceEqDiff, Option.map_some, Nat.reduceAdd, zbo, List.getElem?_cons_zero, List.getElem?_cons_succ, Nat.zero_add, a_t, a_v, zdo, zdp, zeb, zec, zef, zeg, zej, zek, zel, zey, if_true, if_false, List.length_cons, List.length_nil, zfk, zfl, zfm, zfn, zfp, zfq, zfr, zft, zfu, zfv, zfx, zfy, zgd, zge, zgf, zgg, zgi, zgk, Nat.reduceBEq, true_and, and_true, zgl, zgm, r4, r6, m11.load1, f0', e1, s12, e2]
    refine r_ret ((r_cell ag sz (by simp only [zbk, Nat.reduceEqDiff, if_false, r4]) ld).trans ((congrArg _ r_tmp).trans rfl)) ?_
    have hP : mvP by' p = ⟨0, 0, [], []⟩ := by unfold mvP; rw [hB]; rfl
    refine ⟨(0, 0, (none, 0), (none, 0)), _, gr2, ⟨by rw [hP], by rw [hP], by rw [hP]; rfl, by rw [hP]; rfl, by rw [hP]; exact ⟨.inl ⟨rfl, rfl⟩⟩, by rw [hP]; exact ⟨.inl ⟨rfl, rfl⟩⟩, fun _ _ e => (by cases e)⟩, ?_⟩
    simp only [zbk, Nat.reduceEqDiff, if_true, if_false, r5, retV, errV]
    rfl
  | false =>
    rw [hB] at m11
    have ld11 := o11.loadL 0 4
    simp only [List.length_cons, List.length_nil, Nat.reduceAdd, Nat.reduceLeDiff, if_true, List.drop_zero, List.take_succ_cons, List.take_zero] at ld11
    have s12 := z11.storeL 0 [.int .i64 (mvC by' p.fr), .int .i64 (mvC by' p.to), .slice (ob1.map fun b => (b, 0)) p.items.length (.ex p.items.length), .slice (ob2.map fun b => (b, 0)) p.steps.length (.ex p.steps.length)] (by simp) (by simp) rfl
    rw [sp4] at s12
    have z12 := z11.put [.int .i64 (mvC by' p.fr), .int .i64 (mvC by' p.to), .slice (ob1.map fun b => (b, 0)) p.items.length (.ex p.items.length), .slice (ob2.map fun b => (b, 0)) p.steps.length (.ex p.steps.length)]
    have gr2 := gr.put (b := h1.next) (by omega) (newBlk [.int .i64 (mvC by' p.fr), .int .i64 (mvC by' p.to), .slice (ob1.map fun b => (b, 0)) p.items.length (.ex p.items.length), .slice (ob2.map fun b => (b, 0)) p.steps.length (.ex p.steps.length)] (I.t 177))
    have ld := z12.loadL 0 4
    simp only [List.length_cons, List.length_nil, Nat.reduceAdd, Nat.reduceLeDiff, if_true, List.drop_zero, List.take_succ_cons, List.take_zero] at ld
    have L1 := N1'.same (h' := h11.put h1.next (newBlk [.int .i64 (mvC by' p.fr), .int .i64 (mvC by' p.to), .slice (ob1.map fun b => (b, 0)) p.items.length (.ex p.items.length), .slice (ob2.map fun b => (b, 0)) p.steps.length (.ex p.steps.length)] (I.t 177))) (Nat.le_refl _) fun c e hc hc2 => get_put_ne _ (by omega)
    have L2 := N2.same (h' := h11.put h1.next (newBlk [.int .i64 (mvC by' p.fr), .int .i64 (mvC by' p.to), .slice (ob1.map fun b => (b, 0)) p.items.length (.ex p.items.length), .slice (ob2.map fun b => (b, 0)) p.steps.length (.ex p.steps.length)] (I.t 177))) (Nat.le_refl _) fun c e hc hc2 => get_put_ne _ (by omega)
    simp only [zaa, zab, zac, zae, zah, zai, zaj, zak, zal, zam, zap, zaq, zar, zax, zay, zbi, zbj, zbk, Nat.reduceEqDiff, Option.map_some, Nat.reduceAdd, zbo, List.getElem?_cons_zero, List.getElem?_cons_succ, Nat.zero_add, a_t, a_v, zdo, zdp, zeb, zec, zef, zeg, zeh, zei, zej, zek, zel, if_true, if_false, List.length_cons, List.length_nil, zgl, zgm, r2, r4, r6, m11.load1, ld11, s12]
    refine r_ret ((r_cell ag sz (by simp only [zbk, Nat.reduceEqDiff, if_false, r4]) ld).trans ((congrArg _ r_tmp).trans rfl)) ?_
    have hP : mvP by' p = ⟨mvC by' p.fr, mvC by' p.to, p.items.map (mvI by'), p.steps.map (mvS by')⟩ := by unfold mvP; rw [hB]; rfl
    refine ⟨(mvC by' p.fr, mvC by' p.to, (ob1, p.items.length), (ob2, p.steps.length)), _, gr2, ⟨by rw [hP], by rw [hP], by rw [hP]; simp, by rw [hP]; simp, by rw [hP]; exact L1.lower (by omega), by rw [hP]; exact L2.lower (by omega), fun b b' e1 e2 => ?_⟩, ?_⟩
    · have e1' := b1 b (by simp only at e1; rw [e1]; rfl)
      have e2' := b2 b' (by simp only at e2; rw [e2]; rfl)
      omega
    · simp only [zbk, Nat.reduceEqDiff, Bool.false_eq_true, if_true, if_false, r5, retV, errV]
      rfl
end Go.Vm
