/- What the law ChunkMoves comes to. -/
import Derived.Test.YtaccdnpmoghidaaGreatDoorWpK10
set_option linter.unusedVariables false
set_option linter.unusedSimpArgs false
namespace Go.Vm
variable {P : Program} {Y : Fns} {I : Ids}
/-- A call that turns nothing that was there, and says this. -/
def Says (P : Program) (Y : Fns) (f : FuncId) (args : List V) (h : Hp) (v : V) : Prop := ∀ h', Grow h h' → CW P Y f args none h' fun q => ∃ h2, Grow h' h2 ∧ q = .ret v none h2
theorem any_all {α : Type} {f g : α → Bool} (h : ∀ x, g x = !f x) : ∀ l : List α, l.all g = !l.any f
  | [] => rfl
  | x :: l => by simp [h x, any_all h l]
theorem okI_bd {by' : Int} (h1 : -9223372036854775808 ≤ by') (h2 : by' ≤ 9223372036854775807) (r : List Int) : okI by' r = !bdI by' r := by
  unfold okI bdI
  rw [(put_same h1 h2 _).1, (put_same h1 h2 _).1, Bool.not_or]
theorem okS_bd {by' : Int} (h1 : -9223372036854775808 ≤ by') (h2 : by' ≤ 9223372036854775807) (r : List Int) : okS by' r = !bdS by' r := by
  unfold okS bdS
  rw [(put_same h1 h2 _).1, (put_same h1 h2 _).1, Bool.not_or]
theorem rf_mv {by' : Int} (h1 : -9223372036854775808 ≤ by') (h2 : by' ≤ 9223372036854775807) (x : Int) (hb : putB by' x = false) : (putR by' x).1 = mvC by' x := by
  rw [(put_same h1 h2 x).2 hb]
  unfold mvC
  rw [hb]
  rfl
theorem rfOK_eq {by' : Int} (h1 : -9223372036854775808 ≤ by') (h2 : by' ≤ 9223372036854775807) (p : Pc) : rfOK by' p = !mvB by' p := by
  unfold rfOK mvB
  rw [(put_same h1 h2 _).1, (put_same h1 h2 _).1, any_all (okI_bd h1 h2), any_all (okS_bd h1 h2)]
  simp only [Bool.not_or]
theorem rfP_eq {by' : Int} (h1 : -9223372036854775808 ≤ by') (h2 : by' ≤ 9223372036854775807) (p : Pc) : rfP by' p = mvP by' p := by
  unfold rfP mvP
  rw [rfOK_eq h1 h2]
  cases hb : mvB by' p with
  | true => rfl
  | false =>
    unfold mvB at hb
    simp only [Bool.or_eq_false_iff] at hb
    obtain ⟨⟨⟨a, b⟩, c⟩, d⟩ := hb
    simp only [Bool.not_false, if_true, Bool.false_eq_true, if_false]
    rw [rf_mv h1 h2 _ a, rf_mv h1 h2 _ b]
    congr 1
    · refine List.map_congr_left fun r hr => ?_
      have := List.any_eq_false.1 c r hr
      simp only [bdI, Bool.or_eq_true, not_or, Bool.not_eq_true] at this
      unfold rfI mvI
      rw [rf_mv h1 h2 _ this.1, rf_mv h1 h2 _ this.2]
    · refine List.map_congr_left fun r hr => ?_
      have := List.any_eq_false.1 d r hr
      simp only [bdS, Bool.or_eq_true, not_or, Bool.not_eq_true] at this
      unfold rfS mvS
      rw [rf_mv h1 h2 _ this.1, rf_mv h1 h2 _ this.2]
theorem mvP_wid {by' : Int} {p : Pc} (w1 : ∀ r ∈ p.items, r.length = 4) (w2 : ∀ r ∈ p.steps, r.length = 3) : (∀ r ∈ (mvP by' p).items, r.length = 4) ∧ ∀ r ∈ (mvP by' p).steps, r.length = 3 := by
  unfold mvP
  split
  · exact ⟨fun _ h => (by cases h), fun _ h => (by cases h)⟩
  · refine ⟨fun r hr => ?_, fun r hr => ?_⟩
    · obtain ⟨x, hx, rfl⟩ := List.mem_map.1 hr
      rw [mvI_len]; exact w1 x hx
    · obtain ⟨x, hx, rfl⟩ := List.mem_map.1 hr
      rw [mvS_len]; exact w2 x hx
theorem mvP_len (by' : Int) (p : Pc) : (mvP by' p).items.length ≤ p.items.length ∧ (mvP by' p).steps.length ≤ p.steps.length := by
  unfold mvP
  split <;> simp
theorem Moved.grow {n : Nat} {h h' : Hp} {q : Pc} {x : PcO} (s : Moved I n h q x) (g : Grow h h') : Moved I n h' q x := ⟨s.fr, s.to, s.il, s.sl, s.im.grow g, s.sm.grow g, s.ap⟩
theorem Moved.pc {n : Nat} {h : Hp} {q : Pc} {x : PcO} (s : Moved I n h q x) (w1 : ∀ r ∈ q.items, r.length = 4) (w2 : ∀ r ∈ q.steps, r.length = 3) : PcC h (pcoV x) q := by
  refine ⟨_, .ex x.2.2.1.2, _, .ex x.2.2.2.2, ?_, s.im.rw (by omega) w1, s.sm.rw (by omega) w2⟩
  unfold pcoV outV
  rw [s.fr, s.to, s.il, s.sl]
theorem fl_nil {k : Nat} (hk : k ≠ 0) {l : List (List Int)} (hw : ∀ r ∈ l, r.length = k) (h : fl l = []) : l.length = 0 := by
  have := fl_len hw
  rw [h] at this
  simp only [List.length_nil] at this
  rcases Nat.mul_eq_zero.1 this.symm with h | h
  · exact h
  · exact absurd h hk
/-- Two lists of one's own, made one behind the other. -/
theorem outs2 {k e : Nat} (hk : k ≠ 0) {h : Hp} {n1 m1 n2 : Nat} {x y : Out} {l m : List (List Int)} (hl : ∀ r ∈ l, r.length = k) (hm : ∀ r ∈ m, r.length = k) (lx : x.2 = l.length) (ly : y.2 = m.length)
    (sx : Mine n1 h (x.1.map fun b => (b, 0)) (fl l) e) (sy : Mine n2 h (y.1.map fun b => (b, 0)) (fl m) e) (hx : ∀ b, x.1 = some b → b < m1) (h12 : m1 ≤ n2) : Outs k e [x, y] h.next h fun _ _ => False := by
  have one : ∀ {n : Nat} {z : Out} {r : List (List Int)}, (∀ q ∈ r, q.length = k) → z.2 = r.length → Mine n h (z.1.map fun b => (b, 0)) (fl r) e → ∀ b, z.1 = some b → n ≤ b ∧ b < h.next ∧ ∃ ex L, OwnX ex h b L e ∧ L.length = z.2 * k := fun {n z r} hr hz s b hb => by
    rw [hb] at s
    rcases s.is with ⟨h1, _⟩ | ⟨ex, b', h1, h2, h3⟩
    · cases h1
    · cases h1
      exact ⟨h2, h3.low, ex, _, h3, by rw [fl_len hr, hz]⟩
  have zero : ∀ {n : Nat} {z : Out} {r : List (List Int)}, (∀ q ∈ r, q.length = k) → z.2 = r.length → Mine n h (z.1.map fun b => (b, 0)) (fl r) e → z.1 = none → z.2 = 0 := fun {n z r} hr hz s hb => by
    rw [hb] at s
    rcases s.is with ⟨_, h2⟩ | ⟨ex, b', h1, _⟩
    · rw [hz]; exact fl_nil hk hr h2
    · cases h1
  refine ⟨fun i j b c c' hi hj => ?_, fun i c hi => ?_, fun i b c hi => ?_⟩
  · match i, j, hi, hj with
    | 0, 0, _, _ => rfl
    | 1, 1, _, _ => rfl
    | 0, 1, hi, hj =>
      have e1 : x = (some b, c) := Option.some.inj hi
      have e2 : y = (some b, c') := Option.some.inj hj
      have := hx b (by rw [e1])
      have := (one hm ly sy b (by rw [e2])).1
      omega
    | 1, 0, hi, hj =>
      have e1 : y = (some b, c) := Option.some.inj hi
      have e2 : x = (some b, c') := Option.some.inj hj
      have := hx b (by rw [e2])
      have := (one hm ly sy b (by rw [e1])).1
      omega
    | n + 2, _, hi, _ => cases hi
    | 0, n + 2, _, hj => cases hj
    | 1, n + 2, _, hj => cases hj
  · match i, hi with
    | 0, hi =>
      have e1 : x = (none, c) := Option.some.inj hi
      have := zero hl lx sx (by rw [e1])
      rw [e1] at this; exact this
    | 1, hi =>
      have e1 : y = (none, c) := Option.some.inj hi
      have := zero hm ly sy (by rw [e1])
      rw [e1] at this; exact this
    | n + 2, hi => cases hi
  · match i, hi with
    | 0, hi =>
      have e1 : x = (some b, c) := Option.some.inj hi
      obtain ⟨_, h2, ex, L, h3, h4⟩ := one hl lx sx b (by rw [e1])
      exact ⟨h2, ex, L, h3, by rw [h4, e1], fun _ _ hF => hF.elim⟩
    | 1, hi =>
      have e1 : y = (some b, c) := Option.some.inj hi
      obtain ⟨_, h2, ex, L, h3, h4⟩ := one hm ly sy b (by rw [e1])
      exact ⟨h2, ex, L, h3, by rw [h4, e1], fun _ _ hF => hF.elim⟩
    | n + 2, hi => cases hi
/-- A piece's cells laid into a new box. -/
theorem box4 (h : Hp) (d : List V) (e : Nat) (z : List V) (hz : z.length = d.length) (hd : d ≠ []) (hc : d.all V.isCell = true) : ∃ h', storeL (h.new (newBlk z e)) h.next 0 d = some h' ∧ Grow h h' ∧ Own h' h.next d e ∧ h'.next = h.next + 1 := by
  have o := Own.of_new h z e
  have s := o.storeL 0 d hd (by omega) hc
  rw [splice_whole hz] at s
  exact ⟨_, s, (Grow.new h (newBlk z e)).put (Nat.le_refl _) _, o.put d, rfl⟩
set_option maxHeartbeats 400000 in
theorem chunkMoves_ok (H : FnIs P Y (I.f 28) 65 [.tmp 4] (c28 I)) (HL : FnIs P Y (I.f 161) 12 [.cell 2 (I.t 177)] (c161 I)) (LI : FnIs P Y (I.f 389) 15 [.tmp 2] (c389 I)) (LS : FnIs P Y (I.f 66) 15 [.tmp 2] (c66 I))
    (HM : FnIs P Y (I.f 162) 84 [.cell 4 (I.t 177), .tmp 5] (c162 I)) (H0 : FnIs P Y (I.f 390) 45 [] (c390 I)) (C1 : FnIs P Y (I.f 392) 8 [.tmp 2] (c392 I)) (C2 : FnIs P Y (I.f 393) 8 [.tmp 2] (c393 I)) (D1 : FnIs P Y (I.f 391) 9 [.tmp 2] (c391 I)) (D2 : FnIs P Y (I.f 358) 9 [.tmp 2] (c358 I))
    (HR : FnIs P Y (I.f 163) 136 [.cell 4 (I.t 177), .tmp 5] (c163 I)) (HP : FnIs P Y (I.f 394) 35 [.tmp 4, .tmp 5] (c394 I)) (HE : FnIs P Y (I.f 159) 31 [.tmp 4] (c159 I)) (EI : FnIs P Y (I.f 387) 26 [.tmp 4] (c387 I)) (ES : FnIs P Y (I.f 127) 26 [.tmp 4] (c127 I))
    (HK : FnIs P Y (I.f 164) 31 [.tmp 4] (c164 I)) (KI : FnIs P Y (I.f 395) 21 [.tmp 4] (c395 I)) (KS : FnIs P Y (I.f 71) 21 [.tmp 4] (c71 I)) (HA : FnIs P Y (I.f 160) 34 [.tmp 2] (c160 I)) (AI : FnIs P Y (I.f 388) 130 [.tmp 2] (c388 I)) (AS : FnIs P Y (I.f 128) 130 [.tmp 2] (c128 I))
    (T : PcT P I) (Ta : TyIs P (I.t 175) 1 24 [.slice none 0 (.ex 0)]) (Tb : TyIs P (I.t 34) 1 24 [.slice none 0 (.ex 0)])
    {h : Hp} (A : Yes P Y (I.f 156) h) (KD : ∀ b, Says P Y (I.f 73) [errV I b] h (.int .i64 (if b then 12 else 0))) (G : Glob I h) {cs : List V} {p : Pc} (hp : PcC h cs p) (hb1 : 2 * (p.items.length + 30) * 32 ≤ 281474976710656) (hb2 : 2 * (p.steps.length + 30) * 24 ≤ 281474976710656)
    (by' : Int) (r1 : -9223372036854775808 ≤ by') (r2 : by' ≤ 9223372036854775807) :
    CW P Y (I.f 28) [.agg cs, .int .i64 by'] none h (fun q => ∃ h', q = .ret (.bool true) none h') := by
  refine CW_ic H (Nat.le_of_ble_eq_true rfl) ?_
  have hp0 := hp
  obtain ⟨ia, ic, sa, sc, rfl, hI, hS⟩ := hp
  have wI := hI.wid
  have wS := hS.wid
  unfold c28
  have g1 := Grow.new h (newBlk [.int .i64 p.fr, .int .i64 p.to, .slice ia p.items.length ic, .slice sa p.steps.length sc] (I.t 177))
  have o1 := Own.of_new h [.int .i64 p.fr, .int .i64 p.to, .slice ia p.items.length ic, .slice sa p.steps.length sc] (I.t 177)
  generalize hh1 : h.new (newBlk [.int .i64 p.fr, .int .i64 p.to, .slice ia p.items.length ic, .slice sa p.steps.length sc] (I.t 177)) = h1 at g1 o1
  have ld4 : ∀ {h' : Hp} {b : Nat} {x y z u : V} {e : Nat}, Own h' b [x, y, z, u] e → loadL h' b 0 4 = some [x, y, z, u] := fun {h' b x y z u e} o => by
    have := o.loadL 0 4
    simpa using this
  have pl : ∀ z : PcO, (pcoV z).length = 4 := fun _ => rfl
  have l1 := ld4 o1
  simp only [zaa, zac, zai, zaj, zak, zal, zam, zaq, zas, zax, zay, zbi, zbk, List.map_cons, List.map_nil, zbl, zbm, Nat.reduceEqDiff, Option.map_some, Nat.reduceAdd, zbo, zby, zcc, List.all_cons, List.all_nil, Bool.and_self, Nat.zero_add, a_t, a_v, zdo, zdp, zeh, zei, zen, zes, if_true, if_false, List.all_cons, List.all_nil, hh1, l1]
  refine (lentPiece_ok HL LI LS T (hp0.grow g1) (by omega) (by omega)).mono fun r0 hr0 => ?_
  obtain ⟨ds, h2, g2, hL, hr0⟩ := hr0
  have hL0 := hL
  obtain ⟨v1, v2, rfl, L1, L2⟩ := hL0
  obtain ⟨b1, rfl, _⟩ := L1
  obtain ⟨b2, rfl, _⟩ := L2
  obtain ⟨h4, s4, g4, o4, n4⟩ := box4 h2 [.int .i64 p.fr, .int .i64 p.to, .slice (some (b1, 0)) p.items.length (.tl 0), .slice (some (b2, 0)) p.steps.length (.tl 0)] (I.t 177) [.int .i64 0, .int .i64 0, .slice none 0 (.ex 0), .slice none 0 (.ex 0)] rfl (by simp) rfl
  have l4 := ld4 o4
  have hL4 := hL.grow g4
  have G4 := (g1.trans g2).trans g4
  simp only [hr0, zaa, zac, zai, zaj, zak, zal, zam, zaq, zar, zas, zav, zax, zay, zbi, zbj, zbk, List.map_cons, List.map_nil, Nat.reduceEqDiff, Option.map_some, Nat.reduceAdd, zbo, Nat.zero_add, a_t, zdo, zdp, zeh, zei, zej, zek, zel, zem, zes, if_true, if_false, List.length_cons, List.length_nil, s4, l4]
  refine (move_ok HM H0 C1 C2 D1 D2 T (G.grow G4) (hL4.pc wI wS) (by omega) (by omega) by').mono fun r3 hr3 => ?_
  obtain ⟨x, h5, g5, M1, hr3⟩ := hr3
  obtain ⟨h6, s6, g6, o6, n6⟩ := box4 h5 (pcoV x) (I.t 177) [.int .i64 0, .int .i64 0, .slice none 0 (.ex 0), .slice none 0 (.ex 0)] rfl (by simp [pcoV]) rfl
  have l46 := ld4 (o4.grow (g5.trans g6))
  have G6 := (G4.trans g5).trans g6
  simp only [hr3, zaa, zac, zai, zaj, zak, zal, zam, zaq, zar, zas, zav, zax, zay, zbi, zbj, zbk, List.map_cons, List.map_nil, Nat.reduceEqDiff, Option.map_some, zbo, List.getElem?_cons_zero, List.getElem?_cons_succ, a_t, zdo, zdp, zeh, zei, zej, zek, zel, zem, zes, zew, zex, if_true, if_false, s6, l46, pl]
  refine (move_ok HM H0 C1 C2 D1 D2 T (G.grow G6) ((hL4.grow (g5.trans g6)).pc wI wS) (by omega) (by omega) by').mono fun r5 hr5 => ?_
  obtain ⟨y, h7, g7, M2, hr5⟩ := hr5
  obtain ⟨h8, s8, g8, o8, n8⟩ := box4 h7 (pcoV y) (I.t 177) [.int .i64 0, .int .i64 0, .slice none 0 (.ex 0), .slice none 0 (.ex 0)] rfl (by simp [pcoV]) rfl
  have G8 := (G6.trans g7).trans g8
  have o18 := o1.grow (((((g2.trans g4).trans g5).trans g6).trans g7).trans g8)
  have l18 := ld4 o18
  simp only [hr5, zaa, zac, zai, zaj, zak, zal, zam, zaq, zar, zas, zav, zax, zay, zbi, zbj, zbk, List.map_cons, List.map_nil, Nat.reduceEqDiff, Option.map_some, zbo, List.getElem?_cons_zero, List.getElem?_cons_succ, a_t, zdo, zdp, zeh, zei, zej, zek, zel, zem, zes, zew, zex, if_true, if_false, s8, l18, pl]
  refine (refMove_ok HR HP T (hp0.grow G8) (by omega) (by omega) by').mono fun r9 hr9 => ?_
  obtain ⟨es, h9, g9, hE9, hr9⟩ := hr9
  rw [rfP_eq r1 r2] at hE9
  rw [rfOK_eq r1 r2] at hr9
  have hE0 := hE9
  obtain ⟨ja, jc, ta, tc, rfl, _, _⟩ := hE0
  obtain ⟨h10, s10, g10, o10, n10⟩ := box4 h9 [.int .i64 (mvP by' p).fr, .int .i64 (mvP by' p).to, .slice ja (mvP by' p).items.length jc, .slice ta (mvP by' p).steps.length tc] (I.t 177) [.int .i64 0, .int .i64 0, .slice none 0 (.ex 0), .slice none 0 (.ex 0)] rfl (by simp) rfl
  have G10 := (G8.trans g9).trans g10
  simp only [hr9, zaa, zac, zai, zaj, zak, zal, zam, zaq, zar, zas, zav, zax, zay, zbi, zbj, zbk, List.map_cons, List.map_nil, Nat.reduceEqDiff, Nat.reduceAdd, zbo, List.getElem?_cons_zero, List.getElem?_cons_succ, Nat.zero_add, a_t, zdo, zdp, zej, zek, zel, zem, zes, zew, zex, if_true, if_false, List.length_cons, List.length_nil, s10]
  refine (KD (mvB by' p) h10 G10).mono fun r11 hr11 => ?_
  obtain ⟨h11, g11, hr11⟩ := hr11
  obtain ⟨w1, w2⟩ := mvP_wid (by' := by') wI wS
  obtain ⟨q1, q2⟩ := mvP_len by' p
  have i1 : p.items.length < 9223372036854775807 := by omega
  have s1' : p.steps.length < 9223372036854775807 := by omega
  have i30 : 2 * ((mvP by' p).items.length + 30) * 32 ≤ 281474976710656 := by omega
  have s30 : 2 * ((mvP by' p).steps.length + 30) * 24 ≤ 281474976710656 := by omega
  have e1 : ((if mvB by' p = true then (12 : Int) else 0) == (if (!mvB by' p) = true then 0 else 12)) = true := by cases mvB by' p <;> rfl
  have g6t := ((((g7.trans g8).trans g9).trans g10).trans g11)
  have l6 := ld4 (o6.grow g6t)
  have l10 := ld4 (o10.grow g11)
  have hE11 := hE9.grow (g10.trans g11)
  have M1' := M1.grow (g6.trans g6t)
  have M2' := M2.grow (((g8.trans g9).trans g10).trans g11)
  have ex : ∀ z : PcO, [V.int .i64 z.1, .int .i64 z.2.1, outV z.2.2.1, outV z.2.2.2] = pcoV z := fun _ => rfl
  have dq : decide (mvP by' p = mvP by' p) = true := decide_eq_true rfl
  unfold pcoV at l6
  simp only [hr11, zaj, zal, zam, zaq, zas, zav, zax, zbi, zbk, List.map_cons, List.map_nil, Nat.reduceEqDiff, Option.map_some, zcq, zcu, zdb, zdc, zdg, a_t, zdo, zdp, zdu, zeh, zei, zes, if_true, if_false, e1, l6, l10]
  rw [ex]
  refine (piece_ok HE EI ES (M1'.pc w1 w2) hE11 (by omega) (by omega)).mono fun r12 hr12 => ?_
  obtain ⟨h12, g12, hr12⟩ := hr12
  rw [dq] at hr12
  have l8 := ld4 (o8.grow ((((g9.trans g10).trans g11).trans g12)))
  have l10' := ld4 (o10.grow (g11.trans g12))
  unfold pcoV at l8
  simp only [hr12, zaj, zal, zam, zaq, zas, zav, zax, zbi, zbk, List.map_cons, List.map_nil, Nat.reduceEqDiff, Option.map_some, zdb, zdc, zdg, a_t, a_v, zdo, zdp, zdq, zdr, zeh, zei, zes, if_true, if_false, l8, l10']
  rw [ex]
  refine (piece_ok HE EI ES ((M2'.grow g12).pc w1 w2) (hE11.grow g12) (by omega) (by omega)).mono fun r13 hr13 => ?_
  obtain ⟨h13, g13, hr13⟩ := hr13
  rw [dq] at hr13
  have g413 := ((((((((g5.trans g6).trans g7).trans g8).trans g9).trans g10).trans g11).trans g12).trans g13)
  have l4' := ld4 (o4.grow g413)
  have o113 := o1.grow ((g2.trans g4).trans g413)
  have l1' := ld4 o113
  simp only [hr13, zaj, zal, zam, zaq, zas, zav, zax, zbi, zbk, List.map_cons, List.map_nil, Nat.reduceEqDiff, Option.map_some, zdb, zdc, zdg, a_t, a_v, zdo, zdp, zdq, zdr, zeh, zei, zes, if_true, if_false, l4', l1']
  refine (keptPiece_ok HK KI KS EI ES T (hL4.grow g413) (hp0.grow (G4.trans g413)) i1 s1').mono fun r14 hr14 => ?_
  obtain ⟨h14, g14, hr14⟩ := hr14
  have G14 := (G4.trans g413).trans g14
  have g1214 := (g12.trans g13).trans g14
  have l6' := ld4 (o6.grow (g6t.trans g1214))
  have l8' := ld4 (o8.grow (((g9.trans g10).trans g11).trans g1214))
  unfold pcoV at l6' l8'
  have f15 : fillV (reps 2 [V.int .i64 0, .int .i64 0, .slice none 0 (.ex 0), .slice none 0 (.ex 0)]) [(0, 4, .agg (pcoV x)), (4, 4, .agg (pcoV y))] = some (pcoV x ++ pcoV y) := rfl
  have g15 := Grow.new h14 (newBlk (pcoV x ++ pcoV y) (I.t 177))
  have o15 := Own.of_new h14 (pcoV x ++ pcoV y) (I.t 177)
  have n15 : (h14.new (newBlk (pcoV x ++ pcoV y) (I.t 177))).next = h14.next + 1 := rfl
  generalize hh15 : h14.new (newBlk (pcoV x ++ pcoV y) (I.t 177)) = h15 at g15 o15 n15
  have X1 := (M1'.grow g1214).grow g15
  have X2 := (M2'.grow g1214).grow g15
  have hB : Sl h15 4 (some (h14.next, 0)) ([x, y].map pcoV) := ⟨fun r hr => by
    obtain ⟨z, _, rfl⟩ := List.mem_map.1 hr; rfl, .inr ⟨h14.next, 0, rfl, o15.at⟩⟩
  have bx : ∀ b, x.2.2.1.1 = some b → b < h5.next := fun b hb => by have := M1.im; rw [hb] at this; exact this.below.2
  have by2 : ∀ b, x.2.2.2.1 = some b → b < h5.next := fun b hb => by have := M1.sm; rw [hb] at this; exact this.below.2
  have lx : ∀ b, x.2.2.1.1 = some b → h4.next ≤ b := fun b hb => by have := M1.im; rw [hb] at this; exact this.below.1
  have lx2 : ∀ b, x.2.2.2.1 = some b → h4.next ≤ b := fun b hb => by have := M1.sm; rw [hb] at this; exact this.below.1
  have ly : ∀ b, y.2.2.1.1 = some b → h6.next ≤ b := fun b hb => by have := M2.im; rw [hb] at this; exact this.below.1
  have ly2 : ∀ b, y.2.2.2.1 = some b → h6.next ≤ b := fun b hb => by have := M2.sm; rw [hb] at this; exact this.below.1
  have k6 : h5.next ≤ h6.next := g6.next
  have k5 : h4.next ≤ h5.next := g5.next
  have hO1 : Outs 4 (I.t 197) ([x, y].map (·.2.2.1)) h15.next h15 fun _ _ => False := outs2 (by omega) w1 w1 X1.il X2.il X1.im X2.im bx k6
  have hO2 : Outs 3 (I.t 163) ([x, y].map (·.2.2.2)) h15.next h15 fun _ _ => False := outs2 (by omega) w2 w2 X1.sl X2.sl X1.sm X2.sm by2 k6
  have hd : ∀ (i j b m m' : Nat), ([x, y].map (·.2.2.1))[i]? = some (some b, m) → ([x, y].map (·.2.2.2))[j]? ≠ some (some b, m') := fun i j b m m' hi hj => by
    match i, j, hi, hj with
    | 0, 0, hi, hj => exact X1.ap b b (by rw [show x.2.2.1 = (some b, m) from Option.some.inj hi]) (by rw [show x.2.2.2 = (some b, m') from Option.some.inj hj]) rfl
    | 1, 1, hi, hj => exact X2.ap b b (by rw [show y.2.2.1 = (some b, m) from Option.some.inj hi]) (by rw [show y.2.2.2 = (some b, m') from Option.some.inj hj]) rfl
    | 0, 1, hi, hj =>
      have e1 := bx b (by rw [show x.2.2.1 = (some b, m) from Option.some.inj hi])
      have e2 := ly2 b (by rw [show y.2.2.2 = (some b, m') from Option.some.inj hj])
      omega
    | 1, 0, hi, hj =>
      have e1 := by2 b (by rw [show x.2.2.2 = (some b, m') from Option.some.inj hj])
      have e2 := ly b (by rw [show y.2.2.1 = (some b, m) from Option.some.inj hi])
      omega
    | n + 2, _, hi, _ => cases hi
    | 0, n + 2, _, hj => cases hj
    | 1, n + 2, _, hj => cases hj
  have hN2 : 2 * 2 * 24 ≤ 281474976710656 := Nat.le_of_ble_eq_true rfl
  have hl2 : 2 = ([x, y] : List PcO).length := rfl
  have hz1 : ∀ z ∈ [x, y], 2 * (z.2.2.1.2 + 30) * 32 ≤ 281474976710656 := fun z hz => by
    rcases List.mem_cons.1 hz with rfl | hz
    · rw [X1.il]; exact i30
    · rcases List.mem_cons.1 hz with rfl | hz
      · rw [X2.il]; exact i30
      · cases hz
  have hz2 : ∀ z ∈ [x, y], 2 * (z.2.2.2.2 + 30) * 24 ≤ 281474976710656 := fun z hz => by
    rcases List.mem_cons.1 hz with rfl | hz
    · rw [X1.sl]; exact s30
    · rcases List.mem_cons.1 hz with rfl | hz
      · rw [X2.sl]; exact s30
      · cases hz
  have hP := pieces_ok HA AI AS T Ta Tb (c := .ex 2) hB hO1 hO2 hd hl2 hN2 hz1 hz2
  simp only [hr14, zaj, zal, zam, zaq, zav, zax, zbi, zbk, List.map_cons, List.map_nil, Nat.reduceEqDiff, Option.map_some, zdb, zdc, zdg, Nat.zero_mul, a_t, a_v, zdo, zdp, zdq, zdr, zeh, zei, zfh, if_true, if_false, l6', l8']
  rw [ex, ex]
  simp only [zaj, zal, zam, zaq, zas, zbi, zbk, List.map_cons, List.map_nil, Nat.reduceEqDiff, zdb, zdc, zdg, a_t, zes, if_true, if_false, f15, hh15]
  refine hP.mono fun r16 hr16 => ?_
  obtain ⟨h16, hpast, hr16⟩ := hr16
  have k46 : h4.next ≤ h6.next := Nat.le_trans k5 k6
  have k415 : Grow h4 h15 := (g413.trans g14).trans g15
  have g416 : Grow h4 h16 := by
    refine ⟨Nat.le_trans k415.next hpast.next, fun c hc => ?_⟩
    rw [hpast.get c (Nat.lt_of_lt_of_le hc k415.next) fun i m hi => ?_, k415.get c hc]
    match i, hi with
    | 0, hi => exact absurd (lx c (by rw [show x.2.2.1 = (some c, m) from Option.some.inj hi])) (Nat.not_le.2 hc)
    | 1, hi => exact absurd (Nat.le_trans k46 (ly c (by rw [show y.2.2.1 = (some c, m) from Option.some.inj hi]))) (Nat.not_le.2 hc)
    | 2, hi => exact absurd (lx2 c (by rw [show x.2.2.2 = (some c, m) from Option.some.inj hi])) (Nat.not_le.2 hc)
    | 3, hi => exact absurd (Nat.le_trans k46 (ly2 c (by rw [show y.2.2.2 = (some c, m) from Option.some.inj hi]))) (Nat.not_le.2 hc)
    | n + 4, hi => cases hi
  have l4'' := ld4 (o4.grow g416)
  have l1'' := ld4 (o1.grow ((g2.trans g4).trans g416))
  simp only [hr16, zaj, zal, zam, zaq, zas, zav, zax, zbi, zbk, List.map_cons, List.map_nil, Nat.reduceEqDiff, Option.map_some, zdb, zdc, zdg, a_t, a_v, zdo, zdp, zdq, zdr, zeh, zei, zes, if_true, if_false, l4'', l1'']
  refine (keptPiece_ok HK KI KS EI ES T (hL4.grow g416) (hp0.grow (G4.trans g416)) i1 s1').mono fun r17 hr17 => ?_
  obtain ⟨h17, g17, hr17⟩ := hr17
  simp only [hr17, zaj, zal, zam, zaq, zas, zav, zax, zbi, zbk, List.map_nil, Nat.reduceEqDiff, zdb, zdc, zdg, a_t, a_v, zdp, zdq, zdr, zes, if_true, if_false]
  refine (A h17 ((G4.trans g416).trans g17)).mono fun r18 hr18 => ?_
  obtain ⟨h18, g18, hr18⟩ := hr18
  simp only [hr18, zah, zai, zaj, zak, zal, zam, zaq, zav, zax, zay, zbi, zbk, Nat.reduceEqDiff, r_1, a_t, a_v, zdp, zdq, zdr, if_true, if_false]
  exact ⟨h18, rfl⟩
end Go.Vm
