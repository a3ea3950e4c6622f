/- What the law BackmapChains comes to. -/
import Derived.Test.YthebkalnpmkkpaaGreatDoorWpL7
import Derived.Test.YthebkalnpmkkpaaGreatDoorWpL4
set_option linter.unusedVariables false
set_option linter.unusedSimpArgs false
namespace Go.Vm
open Ch
variable {P : Program} {Y : Fns} {I : Ids}
theorem RoL.cl {lo hi : Nat} {h : Hp} {v : V} {vs : List V} (s : RoL lo hi h v vs) (hh : hi ≤ h.next) : ∃ a c, v = .slice a vs.length c ∧ Cl h a vs := by
  obtain ⟨a, c, rfl, k⟩ := s
  refine ⟨a, c, rfl, ⟨fun r hr => ?_, ?_⟩⟩
  · obtain ⟨x, _, rfl⟩ := List.mem_map.1 hr; rfl
  · rcases k with ⟨rfl, rfl⟩ | ⟨b, x, rfl, k2, k3, k4, k5⟩
    · exact .inl rfl
    · refine .inr ⟨b, 0, rfl, ?_⟩
      rw [ones_flat]
      exact ⟨⟨x, k4, by rw [k5]; omega, by rw [k5, List.drop_zero, List.take_length]⟩, by omega⟩
/-- A list of one's own that was handed out. -/
structure Mine1 (n : Nat) (h : Hp) (a : Option Nat) (l : List Nat) (e : Nat) : Prop where
  none : a = none → l = []
  is : ∀ b, a = some b → n ≤ b ∧ b < h.next ∧ h.get b = some (ambB (fv l) e)
theorem Mine1.grow {n e : Nat} {h h' : Hp} {a : Option Nat} {l : List Nat} (s : Mine1 n h a l e) (g : Grow h h') : Mine1 n h' a l e :=
  ⟨s.none, fun b hb => by
    obtain ⟨h1, h2, h3⟩ := s.is b hb
    exact ⟨h1, Nat.lt_of_lt_of_le h2 g.next, (g.get b h2).trans h3⟩⟩
theorem Mine1.cl {n e : Nat} {h : Hp} {a : Option Nat} {l : List Nat} (s : Mine1 n h a l e) : Cl h (a.map fun b => (b, 0)) (fv l) := by
  refine ⟨fun r hr => ?_, ?_⟩
  · obtain ⟨x, _, rfl⟩ := List.mem_map.1 hr; rfl
  · cases a with
    | none => rw [s.none rfl]; exact .inl rfl
    | some b =>
      obtain ⟨_, h2, h3⟩ := s.is b rfl
      refine .inr ⟨b, 0, rfl, ?_⟩
      rw [ones_flat]
      exact at_amb (m := []) (by rw [List.append_nil]; exact h3) h2
theorem eq_nats (l : List Nat) : ∀ v ∈ fv l, eqK 1 v v = some true := fun v hv => by
  obtain ⟨x, _, rfl⟩ := List.mem_map.1 hv
  simp [eqK]
/-- Two lists of one's own, made one behind the other. -/
theorem outs1 {e n1 m1 n2 : Nat} {h : Hp} {a b : Option Nat} {l m : List Nat} (sa : Mine1 n1 h a l e) (sb : Mine1 n2 h b m e) (ha : ∀ x, a = some x → x < m1) (h12 : m1 ≤ n2) : Outs 1 e [(a, l.length), (b, m.length)] h.next h fun _ _ => False := by
  refine ⟨fun i j x c c' hi hj => ?_, fun i c hi => ?_, fun i x c hi => ?_⟩
  · match i, j, hi, hj with
    | 0, 0, _, _ => rfl
    | 1, 1, _, _ => rfl
    | 0, 1, hi, hj =>
      have e1 : (a, l.length) = (some x, c) := Option.some.inj hi
      have e2 : (b, m.length) = (some x, c') := Option.some.inj hj
      have k1 := ha x (Prod.mk.inj e1).1
      have k2 := (sb.is x (Prod.mk.inj e2).1).1
      omega
    | 1, 0, hi, hj =>
      have e1 : (b, m.length) = (some x, c) := Option.some.inj hi
      have e2 : (a, l.length) = (some x, c') := Option.some.inj hj
      have k1 := ha x (Prod.mk.inj e2).1
      have k2 := (sb.is x (Prod.mk.inj e1).1).1
      omega
    | n + 2, _, hi, _ => cases hi
    | 0, n + 2, _, hj => cases hj
    | 1, n + 2, _, hj => cases hj
  · match i, hi with
    | 0, hi =>
      have e1 : (a, l.length) = (none, c) := Option.some.inj hi
      have := sa.none (Prod.mk.inj e1).1
      have h2 := (Prod.mk.inj e1).2
      rw [← h2, this]; rfl
    | 1, hi =>
      have e1 : (b, m.length) = (none, c) := Option.some.inj hi
      have := sb.none (Prod.mk.inj e1).1
      have h2 := (Prod.mk.inj e1).2
      rw [← h2, this]; rfl
    | n + 2, hi => cases hi
  · match i, hi with
    | 0, hi =>
      have e1 : (a, l.length) = (some x, c) := Option.some.inj hi
      obtain ⟨_, h2, h3⟩ := sa.is x (Prod.mk.inj e1).1
      have hc := (Prod.mk.inj e1).2
      exact ⟨h2, false, _, ⟨h3, h2⟩, by rw [fv_len, ← hc, Nat.mul_one], fun _ _ hF => hF.elim⟩
    | 1, hi =>
      have e1 : (b, m.length) = (some x, c) := Option.some.inj hi
      obtain ⟨_, h2, h3⟩ := sb.is x (Prod.mk.inj e1).1
      have hc := (Prod.mk.inj e1).2
      exact ⟨h2, false, _, ⟨h3, h2⟩, by rw [fv_len, ← hc, Nat.mul_one], fun _ _ hF => hF.elim⟩
    | n + 2, hi => cases hi
theorem own4 {h : Hp} {b : Nat} {x y z u : V} {e : Nat} (o : Own h b [x, y, z, u] e) : loadL h b 0 4 = some [x, y, z, u] := by
  have := o.loadL 0 4
  simpa using this
theorem into4 (h : Hp) (d : List V) (e : Nat) (z : List V) (hz : z.length = d.length) (hd : d ≠ []) (hc : d.all V.isCell = true) : ∃ h', storeL (h.new (newBlk z e)) h.next 0 d = some h' ∧ Grow h h' ∧ Own h' h.next d e ∧ h'.next = h.next + 1 := by
  have o := Own.of_new h z e
  have s := o.storeL 0 d hd (by omega) hc
  rw [show splice z 0 d = d by unfold splice; simp [hz]] at s
  exact ⟨_, s, (Grow.new h (newBlk z e)).put (Nat.le_refl _) _, o.put d, rfl⟩
set_option maxHeartbeats 2000000 in
theorem chains_ok (H0 : FnIs P Y (I.f 19) 64 [.tmp 6] (c19 I)) (H : FnIs P Y (I.f 138) 125 [.tmp 6, .tmp 7] (c138 I)) (Hk : FnIs P Y (I.f 334) 9 [.tmp 2] (c334 I)) (Hi : FnIs P Y (I.f 372) 19 [.tmp 4] (c372 I)) (Hx : FnIs P Y (I.f 373) 31 [.tmp 4] (c373 I))
    (Hn : FnIs P Y (I.f 142) 20 [.tmp 2, .tmp 3] (c142 I)) (Hc : FnIs P Y (I.f 324) 69 [.tmp 2] (c324 I)) (Hr : FnIs P Y (I.f 503) 28 [.tmp 4] (c503 I)) (H1 : FnIs P Y (I.f 650) 17 [.tmp 3] (c650 I)) (H2 : FnIs P Y (I.f 363) 9 [.tmp 4] (c363 I)) (H3 : FnIs P Y (I.f 527) 19 [.tmp 4] (c527 I))
    (N0 : FnIs P Y (I.f 502) 13 [.tmp 2] (c502 I)) (N1 : FnIs P Y (I.f 649) 26 [.tmp 4] (c649 I)) (N2 : FnIs P Y (I.f 764) 9 [.tmp 4] (c764 I)) (N3 : FnIs P Y (I.f 696) 19 [.tmp 4] (c696 I))
    (R0 : FnIs P Y (I.f 139) 143 [.tmp 6, .tmp 7] (c139 I)) (R1 : FnIs P Y (I.f 374) 108 [.tmp 2, .tmp 3] (c374 I)) (R2 : FnIs P Y (I.f 531) 39 [.tmp 2] (c531 I)) (R3 : FnIs P Y (I.f 375) 20 [.tmp 2, .tmp 3] (c375 I))
    (L0 : FnIs P Y (I.f 65) 15 [.cell 2 (I.t 33)] (c65 I)) (L1 : FnIs P Y (I.f 260) 14 [.tmp 2] (c260 I)) (L2 : FnIs P Y (I.f 108) 14 [.tmp 2] (c108 I)) (L3 : FnIs P Y (I.f 261) 36 [.tmp 2] (c261 I))
    (K0 : FnIs P Y (I.f 70) 31 [.tmp 4] (c70 I)) (K1 : FnIs P Y (I.f 273) 20 [.tmp 4] (c273 I)) (K2 : FnIs P Y (I.f 251) 26 [.tmp 4] (c251 I)) (K3 : FnIs P Y (I.f 274) 55 [.tmp 4] (c274 I)) (K4 : FnIs P Y (I.f 111) 20 [.tmp 4] (c111 I)) (K5 : FnIs P Y (I.f 118) 26 [.tmp 4] (c118 I))
    (A0 : FnIs P Y (I.f 140) 125 [.tmp 2] (c140 I))
    (T3 : TyIs P (I.t 3) 1 8 [.int .i64 0]) (T9 : TyIs P (I.t 9) 1 16 [.str []]) (T69 : TyIs P (I.t 69) 1 24 [.slice none 0 (.ex 0)]) (T101 : TyIs P (I.t 101) 2 32 [.int .i64 0, nilS]) (ag : isAggT P (I.t 33) = true) (sz : sizeT P (I.t 33) = 4)
    {h : Hp} (A : Yes P Y (I.f 124) h) (G : Glob I h) {cs : List V} {g : Gram} (hg : GramC h cs g) (b1 : 2 * (g.terms.length + 1) * 16 ≤ 281474976710656) (b2 : 2 * (g.nonterms.length + 1) * 16 ≤ 281474976710656) (b3 : 2 * (g.rules.length + 1) * 32 ≤ 281474976710656) (b4 : ∀ r ∈ g.rules, 2 * (r.right.length + 1) * 8 ≤ 281474976710656) (fr to : Int) :
    CW P Y (I.f 19) [.agg cs, .int .i64 fr, .int .i64 to] none h (fun q => ∃ h', q = .ret (.bool true) none h') := by
  refine CW_ic H0 (Nat.le_of_ble_eq_true rfl) ?_
  have hg0 := hg
  have hrr : ∀ r ∈ g.rules, r.right.length ≤ 9223372036854775807 := fun r hr => by have := b4 r hr; omega
  have hrr' : ∀ r ∈ g.rules, r.right.length < 9223372036854775807 := fun r hr => by have := b4 r hr; omega
  obtain ⟨ta, tc, na, nc, ra, rc, rfl, ht, hn, hR⟩ := hg
  unfold c19
  have g1 := (Grow.new h (newBlk [.slice ta g.terms.length tc, .slice na g.nonterms.length nc, .int .i64 g.axi, .slice ra g.rules.length rc] (I.t 33)))
  have o1 := Own.of_new h [.slice ta g.terms.length tc, .slice na g.nonterms.length nc, .int .i64 g.axi, .slice ra g.rules.length rc] (I.t 33)
  generalize hh1 : h.new (newBlk [.slice ta g.terms.length tc, .slice na g.nonterms.length nc, .int .i64 g.axi, .slice ra g.rules.length rc] (I.t 33)) = h1 at g1 o1
  have l1 := own4 o1
  simp only [zaa, zac, zai, zaj, zak, zal, zam, zaq, zas, zax, zay, zbi, zbk, List.map_cons, List.map_nil, zbl, zbm, Nat.reduceEqDiff, Option.map_some, Nat.reduceAdd, zbn, zbo, zby, zcc, List.all_cons, List.all_nil, Bool.and_self, Nat.zero_add, a_t, a_v, zdo, zdp, zeh, zei, zen, zes, if_true, if_false, hh1, l1]
  refine (lentGram_ok L0 L1 L2 L3 T3 T9 T101 ag sz (hg0.grow g1) b1 b2 b3 b4).mono fun r2 hr2 => ?_
  obtain ⟨ds, h2, g2, hL, hr2⟩ := hr2
  have hL0 := hL
  obtain ⟨v1, v2, v3, rfl, M1, M2, M3⟩ := hL0
  obtain ⟨x1, rfl, _⟩ := M1
  obtain ⟨x2, rfl, _⟩ := M2
  obtain ⟨x3, _, rfl, _⟩ := M3
  obtain ⟨h4, s4, g4, o4, n4⟩ := into4 h2 [.slice (some (x1, 0)) (g.terms.map V.str).length (.tl 0), .slice (some (x2, 0)) (g.nonterms.map V.str).length (.tl 0), .int .i64 g.axi, .slice (some (x3, 0)) g.rules.length (.tl 0)] (I.t 33) [.slice none 0 (.ex 0), .slice none 0 (.ex 0), .int .i64 0, .slice none 0 (.ex 0)] rfl (by simp) rfl
  have l4 := own4 o4
  have hL4 := hL.grow g4
  have G4 := (g1.trans g2).trans g4
  simp only [hr2, zaa, zac, zai, zaj, zak, zal, zam, zaq, zar, zas, zav, zax, zay, zbi, zbj, zbk, List.map_cons, List.map_nil, Nat.reduceEqDiff, Option.map_some, Nat.reduceAdd, zbo, Nat.zero_add, a_t, zdo, zdp, zeh, zei, zej, zek, zel, zem, zes, if_true, if_false, List.length_cons, List.length_nil, s4, l4]
  refine (chain_ok H Hk Hi Hx T3 Hn Hc Hr H1 H2 H3 N0 N1 N2 N3 (G.grow G4) hL4.gram (by omega) hrr fr to).mono fun r5 hr5 => ?_
  obtain ⟨v, ok, h5, g5, I5, X5, hr5⟩ := hr5
  have l45 := own4 (o4.grow g5)
  have G5 := G4.trans g5
  simp only [hr5, zaa, zac, zai, zaj, zak, zal, zam, zaq, zas, zav, zax, zay, zbi, zbk, List.map_cons, List.map_nil, Nat.reduceEqDiff, Option.map_some, List.getElem?_cons_zero, List.getElem?_cons_succ, a_t, zdo, zdp, zeh, zei, zes, zew, zex, if_true, if_false, l45]
  refine (chain_ok H Hk Hi Hx T3 Hn Hc Hr H1 H2 H3 N0 N1 N2 N3 (G.grow G5) (hL4.grow g5).gram (by omega) hrr fr to).mono fun r6 hr6 => ?_
  obtain ⟨w, ok6, h6, g6, I6, X6, hr6⟩ := hr6
  have G6 := G5.trans g6
  have o16 := o1.grow (((g2.trans g4).trans g5).trans g6)
  have l16 := own4 o16
  simp only [hr6, zaa, zac, zai, zaj, zak, zal, zam, zaq, zas, zav, zax, zay, zbi, zbk, List.map_cons, List.map_nil, Nat.reduceEqDiff, Option.map_some, List.getElem?_cons_zero, List.getElem?_cons_succ, a_t, zdo, zdp, zeh, zei, zes, zew, zex, if_true, if_false, l16]
  refine (refChain_ok R0 R1 R2 R3 T3 T69 (hg0.grow G6) (by omega) (by omega) (by omega) hrr fr to).mono fun r7 hr7 => ?_
  obtain ⟨z, ok7, h7, g7, I7, hr7⟩ := hr7
  have G7 := G6.trans g7
  -- the answers are the same
  have q6 : ok6 = ok := by rw [Bool.eq_iff_iff, I6.iff, I5.iff]
  have q7 : ok7 = ok := by
    rw [Bool.eq_iff_iff, I7.iff, I5.iff]
    refine and_congr_right fun _ => exists_congr fun i => exists_congr fun j => and_congr_right fun _ => and_congr_right fun _ => and_congr_right fun _ => and_congr_right fun _ => ?_
    exact ⟨fun ⟨l, hl⟩ => hl.path, fun p => Ch.Path.chn p⟩
  subst q6
  obtain rfl : ok6 = ok7 := q7.symm
  obtain ⟨a, l, rfl, y1, y2, y3, y4, y5⟩ := X5.is
  obtain ⟨b, m, rfl, z1, z2, z3, z4, z5⟩ := X6.is
  obtain ⟨lo, k, hk, t4, t5⟩ := I7.is
  have same : m = l ∧ k = l := by
    cases hok : ok6 with
    | false => rw [y4 hok, z4 hok, t4 hok]; exact ⟨rfl, rfl⟩
    | true =>
      obtain ⟨i, j, e1, e2, p1⟩ := y5 hok
      obtain ⟨i2, j2, e3, e4, p2⟩ := z5 hok
      obtain ⟨i3, j3, e5, e6, p3⟩ := t5 hok
      obtain rfl : i2 = i := by omega
      obtain rfl : j2 = j := by omega
      obtain rfl : i3 = i2 := by omega
      obtain rfl : j3 = j2 := by omega
      exact ⟨p2.eq p1, p3.eq p1⟩
  obtain ⟨rfl, rfl⟩ := same
  have S5 : Mine1 h4.next h5 a k (I.t 3) := ⟨y1, y2⟩
  have S6 : Mine1 h5.next h6 b k (I.t 3) := ⟨z1, z2⟩
  have S57 := (S5.grow g6).grow g7
  have S67 := S6.grow g7
  obtain ⟨ra7, rc7, rfl, C7⟩ := hk.cl (Nat.le_refl _)
  have hkl : k.length ≤ 60 := y3
  have K5' : FnIs P Y (I.f 118) 26 [.tmp 4] (gE1 1) := K5
  have ek : (ok6 == ok6) = true := by simp
  simp only [hr7, zaa, zac, zai, zaj, zak, zal, zam, zaq, zas, zav, zax, zay, zbi, zbk, List.map_cons, List.map_nil, Nat.reduceEqDiff, Option.map_some, zcr, zcu, List.getElem?_cons_zero, List.getElem?_cons_succ, zdb, zdc, zdg, a_t, zdo, zdp, zdu, zes, zew, zex, if_true, if_false, ek, fv_len]
  refine (gE1_same K5' S57.cl C7 (eq_nats k) (fv_len k).symm (fv_len k).symm (by omega)).mono fun r8 hr8 => ?_
  simp only [hr8, zaj, zal, zam, zaq, zas, zav, zax, zbi, zbk, List.map_cons, List.map_nil, Nat.reduceEqDiff, zdb, zdc, zdg, a_t, a_v, zdp, zdq, zdr, zes, if_true, if_false]
  refine (gE1_same K5' S67.cl C7 (eq_nats k) (fv_len k).symm (fv_len k).symm (by omega)).mono fun r9 hr9 => ?_
  have g47 := (g5.trans g6).trans g7
  have l47 := own4 (o4.grow g47)
  have l17 := own4 (o16.grow g7)
  simp only [hr9, zaj, zal, zam, zaq, zas, zav, zax, zbi, zbk, List.map_cons, List.map_nil, Nat.reduceEqDiff, Option.map_some, zdb, zdc, zdg, a_t, a_v, zdo, zdp, zdq, zdr, zeh, zei, zes, if_true, if_false, l47, l17]
  refine (keptGram_ok K0 K1 K2 K3 K4 K5 (hL4.grow g47) (hg0.grow G7) (by omega) (by omega) (by omega) hrr').mono fun r10 hr10 => ?_
  obtain ⟨h10, g10, hr10⟩ := hr10
  have G10 := G7.trans g10
  have f11 : fillV (reps 2 [V.slice none 0 (.ex 0)]) [(0, 1, .slice (a.map fun b => (b, 0)) k.length (.ex k.length)), (1, 1, .slice (b.map fun b => (b, 0)) k.length (.ex k.length))] = some [.slice (a.map fun b => (b, 0)) k.length (.ex k.length), .slice (b.map fun b => (b, 0)) k.length (.ex k.length)] := rfl
  have g11 := Grow.new h10 (newBlk [V.slice (a.map fun b => (b, 0)) k.length (.ex k.length), .slice (b.map fun b => (b, 0)) k.length (.ex k.length)] (I.t 69))
  have o11 := Own.of_new h10 [V.slice (a.map fun b => (b, 0)) k.length (.ex k.length), .slice (b.map fun b => (b, 0)) k.length (.ex k.length)] (I.t 69)
  generalize hh11 : h10.new (newBlk [V.slice (a.map fun b => (b, 0)) k.length (.ex k.length), .slice (b.map fun b => (b, 0)) k.length (.ex k.length)] (I.t 69)) = h11 at g11 o11
  have S511 := (S57.grow g10).grow g11
  have S611 := (S67.grow g10).grow g11
  have low5 : ∀ x, a = some x → x < h5.next := fun x hx => (S5.is x hx).2.1
  have low6 : ∀ x, b = some x → x < h6.next := fun x hx => (S6.is x hx).2.1
  have N610 : h6.next ≤ h10.next := (g7.trans g10).next
  have N510 : h5.next ≤ h10.next := ((g6.trans g7).trans g10).next
  have hA : AllC h11 (some (h10.next, 0)) [(a, k.length), (b, k.length)] := by
    refine ⟨⟨fun r hr => ?_, .inr ⟨h10.next, 0, rfl, o11.at⟩⟩, fun b' o e i m' hi => ?_⟩
    · obtain ⟨x, _, rfl⟩ := List.mem_map.1 hr; rfl
    · cases e
      match i, hi with
      | 0, hi =>
        have e1 : (a, k.length) = (some h10.next, m') := Option.some.inj hi
        have := low5 _ (Prod.mk.inj e1).1
        omega
      | 1, hi =>
        have e1 : (b, k.length) = (some h10.next, m') := Option.some.inj hi
        have := low6 _ (Prod.mk.inj e1).1
        omega
      | n + 2, hi => cases hi
  have hO : Outs 1 (I.t 3) [(a, k.length), (b, k.length)] h11.next h11 fun _ _ => False := outs1 S511 S611 low5 (Nat.le_refl _)
  have RT : RowT P 1 (I.t 3) 8 [V.int .i64 0] [] := ⟨T3, rfl, fun _ => rfl, fun _ => rfl⟩
  simp only [hr10, zaj, zal, zam, zaq, zas, zav, zax, zbi, zbk, List.map_cons, List.map_nil, Nat.reduceEqDiff, zdb, zdc, zdg, Nat.mul_one, a_t, a_v, zdp, zdq, zdr, zes, zfh, if_true, if_false, f11, hh11]
  refine (apartInts_ok A0 RT T69 (c := .ex 2) hA hO rfl (Nat.le_of_ble_eq_true rfl) fun x hx => ?_).mono fun r12 hr12 => ?_
  · have : x.2 = k.length := by
      rcases List.mem_cons.1 hx with rfl | hx
      · rfl
      · rcases List.mem_cons.1 hx with rfl | hx
        · rfl
        · cases hx
    omega
  obtain ⟨h12, hp, hr12⟩ := hr12
  have G11 := G10.trans g11
  have G12 : Grow h h12 := by
    refine ⟨Nat.le_trans G11.next hp.next, fun c hc => ?_⟩
    rw [hp.get c (Nat.lt_of_lt_of_le hc G11.next) fun i m' hi => ?_, G11.get c hc]
    have N4 := G4.next
    have N5 := G5.next
    match i, hi with
    | 0, hi =>
      have e1 : (a, k.length) = (some c, m') := Option.some.inj hi
      have := (S5.is c (Prod.mk.inj e1).1).1
      omega
    | 1, hi =>
      have e1 : (b, k.length) = (some c, m') := Option.some.inj hi
      have := (S6.is c (Prod.mk.inj e1).1).1
      omega
    | n + 2, hi => cases hi
  simp only [hr12, zaj, zal, zam, zaq, zas, zav, zax, zbi, zbk, List.map_nil, Nat.reduceEqDiff, zdb, zdc, zdg, a_t, a_v, zdp, zdq, zdr, zes, if_true, if_false]
  refine (A h12 G12).mono fun r13 hr13 => ?_
  obtain ⟨h13, g13, hr13⟩ := hr13
  simp only [hr13, zah, zai, zaj, zak, zal, zam, zaq, zav, zax, zay, zbi, zbk, Nat.reduceEqDiff, r_1, a_t, a_v, zdp, zdq, zdr, if_true, if_false]
  exact ⟨h13, rfl⟩
end Go.Vm
