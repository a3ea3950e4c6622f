/- A document's slices parsed. -/
import Derived.Test.YtodpkcebihbghaaGreatDoorWpD3
set_option linter.unusedVariables false
set_option linter.unusedSimpArgs false
namespace Go.Vm
variable {P : Program} {Y : Fns} {I : Ids}
/-- While the chunks are gone through. -/
structure PInv (I : Ids) (h0 : Hp) (bd ed bt : Nat) (vall vcnt vundo vs : V) (laid : Nat) (L : Lp) (i : Nat) (h : Hp) : Prop where
  keep : ∀ b, b < h0.next → b ≠ bd → h.get b = h0.get b
  next : h0.next + 6 ≤ h.next
  dd : Own h bd [.ptr (some (bt, 0)), vall, .int .i64 ((laid + i * 32 : Nat) : Int), vcnt, vundo] ed
  p2 : Own h h0.next [.ptr (some (bd, 0))] (I.t 697)
  out : ∃ ov rows, Own h (h0.next + 1) [ov] (I.t 519) ∧ Lst (h0.next + 6) h ov rows 6 (I.t 528) ∧ rows.length = i * 6 ∧ rows.all V.isCell = true
  b1 : Own h (h0.next + 2) [vs] (I.t 69)
  b2 : Own h (h0.next + 3) [.int .i64 32] (I.t 3)
  df : h.get (h0.next + 4) = some (.deferred true)
  lp : h.get (h0.next + 5) = some (.loop L)
theorem parsed_ok (H : FnIs P Y (I.f 564) 42 [.tmp 4] (c564 I)) (HK : FnIs P Y (I.f 702) 9 [.tmp 4] (c702 I)) (HIt : FnIs P Y (I.f 794) 31 [] (c794 I)) (HCl : FnIs P Y (I.f 352) 8 [.tmp 2] (c352 I))
    (H0 : FnIs P Y (I.f 157) 81 [.cell 8 (I.t 177), .tmp 9] (c157 I)) (HC : FnIs P Y (I.f 363) 9 [.tmp 4] (c363 I)) (HX : FnIs P Y (I.f 527) 19 [.tmp 4] (c527 I)) (HF : FnIs P Y (I.f 385) 12 [.tmp 3] (c385 I)) (HN : FnIs P Y (I.f 175) 20 [.tmp 4] (c175 I))
    (HPi : FnIs P Y (I.f 179) 40 [.cell 2 (I.t 177), .tmp 3] (c179 I)) (C1 : FnIs P Y (I.f 392) 8 [.tmp 2] (c392 I)) (D1 : FnIs P Y (I.f 391) 9 [.tmp 2] (c391 I)) (H4 : FnIs P Y (I.f 405) 10 [.tmp 2] (c405 I)) (H1 : FnIs P Y (I.f 393) 8 [.tmp 2] (c393 I)) (H2 : FnIs P Y (I.f 358) 9 [.tmp 2] (c358 I)) (HSo : FnIs P Y (I.f 544) 14 [] (c544 I)) (HLe : FnIs P Y (I.f 511) 8 [.tmp 2] (c511 I)) (H6 : FnIs P Y (I.f 669) 25 [.tmp 2] (c669 I)) (HP : FnIs P Y (I.f 693) 148 [] (c693 I)) (HI : FnIs P Y (I.f 785) 53 [] (c785 I))
    (HS : FnIs P Y (I.f 176) 47 [.tmp 4] (c176 I)) (HL : FnIs P Y (I.f 404) 50 [.tmp 4] (c404 I)) (HR : FnIs P Y (I.f 406) 68 [.tmp 4] (c406 I)) (H5 : FnIs P Y (I.f 546) 44 [.tmp 4, .tmp 5] (c546 I)) (HT : FnIs P Y (I.f 103) 12 [.tmp 2] (c103 I))
    (HRel : FnIs P Y (I.f 104) 17 [.tmp 6] (c104 I)) (HA : FnIs P Y (I.f 339) 18 [.tmp 6] (c339 I)) (HH : FnIs P Y (I.f 227) 62 [.tmp 8] (c227 I)) (T3 : TyIs P (I.t 3) 1 8 [.int .i64 0]) (T1 : RowT P 1 (I.t 3) 8 [V.int .i64 0] [])
    (T : RowT P 4 (I.t 197) 32 [V.int .i64 0, .int .i64 0, .int .i64 0, .int .i64 0] [0, 0, 0]) (T528 : TyIs P (I.t 528) 6 104 [.slice none 0 (.ex 0), .int .i64 0, .int .i64 0, .slice none 0 (.ex 0), .slice none 0 (.ex 0), .nilIface]) (ag : isAggT P (I.t 177) = true) (sz : sizeT P (I.t 177) = 4)
    {h : Hp} {bd ed bt bn o M laid : Nat} {c : Cap} {vall vcnt vundo : V} (t : Tab h bt) (htb : bt ≠ bd) (od : Own h bd [.ptr (some (bt, 0)), vall, .int .i64 (laid : Int), vcnt, vundo] ed) (hI : Ints h (some (bn, o)) (List.replicate (M * 32) 0)) (hbn : bn < h.next) (hbd : bn ≠ bd) (hM : M * 32 ≤ 65536) (hlaid : laid ≤ 1099511627776) :
    CW P Y (I.f 564) [.ptr (some (bd, 0)), .slice (some (bn, o)) (M * 32) c] none h (fun q => ∃ ov rows h', (∀ b, b < h.next → b ≠ bd → h'.get b = h.get b) ∧ h.next ≤ h'.next ∧ Own h' bd [.ptr (some (bt, 0)), vall, .int .i64 ((laid + M * 32 : Nat) : Int), vcnt, vundo] ed ∧ Lst h.next h' ov rows 6 (I.t 528) ∧ rows.length = M * 6 ∧ rows.all V.isCell = true ∧ q = .ret ov none h') := by
  refine CW_icd H (Nat.le_of_ble_eq_true rfl) fun fn hres => ?_
  unfold c564
  have g1 := Grow.new h (newBlk [.ptr (some (bd, 0))] (I.t 697))
  have o1 := Own.of_new h [.ptr (some (bd, 0))] (I.t 697)
  have n1 : (h.new (newBlk [.ptr (some (bd, 0))] (I.t 697))).next = h.next + 1 := rfl
  generalize hh1 : h.new (newBlk [.ptr (some (bd, 0))] (I.t 697)) = h1 at g1 o1 n1
  have g2 := Grow.new h1 (newBlk [.slice none 0 (.ex 0)] (I.t 519))
  have o2 := Own.of_new h1 [.slice none 0 (.ex 0)] (I.t 519)
  have n2 : (h1.new (newBlk [.slice none 0 (.ex 0)] (I.t 519))).next = h1.next + 1 := rfl
  generalize hh2 : h1.new (newBlk [.slice none 0 (.ex 0)] (I.t 519)) = h2 at g2 o2 n2
  simp only [zaa, zac, zai, zaj, zak, zal, zam, zaq, zas, zax, zay, zbi, zbk, List.map_cons, List.map_nil, zbl, zbm, Nat.reduceEqDiff, Nat.reduceAdd, zbs, zcb, List.all_cons, List.all_nil, Bool.and_self, Nat.zero_add, a_t, a_v, zdp, zem, zen, zet, if_true, if_false, List.all_cons, List.all_nil, hh1, hh2]
  refine (mkChunk_ok HK (v := .slice (some (bn, o)) (M * 32) c) rfl rfl).mono fun q hq => ?_
  have g3 := Grow.new h2 (newBlk [.slice (some (bn, o)) (M * 32) c] (I.t 69))
  have o3 := Own.of_new h2 [.slice (some (bn, o)) (M * 32) c] (I.t 69)
  have n3 : (h2.new (newBlk [.slice (some (bn, o)) (M * 32) c] (I.t 69))).next = h2.next + 1 := rfl
  generalize hh3 : h2.new (newBlk [.slice (some (bn, o)) (M * 32) c] (I.t 69)) = h3 at g3 o3 n3 hq
  have g4 := Grow.new h3 (newBlk [.int .i64 32] (I.t 3))
  have o4 := Own.of_new h3 [.int .i64 32] (I.t 3)
  have n4 : (h3.new (newBlk [.int .i64 32] (I.t 3))).next = h3.next + 1 := rfl
  generalize hh4 : h3.new (newBlk [.int .i64 32] (I.t 3)) = h4 at g4 o4 n4 hq
  have g5 := Grow.new h4 (.deferred true)
  have k5 := get_new_same h4 (.deferred true)
  have n5 : (h4.new (.deferred true)).next = h4.next + 1 := rfl
  generalize hh5 : h4.new (.deferred true) = h5 at g5 k5 n5
  simp only [hq, zaf, zai, zaj, zak, zav, zay, zbi, s_rng]
  intro ca cb hca hcb
  rw [rs_none, hh5]
  simp only [zbk, Nat.reduceEqDiff, a_t, if_true, if_false]
  rw [rc_func]
  refine ⟨isSome_of HIt, ?_⟩
  have e1 : h1.next = h.next + 1 := n1
  have e2 : h2.next = h.next + 2 := by omega
  have e3 : h3.next = h.next + 3 := by omega
  have e4 : h4.next = h.next + 4 := by omega
  have e5 : h5.next = h.next + 5 := by omega
  simp only [e1, e2, e4, e5, List.map_cons, List.map_nil, Nat.add_assoc, Nat.reduceAdd]
  obtain ⟨F0, hF⟩ : ∃ F0 : Frm, F0 = st 10 (V.func (I.f 794) [] [V.ptr (some (h.next + 2, 0)), V.ptr (some (h.next + 3, 0))]) (st 9 (V.slice (some (bn, o)) (M * 32) c) (st 5 (V.ptr (some (h.next + 1, 0))) (st 4 (V.slice none 0 (Cap.ex 0)) (st 2 (V.ptr (some (h.next, 0))) (st 1 (V.slice (some (bn, o)) (M * 32) c) (st 0 (V.ptr (some (bd, 0))) Vm.T.nil)))))) := ⟨_, rfl⟩
  have q2 : gt F0 2 = .ptr (some (h.next, 0)) := by rw [hF]; simp only [zbk, Nat.reduceEqDiff, if_true, if_false]
  have q5 : gt F0 5 = .ptr (some (h.next + 1, 0)) := by rw [hF]; simp only [zbk, Nat.reduceEqDiff, if_true, if_false]
  rw [← hF]
  clear hF
  obtain ⟨L, hL⟩ : ∃ L : Lp, L = { state := .ready, pending := none, fn := I.f 564, F := F0, params := [Pos.of 11], assign := ca, body := cb, defers := h.next + 4 } := ⟨_, rfl⟩
  rw [← hL]
  have g6 := Grow.new h5 (.loop L)
  have k6 := get_new_same h5 (.loop L)
  have n6 : (h5.new (.loop L)).next = h5.next + 1 := rfl
  rw [e5] at k6
  rw [e4] at k5
  have i0 : PInv I h bd ed bt vall vcnt vundo (.slice (some (bn, o)) (M * 32) c) laid L 0 (h5.new (.loop L)) := by
    have o1' := ((((o1.grow g2).grow g3).grow g4).grow g5).grow g6
    have o2' := (((o2.grow g3).grow g4).grow g5).grow g6
    have o3' := ((o3.grow g4).grow g5).grow g6
    have o4' := (o4.grow g5).grow g6
    rw [e1] at o2'
    rw [e2] at o3'
    rw [e3] at o4'
    have gg := g1.trans (g2.trans (g3.trans (g4.trans (g5.trans g6))))
    exact ⟨fun b hb _ => gg.get b hb, by omega, by rw [Nat.zero_mul, Nat.add_zero]; exact od.grow gg, o1', ⟨_, [], o2', ⟨.inl ⟨rfl, rfl⟩⟩, by simp, rfl⟩, o3', o4', (g6.get _ (by omega)).trans k5, k6⟩
  generalize hh6 : h5.new (.loop L) = h6 at i0
  refine (chunkIt_ok (bn := bn) (o := o) (c := c) HIt (fun i h' => PInv I h bd ed bt vall vcnt vundo (.slice (some (bn, o)) (M * 32) c) laid L i h') i0 hM (fun i h' hi => ⟨?_, ?_⟩) (fun i h' hlt hi => ?_)).mono fun r hr => ?_
  · rw [hi.b1.load1]; rfl
  · rw [hi.b2.load1]; rfl
  · -- a round
    obtain ⟨ov, rows, p1, p2, p3, p4⟩ := hi.out
    have hlp := hi.lp
    have nx := hi.next
    rw [hL] at hlp
    have odl := od.low
    have obd := hi.dd
    have ob2 := hi.p2
    refine RW_ic hlp rfl hca hcb ?_
    dsimp only
    rw [setPs_one]
    simp only [zaa, zac, zaf, zaj, zak, zal, zam, zaq, zas, zax, zbi, zbk, List.map_cons, List.map_nil, Nat.reduceEqDiff, a_t, zdp, zet, if_true, if_false, true_and]
    refine ⟨_, hlp, rfl, ?_⟩
    dsimp only
    have k8 : ∀ b, b ≠ h.next + 5 → ∀ ob, (h'.put (h.next + 5) ob).get b = h'.get b := fun b hb ob => get_put_ne ob (Ne.symm hb)
    have n8 : ∀ ob, (h'.put (h.next + 5) ob).next = h'.next := fun ob => rfl
    have lp8 : ∀ ob, (h'.put (h.next + 5) ob).get (h.next + 5) = some ob := fun ob => get_put_same _ _ _
    generalize hob : Ob.loop { state := LoopState.busy, pending := none, fn := I.f 564, F := F0, params := [Pos.of 11], assign := ca, body := cb, defers := h.next + 4 } = lob
    have lp8 := lp8 lob
    have k8 := fun b hb => k8 b hb lob
    have n8 := n8 lob
    have P1 := p1.put_ne lob (b := h.next + 5) (by omega)
    have P2 := p2.put (c := h.next + 5) (by omega) lob
    have OBD := obd.put_ne lob (b := h.next + 5) (by omega)
    have OB2 := ob2.put_ne lob (b := h.next + 5) (by omega)
    generalize hh8 : h'.put (h.next + 5) lob = h8 at lp8 k8 n8 P1 P2 OBD OB2
    have kh8 : ∀ b, b < h.next → b ≠ bd → h8.get b = h.get b := fun b hb hne => (k8 b (by omega)).trans (hi.keep b hb hne)
    have t8 : Tab h8 bt := by
      obtain ⟨x1, ⟨a, c', x2⟩, bm, x3, x4, x5, x6, x7, x8, x9⟩ := t
      have hbm : bm ≠ bd := fun e => by
        rw [e, od.load1] at x7
        cases x7
      have r1 : ∀ o, load1 h8 bt o = load1 h bt o := fun o => by unfold load1; rw [kh8 bt x1 htb]
      have r2 : ∀ o, load1 h8 bm o = load1 h bm o := fun o => by unfold load1; rw [kh8 bm x3 hbm]
      exact ⟨by omega, ⟨a, c', (r1 1).trans x2⟩, bm, by omega, (r1 8).trans x4, (r2 0).trans x5, (r2 62).trans x6, (r2 64).trans x7, (r2 123).trans x8, (r2 184).trans x9⟩
    have hI8 : Ints h8 (some (bn, o + i * 32)) (List.replicate 32 0) := by
      have hs := Sl.sub hI (i * 32) (i * 32 + 32) (by omega) (by simp; omega)
      have hat : Ints h (some (bn, o + i * 32)) (List.replicate 32 0) := by
        have : (List.drop (i * 32) ((List.replicate (M * 32) (0 : Int)).map fun n => [iv n])).take (i * 32 + 32 - i * 32) = (List.replicate 32 (0 : Int)).map fun n => [iv n] := by
          rw [show i * 32 + 32 - i * 32 = 32 by omega]
          simp only [List.map_replicate, List.drop_replicate, List.take_replicate]
          rw [show min 32 (M * 32 - i * 32) = 32 by omega]
        rw [this, Nat.mul_one] at hs
        exact hs
      obtain ⟨w1, w2⟩ := hat
      refine ⟨w1, w2.imp id fun ⟨b, o', e, x⟩ => ⟨b, o', e, ?_⟩⟩
      cases e
      obtain ⟨⟨y, y1, y2⟩, y3⟩ := x
      exact ⟨⟨y, (kh8 bn hbn hbd).trans y1, y2⟩, by omega⟩
    have lp : load1 h8 h.next 0 = some (.ptr (some (bd, 0))) := by rw [OB2.load1]; rfl
    refine (clone_ints HCl T1 hI8 (n := 32) (by simp) (by omega) (by omega)).mono fun q hq => ?_
    obtain ⟨ba, ca', h9, g9, b9, b9', I9, hq⟩ := hq
    have n9 := g9.next
    have lp9 : load1 h9 h.next 0 = some (.ptr (some (bd, 0))) := (load1_grow g9 (by omega)).trans lp
    have OBD9 := OBD.grow g9
    have l9 : load1 h9 bd 0 = some (.ptr (some (bt, 0))) := by rw [OBD9.load1]; rfl
    simp only [hq, zaa, zac, zai, zaj, zak, zal, zam, zaq, zas, zav, zax, zay, zbi, zbk, List.map_cons, List.map_nil, Nat.reduceEqDiff, Nat.add_zero, a_t, a_v, zdo, zdp, zeb, zec, zef, zeg, zeo, zep, zet, if_true, if_false, zgm, zgn, q2, lp9, zgm, zgn, l9]
    refine (chunk_ok H0 HC HX HF HN HPi C1 D1 H4 H1 H2 HSo HLe H6 HP HI HS HL HR H5 HT HRel HA HH T3 T ag sz (t8.grow g9) I9 (by omega) b9').mono fun q hq => ?_
    obtain ⟨cs, h10, e1, e2, g10, hq⟩ := hq
    obtain ⟨c1, c2, c3, c4, rfl⟩ : ∃ c1 c2 c3 c4, cs = [c1, c2, c3, c4] := by
      match cs, e1 with
      | [a, b, c, d], _ => exact ⟨a, b, c, d, rfl⟩
    simp only [List.all_cons, List.all_nil, Bool.and_true, Bool.and_eq_true] at e2
    obtain ⟨z1, z2, z3, z4⟩ := e2
    have n10 := g10.next
    have g11 := Grow.new h10 (newBlk [.int .i64 0, .int .i64 0, .slice none 0 (.ex 0), .slice none 0 (.ex 0)] (I.t 177))
    have o11 := Own.of_new h10 [.int .i64 0, .int .i64 0, .slice none 0 (.ex 0), .slice none 0 (.ex 0)] (I.t 177)
    have n11 : (h10.new (newBlk [.int .i64 0, .int .i64 0, .slice none 0 (.ex 0), .slice none 0 (.ex 0)] (I.t 177))).next = h10.next + 1 := rfl
    generalize hh11 : h10.new (newBlk [.int .i64 0, .int .i64 0, .slice none 0 (.ex 0), .slice none 0 (.ex 0)] (I.t 177)) = h11 at g11 o11 n11
    have hs12 : storeL h11 h10.next 0 [c1, c2, c3, c4] = some (h11.put h10.next (newBlk [c1, c2, c3, c4] (I.t 177))) := o11.storeL 0 _ (by simp) (by simp) (by simp [z1, z2, z3, z4])
    have o12 := o11.put [c1, c2, c3, c4]
    have g12 : Grow h8 (h11.put h10.next (newBlk [c1, c2, c3, c4] (I.t 177))) := (g9.trans (g10.trans g11)).put (by omega) _
    have n12 : (h11.put h10.next (newBlk [c1, c2, c3, c4] (I.t 177))).next = h10.next + 1 := n11
    generalize hh12 : h11.put h10.next (newBlk [c1, c2, c3, c4] (I.t 177)) = h12 at hs12 o12 g12 n12
    have lp12 : load1 h12 h.next 0 = some (.ptr (some (bd, 0))) := (load1_grow g12 (by omega)).trans lp
    have OBD12 := OBD.grow g12
    have P112 := P1.grow g12
    have P212 := P2.grow g12
    have l12 : load1 h12 bd 2 = some (.int .i64 ((laid + i * 32 : Nat) : Int)) := by rw [OBD12.load1]; rfl
    have w12 : IntKind.i64.wrap (((laid + i * 32 : Nat) : Int) + ((32 : Nat) : Int)) = ((laid + (i + 1) * 32 : Nat) : Int) := by rw [wrap_i64 (by omega) (by omega)]; omega
    have hs13 : storeL h12 bd 2 [.int .i64 ((laid + (i + 1) * 32 : Nat) : Int)] = some (h12.put bd (newBlk [.ptr (some (bt, 0)), vall, .int .i64 ((laid + (i + 1) * 32 : Nat) : Int), vcnt, vundo] ed)) := OBD12.storeL 2 _ (by simp) (by simp) rfl
    have OBD13 := OBD12.put [.ptr (some (bt, 0)), vall, .int .i64 ((laid + (i + 1) * 32 : Nat) : Int), vcnt, vundo]
    have k13 : ∀ b, b ≠ bd → (h12.put bd (newBlk [.ptr (some (bt, 0)), vall, .int .i64 ((laid + (i + 1) * 32 : Nat) : Int), vcnt, vundo] ed)).get b = h12.get b := fun b hb => get_put_ne _ (Ne.symm hb)
    have n13 : (h12.put bd (newBlk [.ptr (some (bt, 0)), vall, .int .i64 ((laid + (i + 1) * 32 : Nat) : Int), vcnt, vundo] ed)).next = h12.next := rfl
    have P113 := P112.put_ne (newBlk [.ptr (some (bt, 0)), vall, .int .i64 ((laid + (i + 1) * 32 : Nat) : Int), vcnt, vundo] ed) (b := bd) (by omega)
    have P213 := P212.put (c := bd) (by omega) (newBlk [.ptr (some (bt, 0)), vall, .int .i64 ((laid + (i + 1) * 32 : Nat) : Int), vcnt, vundo] ed)
    have o13 := o12.put_ne (newBlk [.ptr (some (bt, 0)), vall, .int .i64 ((laid + (i + 1) * 32 : Nat) : Int), vcnt, vundo] ed) (b := bd) (by omega)
    generalize hh13 : h12.put bd (newBlk [.ptr (some (bt, 0)), vall, .int .i64 ((laid + (i + 1) * 32 : Nat) : Int), vcnt, vundo] ed) = h13 at hs13 OBD13 k13 n13 P113 P213 o13
    have l13 : load1 h13 (h.next + 1) 0 = some ov := by rw [P113.load1]; rfl
    have ld13 : loadL h13 h10.next 0 4 = some [c1, c2, c3, c4] := by rw [o13.loadL]; rfl
    have f1 : fillV [(.slice none 0 (.ex 0)), (.int .i64 0), (.int .i64 0), (.slice none 0 (.ex 0)), (.slice none 0 (.ex 0)), .nilIface] [(0, 1, .slice (some (ba, 0)) 32 ca'), (1, 4, .agg [c1, c2, c3, c4]), (5, 1, .nilIface)] = some [.slice (some (ba, 0)) 32 ca', c1, c2, c3, c4, .nilIface] := by
      simp [fillV, splice, zbt, zbo, zbv, zcc, zce, z1, z2, z3, z4]
    have f2 : fillV (reps 1 [(.slice none 0 (.ex 0)), (.int .i64 0), (.int .i64 0), (.slice none 0 (.ex 0)), (.slice none 0 (.ex 0)), .nilIface]) [(0, 6, .agg [.slice (some (ba, 0)) 32 ca', c1, c2, c3, c4, .nilIface])] = some [.slice (some (ba, 0)) 32 ca', c1, c2, c3, c4, .nilIface] := by
      simp [reps, fillV, splice, zbo, zcc, zce, z1, z2, z3, z4]
    have g14 := Grow.new h13 (newBlk [.slice (some (ba, 0)) 32 ca', c1, c2, c3, c4, .nilIface] (I.t 528))
    have o14 := Own.of_new h13 [.slice (some (ba, 0)) 32 ca', c1, c2, c3, c4, .nilIface] (I.t 528)
    have n14 : (h13.new (newBlk [.slice (some (ba, 0)) 32 ca', c1, c2, c3, c4, .nilIface] (I.t 528))).next = h13.next + 1 := rfl
    generalize hh14 : h13.new (newBlk [.slice (some (ba, 0)) 32 ca', c1, c2, c3, c4, .nilIface] (I.t 528)) = h14 at g14 o14 n14
    obtain ⟨h15, happ, m1, m2, m3, m4, m5⟩ := app_ok2 T528 (by omega) (P213.grow g14) (by omega) (src_own o14 rfl (by omega)) rfl (by omega) (by simp [zcc, zce, z1, z2, z3, z4]) (k := i) p3 (by omega) (by omega)
    have P115 : Own h15 (h.next + 1) [ov] (I.t 519) := (P113.grow g14).keep (by omega) m2
    have hs16 : storeL h15 (h.next + 1) 0 [.slice (some (h14.next, 0)) (i + 1) (.tl 0)] = some (h15.put (h.next + 1) (newBlk [.slice (some (h14.next, 0)) (i + 1) (.tl 0)] (I.t 519))) := P115.storeL 0 _ (by simp) (by simp) rfl
    have kfin : ∀ b, b < h.next + 6 → b ≠ bd → b ≠ h.next + 1 → (h15.put (h.next + 1) (newBlk [.slice (some (h14.next, 0)) (i + 1) (.tl 0)] (I.t 519))).get b = h8.get b := fun b hb1 hb2 hb3 => by
      rw [get_put_ne _ (Ne.symm hb3), m2.get b hb1, g14.get b (by omega), k13 b hb2, g12.get b (by omega)]
    have P116 := P115.put [.slice (some (h14.next, 0)) (i + 1) (.tl 0)]
    have m16 := m1.put (c := h.next + 1) (by omega) (newBlk [.slice (some (h14.next, 0)) (i + 1) (.tl 0)] (I.t 519))
    have OBD16 := ((OBD13.grow g14).keep (by omega) m2).put_ne (newBlk [.slice (some (h14.next, 0)) (i + 1) (.tl 0)] (I.t 519)) (b := h.next + 1) (by omega)
    have n16 : (h15.put (h.next + 1) (newBlk [.slice (some (h14.next, 0)) (i + 1) (.tl 0)] (I.t 519))).next = h15.next := rfl
    generalize hh16 : h15.put (h.next + 1) (newBlk [.slice (some (h14.next, 0)) (i + 1) (.tl 0)] (I.t 519)) = h16 at hs16 kfin P116 m16 OBD16 n16
    simp only [hq, zaa, zac, zai, zaj, zak, zal, zam, zaq, zar, zav, zax, zay, zbc, zbi, zbj, zbk, List.map_cons, List.map_nil, Nat.reduceEqDiff, Option.map_some, Nat.reduceAdd, zbo, zbp, zbt, zch, List.getElem?_cons_zero, List.getElem?_cons_succ, Nat.zero_add, Nat.zero_mul, a_t, zdo, zdp, zdt, zeb, zec, zef, zeg, zeh, zei, zej, zek, zel, zem, zeo, zep, zex, zey, zez, zfh, zfi, if_true, if_false, List.length_cons, List.length_nil, zgm, zgn, q2, q5, zgm, zgn, hh11, hs12, lp12, l12, w12, hs13, l13, ld13, f1, f2, hh14, happ, hs16]
    have lp16 : h16.get (h.next + 5) = some lob := (kfin _ (by omega) (by omega) (by omega)).trans lp8
    rw [← hob] at lp16
    refine ⟨rfl, _, lp16, ?_⟩
    dsimp only
    rw [← hL]
    have k17 : ∀ b, b ≠ h.next + 5 → (h16.put (h.next + 5) (.loop L)).get b = h16.get b := fun b hb => get_put_ne _ (Ne.symm hb)
    have kq : ∀ b, b < h.next + 5 → b ≠ bd → b ≠ h.next + 1 → (h16.put (h.next + 5) (.loop L)).get b = h'.get b := fun b h1 h2 h3 => (k17 b (by omega)).trans ((kfin b (by omega) h2 h3).trans (k8 b (by omega)))
    refine ⟨_, ⟨fun b hb hne => (k17 b (by omega)).trans ((kfin b (by omega) hne (by omega)).trans (kh8 b hb hne)), by rw [next_put]; omega, OBD16.put_ne _ (by omega), ⟨(kq _ (by omega) (by omega) (by omega)).trans hi.p2.is, by rw [next_put]; omega⟩, ⟨_, _, P116.put_ne _ (by omega), m16.put (by omega) _, ?_, ?_⟩, ⟨(kq _ (by omega) (by omega) (by omega)).trans hi.b1.is, by rw [next_put]; omega⟩, ⟨(kq _ (by omega) (by omega) (by omega)).trans hi.b2.is, by rw [next_put]; omega⟩, (kq _ (by omega) (by omega) (by omega)).trans hi.df, get_put_same _ _ _⟩, rfl⟩
    · rw [List.length_append, p3]
      show i * 6 + 6 = (i + 1) * 6
      omega
    · rw [List.all_append, p4]
      simp [zcc, zce, z1, z2, z3, z4]
  · obtain ⟨h7, hp, rfl⟩ := hr
    obtain ⟨ov, rows, p1, p2, p3, p4⟩ := hp.out
    have hlp := hp.lp
    have k8 : ∀ b, b ≠ h.next + 5 → ∀ ob, (h7.put (h.next + 5) ob).get b = h7.get b := fun b hb ob => get_put_ne ob (Ne.symm hb)
    rw [hL] at hlp
    refine rngEnd_ret hlp rfl rfl ?_
    have n8 : ∀ ob, (h7.put (h.next + 5) ob).next = h7.next := fun ob => rfl
    generalize hob : Ob.loop _ = ob
    have o8 : Own (h7.put (h.next + 5) ob) (h.next + 1) [ov] (I.t 519) := p1.put_ne ob (by omega)
    have l8 : load1 (h7.put (h.next + 5) ob) (h.next + 1) 0 = some ov := by rw [o8.load1]; rfl
    have d8 : (h7.put (h.next + 5) ob).get (h.next + 4) = some (.deferred true) := (k8 _ (by omega) ob).trans hp.df
    have dd8 := hp.dd.put_ne ob (b := h.next + 5) (by have := od.low; omega)
    have L8 : Lst (h.next + 6) (h7.put (h.next + 5) ob) ov rows 6 (I.t 528) := p2.put (by omega) ob
    have kp8 : ∀ b, b < h.next → b ≠ bd → (h7.put (h.next + 5) ob).get b = h.get b := fun b hb hne => (k8 b (by omega) ob).trans (hp.keep b hb hne)
    have nx8 := hp.next
    rw [← n8 ob] at nx8
    generalize hh8 : h7.put (h.next + 5) ob = h8 at o8 l8 d8 dd8 L8 kp8 nx8
    simp only [zaa, zac, zah, zai, zaj, zak, zal, zam, zaq, zax, zay, zbc, zbi, zbk, a_t, zdo, zdp, zef, zeg, if_true, q5, l8]
    refine (LW_mark d8).2 (LW_nil_ret.2 ?_)
    have hr : resultsV P (st 4 ov (st 41 ov F0)) (h8.put (h.next + 4) (.deferred false)) fn.results.toList = some [ov] := by
      rw [hres, r_tmp]
      simp only [resultsV, Option.map_some, zbk, Nat.reduceEqDiff, if_true]
    rw [hr]
    refine ⟨ov, rows, _, fun b hb hne => (get_put_ne _ (by omega)).trans (kp8 b hb hne), by rw [next_put]; omega, dd8.put_ne _ (by have := od.low; omega), ?_, p3, p4, rfl⟩
    rcases L8.is with ⟨x1, x2⟩ | ⟨b, k, x1, x2, x3, x4, x5⟩
    · exact ⟨.inl ⟨x1, x2⟩⟩
    · exact ⟨.inr ⟨b, k, x1, x2, (get_put_ne _ (by omega)).trans x3, by omega, x5⟩⟩
end Go.Vm
/- slices.Grow, Concat, Replace as a document's change calls them. -/
namespace Go.Vm
variable {P : Program} {Y : Fns} {I : Ids}
theorem v_rawcap {F : Frm} {h : Hp} {t n m : Nat} {T e : TypeId} {a : Option (Nat × Nat)} (hu : P.underlying T = some (.slice e)) (hx : gt F t = .slice a m (.ex n)) : iV P F h (.raw (.call ⟨(.builtin .cap), #[(.tmp t)], #[T]⟩)) = .val (.int .i64 n) h := by
  have ho : opr F (.tmp t) = .slice a m (.ex n) := hx
  show opV P F h (bareO (.call ⟨(.builtin .cap), #[(.tmp t)], #[T]⟩)) = _
  unfold opV
  have hk : kindO (bareO (.call ⟨(.builtin .cap), #[(.tmp t)], #[T]⟩)) = .pr := rfl
  rw [hk]
  have hp : pureV P F (bareO (.call ⟨(.builtin .cap), #[(.tmp t)], #[T]⟩)) = some (.int .i64 n) := by
    unfold pureV bareO
    simp [oprs, hu, ho]
  rw [hp]
theorem v_rawz {F : Frm} {h : Hp} {t u n : Nat} {T T2 : TypeId} {k : IntKind} (hu : P.underlying T = some (.slice T2)) (hk : P.underlying T2 = some (.int k)) (T3 : TyIs P T2 1 8 [.int .i64 0]) (hx : gt F t = .slice none 0 (.ex 0)) (hy : gt F u = .int .i64 (n : Int)) (hn : n ≠ 0) (hb : n ≤ 65536) :
    iV P F h (.raw (.call ⟨(.builtin .append), #[(.tmp t), (.tmp u)], #[T, T2]⟩)) = .val (.slice (some (h.next, 0)) n (.tl 0)) (h.new (ambB (List.replicate n (.int .i64 0)) T2)) := by
  have ho : opr F (.tmp t) = .slice none 0 (.ex 0) := hx
  have ho2 : opr F (.tmp u) = .int .i64 (n : Int) := hy
  have hr : ∀ n, reps n [V.int .i64 0] = List.replicate n (.int .i64 0) := fun n => by
    induction n with
    | zero => rfl
    | succ n ih => show [V.int .i64 0] ++ reps n [V.int .i64 0] = _; rw [ih]; rfl
  show opV P F h (bareO (.call ⟨(.builtin .append), #[(.tmp t), (.tmp u)], #[T, T2]⟩)) = _
  unfold opV
  have hkd : kindO (bareO (.call ⟨(.builtin .append), #[(.tmp t), (.tmp u)], #[T, T2]⟩)) = .ef := rfl
  rw [hkd]
  unfold effV bareO
  simp only [oprs, List.map_cons, List.map_nil, ho, ho2]
  unfold builtinV
  have h40 : (decide ((0 : Int) ≤ (n : Int)) && decide ((n : Int) ≤ 2 ^ 40)) = true := by
    simp
    omega
  simp only [List.getElem?_toArray, List.getElem?_cons_zero, List.getElem?_cons_succ, Option.bind_some, hu, hk, Bool.false_eq_true, if_false, h40, if_true, Int.toNat_natCast, T3.zero, orBad, hr]
  unfold appendV
  have guard : (decide (2 * (0 + n) * ((P.info? T2).map (·.bytes)).getD 0 > 2 ^ 48) || decide (0 + n > 2 ^ 62) || !((zeroT P T2).any fun z => decide (z.length = sizeT P T2))) = false := by
    rw [T3.bytes, T3.zero, T3.size]
    simp
    omega
  simp only [guard, Bool.false_eq_true, if_false]
  rw [if_neg (by omega), if_pos (by simp [V.isCell])]
  simp [newAmb, ambB]
theorem grow_ok (H : FnIs P Y (I.f 697) 27 [.tmp 4] (c697 I)) {k : IntKind} (hu : P.underlying (I.t 69) = some (.slice (I.t 3))) (hk : P.underlying (I.t 3) = some (.int k)) (T3 : TyIs P (I.t 3) 1 8 [.int .i64 0]) {h : Hp} {n : Nat} (hn : n ≠ 0) (hb : n ≤ 65536) :
    CW P Y (I.f 697) [.slice none 0 (.ex 0), .int .i64 n] none h (fun q => q = .ret (.slice (some (h.next, 0)) 0 (.tl 0)) none (h.new (ambB (List.replicate n (.int .i64 0)) (I.t 3)))) := by
  refine CW_ic H (Nat.le_of_ble_eq_true rfl) ?_
  unfold c697
  have d1 : decide ((n : Int) < 0) = false := decide_eq_false (by omega)
  have w1 : IntKind.i64.wrap (((0 : Nat) : Int) - ((0 : Nat) : Int)) = 0 := rfl
  have w2 : IntKind.i64.wrap ((n : Int) - 0) = (n : Int) := by rw [wrap_i64 (by omega) (by omega)]; omega
  have d2 : decide ((n : Int) > 0) = true := decide_eq_true (by omega)
  have c1 : ∀ {F : Frm} {h : Hp}, gt F 9 = .slice none 0 (.ex 0) → iV P F h (.raw (.call ⟨(.builtin .cap), #[(.tmp 9)], #[I.t 69]⟩)) = .val (.int .i64 ((0 : Nat) : Int)) h := fun hx => v_rawcap hu hx
  have c2 : ∀ {F : Frm} {h : Hp}, gt F 18 = .slice none 0 (.ex 0) → iV P F h (.raw (.call ⟨(.builtin .cap), #[(.tmp 18)], #[I.t 69]⟩)) = .val (.int .i64 ((0 : Nat) : Int)) h := fun hx => v_rawcap hu hx
  have c3 : ∀ {F : Frm} {h : Hp}, gt F 20 = .slice none 0 (.ex 0) → gt F 21 = .int .i64 (n : Int) → iV P F h (.raw (.call ⟨(.builtin .append), #[(.tmp 20), (.tmp 21)], #[I.t 69, I.t 3]⟩)) = .val (.slice (some (h.next, 0)) n (.tl 0)) (h.new (ambB (List.replicate n (.int .i64 0)) (I.t 3))) := fun hx hy => v_rawz hu hk T3 hx hy hn hb
  simp only [zaa, zab, zac, zae, zah, zai, zaj, zak, zal, zam, zao, zap, zaq, zax, zay, zbi, zbk, zbl, zbm, Nat.reduceEqDiff, Option.map_some, Option.map_none, Nat.reduceAdd, zci, zck, zcm, Bool.and_self, Nat.zero_add, Nat.add_zero, r_1, Nat.mul_one, zdj, zdm, Option.getD_none, Option.getD_some, Nat.zero_le, decide_true, Nat.sub_zero, Option.isSome_some, Bool.or_true, a_t, a_v, zdo, zdp, zdt, zeo, zep, zfa, zfb, zfd, zfe, if_true, if_false, d1, c1, c2, c3, w1, w2, d2]
theorem src_none {h : Hp} {a : Option (Nat × Nat)} {c : Cap} : srcCells h 1 (.slice a 0 c) = some (0, []) := by
  cases a with
  | none => rfl
  | some p => rfl
theorem app_0 {h : Hp} {e b : Nat} (T3 : TyIs P e 1 8 [.int .i64 0]) {a : Option (Nat × Nat)} {c : Cap} {k : Nat} (hk : k ≤ 65536) : appV P h e 1 (.slice (some (b, 0)) k (.tl 0)) (.slice a 0 c) = .val (.slice (some (b, 0)) k (.tl 0)) h := by
  unfold appV
  simp only [src_none]
  unfold appendV
  have guard : (decide (2 * (k + 0) * ((P.info? e).map (·.bytes)).getD 0 > 2 ^ 48) || decide (k + 0 > 2 ^ 62) || !((zeroT P e).any fun z => decide (z.length = sizeT P e))) = false := by
    rw [T3.bytes, T3.zero, T3.size]
    simp
    omega
  simp only [guard, Bool.false_eq_true, if_false, if_true]
theorem app_in {h : Hp} {e b n : Nat} (T3 : TyIs P e 1 8 [.int .i64 0]) {y : V} (hb : h.get b = some (ambB (List.replicate n (.int .i64 0)) e)) (hy : srcCells h 1 y = some (n, List.replicate n (.int .i64 0))) (hn : n ≠ 0) (hn2 : n ≤ 65536) :
    appV P h e 1 (.slice (some (b, 0)) 0 (.tl 0)) y = .val (.slice (some (b, 0)) n (.tl 0)) (h.put b (ambB (List.replicate n (.int .i64 0)) e)) := by
  unfold appV
  simp only [hy]
  unfold appendV
  have guard : (decide (2 * (0 + n) * ((P.info? e).map (·.bytes)).getD 0 > 2 ^ 48) || decide (0 + n > 2 ^ 62) || !((zeroT P e).any fun z => decide (z.length = sizeT P e))) = false := by
    rw [T3.bytes, T3.zero, T3.size]
    simp
    omega
  simp only [guard, Bool.false_eq_true, if_false]
  rw [if_neg hn, hb]
  simp only [ambB, T3.size]
  rw [if_neg (by simp), if_pos (by simp)]
  have hst : storeL h b (0 + 0 * 1) (List.replicate n (.int .i64 0)) = some (h.put b (.cells { l := splice (List.replicate n (.int .i64 0)) (0 + 0 * 1) (List.replicate n (.int .i64 0)), elem := e, exact := false, rw := true, frz := (0, 0) })) := by
    unfold storeL
    rw [hb]
    obtain ⟨m, rfl⟩ : ∃ m, n = m + 1 := ⟨n - 1, by omega⟩
    simp [List.replicate_succ, ambB, V.isCell]
  rw [hst]
  have hsp : splice (List.replicate n (V.int .i64 0)) (0 + 0 * 1) (List.replicate n (V.int .i64 0)) = List.replicate n (V.int .i64 0) := by
    unfold splice
    simp
  rw [hsp]
  simp [orBad]
theorem src_zeros {h : Hp} {b o n : Nat} {c : Cap} (hI : Ints h (some (b, o)) (List.replicate n 0)) (hn : n ≠ 0) : srcCells h 1 (.slice (some (b, o)) n c) = some (n, List.replicate n (.int .i64 0)) := by
  rcases hI.pl with h0 | ⟨b', o', e, hat⟩
  · simp at h0
    omega
  · cases e
    have hl := hat.loadL
    have hf : ((List.replicate n (0 : Int)).map fun n => [iv n]).flatten = List.replicate n (iv 0) := by simp [List.map_replicate, List.flatten_replicate_singleton]
    rw [hf, List.length_replicate] at hl
    show (if n * 1 = 0 then some (n, []) else (loadL h b o (n * 1)).map fun l => (n, l)) = _
    rw [if_neg (by omega), Nat.mul_one, hl]
    rfl
theorem amb_zeros {h : Hp} {b n e : Nat} (hb : h.get b = some (ambB (List.replicate n (.int .i64 0)) e)) (hl : b < h.next) : Ints h (some (b, 0)) (List.replicate n 0) := by
  have hf : ((List.replicate n (0 : Int)).map fun n => [iv n]).flatten = List.replicate n (iv 0) := by simp [List.map_replicate, List.flatten_replicate_singleton]
  refine ⟨fun r hr => ?_, .inr ⟨b, 0, rfl, ⟨_, hb, ?_, ?_⟩, hl⟩⟩
  · obtain ⟨y, _, rfl⟩ := List.mem_map.1 hr
    rfl
  · rw [hf]; simp
  · rw [hf]; simp
theorem concat_ok (H : FnIs P Y (I.f 562) 36 [.tmp 2] (c562 I)) (HG : FnIs P Y (I.f 697) 27 [.tmp 4] (c697 I)) {k : IntKind} (hu : P.underlying (I.t 69) = some (.slice (I.t 3))) (hk : P.underlying (I.t 3) = some (.int k)) (T3 : TyIs P (I.t 3) 1 8 [.int .i64 0]) {h : Hp} {n bs b1 o1 e : Nat} {a0 a2 : Option (Nat × Nat)} {c0 c1 c2 : Cap}
    (os : Own h bs [.slice a0 0 c0, .slice (some (b1, o1)) n c1, .slice a2 0 c2] e) (hI : Ints h (some (b1, o1)) (List.replicate n 0)) (hn : n ≠ 0) (hb : n ≤ 65536) :
    CW P Y (I.f 562) [.slice (some (bs, 0)) 3 (.ex 3)] none h (fun q => ∃ h', Grow h h' ∧ h'.next = h.next + 1 ∧ h'.get h.next = some (ambB (List.replicate n (.int .i64 0)) (I.t 3)) ∧ q = .ret (.slice (some (h.next, 0)) n (.tl 0)) none h') := by
  refine CW_ic H (Nat.le_of_ble_eq_true rfl) ?_
  unfold c562
  have l0 : ∀ {h'}, Grow h h' → load1 h' bs 0 = some (.slice a0 0 c0) := fun g => by rw [(os.grow g).load1]; rfl
  have l1 : ∀ {h'}, Grow h h' → load1 h' bs 1 = some (.slice (some (b1, o1)) n c1) := fun g => by rw [(os.grow g).load1]; rfl
  have l2 : ∀ {h'}, Grow h h' → load1 h' bs 2 = some (.slice a2 0 c2) := fun g => by rw [(os.grow g).load1]; rfl
  have w00 : IntKind.i64.wrap ((0 : Int) + ((0 : Nat) : Int)) = 0 := rfl
  have w0n : IntKind.i64.wrap ((0 : Int) + (n : Int)) = (n : Int) := by rw [wrap_i64 (by omega) (by omega)]; omega
  have wn0 : IntKind.i64.wrap ((n : Int) + ((0 : Nat) : Int)) = (n : Int) := by rw [wrap_i64 (by omega) (by omega)]; omega
  have d0 : decide ((0 : Int) < 0) = false := rfl
  have dn : decide ((n : Int) < 0) = false := decide_eq_false (by omega)
  simp only [zaa, zac, zaf, zai, zaj, zak, zal, zam, zaq, zax, zay, zbi, zbk, zbl, zbm, Nat.reduceEqDiff, Nat.zero_add, a_t, a_v, zdp, zeo, zep, if_true, if_false]
  refine s_loop (fun kk st => ∃ (i : Nat) (F : Frm), kk + i = 3 ∧ st = ⟨F, [], none, h⟩ ∧ gt F 0 = .slice (some (bs, 0)) 3 (.ex 3) ∧ gt F 9 = .slice (some (bs, 0)) 3 (.ex 3) ∧ gt F 10 = .int .i64 3 ∧ gt F 11 = .int .i64 i ∧ gt F 3 = .int .i64 (if i ≤ 1 then 0 else (n : Int))) 3
    ⟨0, _, rfl, rfl, by simp only [zbk, Nat.reduceEqDiff, if_true, if_false], by simp only [zbk, Nat.reduceEqDiff, if_true, if_false], by simp only [zbk, Nat.reduceEqDiff, if_true, if_false] <;> rfl, by simp only [zbk, Nat.reduceEqDiff, if_true, if_false] <;> rfl, by simp only [zbk, Nat.reduceEqDiff, Nat.zero_le, if_true, if_false] <;> rfl⟩ ?_
  rintro kk _ ⟨i, F, hkk, rfl, q0, q9, q10, q11, q3⟩
  have hi : i = 0 ∨ i = 1 ∨ i = 2 ∨ i = 3 := by omega
  rcases hi with rfl | rfl | rfl | rfl
  · have e1 : decide (((0 : Nat) : Int) < 3) = true := rfl
    have e2 : decide (((0 : Nat) : Int) < ((3 : Nat) : Int)) = true := rfl
    have w1 : IntKind.i64.wrap (((0 : Nat) : Int) + 1) = ((1 : Nat) : Int) := rfl
    rw [if_pos (by omega)] at q3
    simp only [zaa, zab, zac, zae, zaf, zai, zaj, zak, zal, zam, zao, zap, zaq, zax, zay, zbc, zbi, zbk, Nat.reduceEqDiff, zch, zck, Bool.and_self, Nat.add_zero, Nat.mul_one, Int.toNat_natCast, zdh, a_t, a_v, zdo, zdp, zdt, zed, zee, zef, zeg, zeo, zep, if_true, if_false, q9, q10, q11, q3, e1, e2, l0 (.refl _), w00, d0, w1]
    exact ⟨kk - 1, by omega, 1, _, by omega, rfl, by simp only [zbk, Nat.reduceEqDiff, if_false, q0], by simp only [zbk, Nat.reduceEqDiff, if_false, q9], by simp only [zbk, Nat.reduceEqDiff, if_false, q10], by simp only [zbk, Nat.reduceEqDiff, if_true, if_false], by simp only [zbk, Nat.reduceEqDiff, if_true, if_false, Nat.reduceLeDiff] <;> rfl⟩
  · have e1 : decide (((1 : Nat) : Int) < 3) = true := rfl
    have e2 : decide (((1 : Nat) : Int) < ((3 : Nat) : Int)) = true := rfl
    have w1 : IntKind.i64.wrap (((1 : Nat) : Int) + 1) = ((2 : Nat) : Int) := rfl
    rw [if_pos (by omega)] at q3
    simp only [zaa, zab, zac, zae, zaf, zai, zaj, zak, zal, zam, zao, zap, zaq, zax, zay, zbc, zbi, zbk, Nat.reduceEqDiff, zch, zck, Bool.and_self, Nat.zero_add, Nat.mul_one, Int.toNat_natCast, zdh, a_t, a_v, zdo, zdp, zdt, zed, zee, zef, zeg, zeo, zep, if_true, if_false, q9, q10, q11, q3, e1, e2, l1 (.refl _), w0n, dn, w1]
    exact ⟨kk - 1, by omega, 2, _, by omega, rfl, by simp only [zbk, Nat.reduceEqDiff, if_false, q0], by simp only [zbk, Nat.reduceEqDiff, if_false, q9], by simp only [zbk, Nat.reduceEqDiff, if_false, q10], by simp only [zbk, Nat.reduceEqDiff, if_true, if_false], by simp only [zbk, Nat.reduceEqDiff, if_true, if_false, Nat.reduceLeDiff] <;> rfl⟩
  · have e1 : decide (((2 : Nat) : Int) < 3) = true := rfl
    have e2 : decide (((2 : Nat) : Int) < ((3 : Nat) : Int)) = true := rfl
    have w1 : IntKind.i64.wrap (((2 : Nat) : Int) + 1) = ((3 : Nat) : Int) := rfl
    rw [if_neg (by omega)] at q3
    simp only [zaa, zab, zac, zae, zaf, zai, zaj, zak, zal, zam, zao, zap, zaq, zax, zay, zbc, zbi, zbk, Nat.reduceEqDiff, zch, zck, Bool.and_self, Nat.zero_add, Nat.mul_one, Int.toNat_natCast, zdh, a_t, a_v, zdo, zdp, zdt, zed, zee, zef, zeg, zeo, zep, if_true, if_false, q9, q10, q11, q3, e1, e2, l2 (.refl _), wn0, dn, w1]
    exact ⟨kk - 1, by omega, 3, _, by omega, rfl, by simp only [zbk, Nat.reduceEqDiff, if_false, q0], by simp only [zbk, Nat.reduceEqDiff, if_false, q9], by simp only [zbk, Nat.reduceEqDiff, if_false, q10], by simp only [zbk, Nat.reduceEqDiff, if_true, if_false], by simp only [zbk, Nat.reduceEqDiff, if_true, if_false, Nat.reduceLeDiff] <;> rfl⟩
  · have e1 : decide (((3 : Nat) : Int) < 3) = false := rfl
    rw [if_neg (by omega)] at q3
    simp only [zaa, zac, zae, zag, zai, zaj, zak, zal, zam, zap, zaq, zas, zax, zay, zba, zbe, zbi, zbk, List.map_cons, List.map_nil, Nat.reduceEqDiff, zck, a_t, a_v, zdo, zdp, zdt, zet, if_true, if_false, q10, q11, q3, e1]
    refine (grow_ok HG hu hk T3 hn hb).mono fun q hq => ?_
    have g1 := Grow.new h (ambB (List.replicate n (.int .i64 0)) (I.t 3))
    have k1 := get_new_same h (ambB (List.replicate n (.int .i64 0)) (I.t 3))
    have n1 : (h.new (ambB (List.replicate n (.int .i64 0)) (I.t 3))).next = h.next + 1 := rfl
    generalize hh1 : h.new (ambB (List.replicate n (.int .i64 0)) (I.t 3)) = h1 at g1 k1 n1 hq
    have hsrc := src_zeros (c := c1) (hI.grow g1) hn
    have hin := app_in (P := P) T3 k1 hsrc hn hb
    have g2 : Grow h (h1.put h.next (ambB (List.replicate n (.int .i64 0)) (I.t 3))) := g1.put (Nat.le_refl _) _
    have k2 := get_put_same h1 h.next (ambB (List.replicate n (.int .i64 0)) (I.t 3))
    have n2 : (h1.put h.next (ambB (List.replicate n (.int .i64 0)) (I.t 3))).next = h.next + 1 := n1
    generalize hh2 : h1.put h.next (ambB (List.replicate n (.int .i64 0)) (I.t 3)) = h2 at hin g2 k2 n2
    simp only [hq, zaa, zac, zaf, zai, zaj, zak, zal, zam, zaq, zav, zax, zay, zbi, zbk, Nat.reduceEqDiff, a_t, a_v, zdp, zeo, zep, if_true, if_false, q0]
    refine s_loop (fun kk st => ∃ (i : Nat) (F : Frm) (h' : Hp), kk + i = 3 ∧ st = ⟨F, [], none, h'⟩ ∧ gt F 25 = .slice (some (bs, 0)) 3 (.ex 3) ∧ gt F 26 = .int .i64 3 ∧ gt F 27 = .int .i64 i ∧ ((i ≤ 1 ∧ h' = h1 ∧ gt F 6 = .slice (some (h.next, 0)) 0 (.tl 0)) ∨ (1 < i ∧ h' = h2 ∧ gt F 6 = .slice (some (h.next, 0)) n (.tl 0)))) 3
      ⟨0, _, h1, rfl, rfl, by simp only [zbk, Nat.reduceEqDiff, if_true, if_false], by simp only [zbk, Nat.reduceEqDiff, if_true, if_false] <;> rfl, by simp only [zbk, Nat.reduceEqDiff, if_true, if_false] <;> rfl, .inl ⟨by omega, rfl, by simp only [zbk, Nat.reduceEqDiff, if_true, if_false]⟩⟩ ?_
    rintro kk2 _ ⟨i, F2, h', hkk2, rfl, r25, r26, r27, hc⟩
    have hi : i = 0 ∨ i = 1 ∨ i = 2 ∨ i = 3 := by omega
    rcases hi with rfl | rfl | rfl | rfl
    · obtain ⟨_, rfl, r6⟩ := hc.resolve_right (by omega)
      have e1 : decide (((0 : Nat) : Int) < 3) = true := rfl
      have e2 : decide (((0 : Nat) : Int) < ((3 : Nat) : Int)) = true := rfl
      have w1 : IntKind.i64.wrap (((0 : Nat) : Int) + 1) = ((1 : Nat) : Int) := rfl
      have ha := app_0 (P := P) (h := h') (b := h.next) (k := 0) (a := a0) (c := c0) T3 (by omega)
      simp only [zaa, zab, zac, zae, zaf, zai, zaj, zak, zal, zam, zao, zaq, zax, zay, zbc, zbi, zbk, Nat.reduceEqDiff, zch, zck, Bool.and_self, Nat.add_zero, Nat.mul_one, Int.toNat_natCast, zdh, a_t, a_v, zdo, zdp, zdt, zed, zee, zef, zeg, zfh, if_true, if_false, r25, r26, r27, r6, e1, e2, l0 g1, ha, w1]
      exact ⟨kk2 - 1, by omega, 1, _, h', by omega, rfl, by simp only [zbk, Nat.reduceEqDiff, if_false, r25], by simp only [zbk, Nat.reduceEqDiff, if_false, r26], by simp only [zbk, Nat.reduceEqDiff, if_true, if_false], .inl ⟨by omega, rfl, by simp only [zbk, Nat.reduceEqDiff, if_true, if_false]⟩⟩
    · obtain ⟨_, rfl, r6⟩ := hc.resolve_right (by omega)
      have e1 : decide (((1 : Nat) : Int) < 3) = true := rfl
      have e2 : decide (((1 : Nat) : Int) < ((3 : Nat) : Int)) = true := rfl
      have w1 : IntKind.i64.wrap (((1 : Nat) : Int) + 1) = ((2 : Nat) : Int) := rfl
      simp only [zaa, zab, zac, zae, zaf, zai, zaj, zak, zal, zam, zao, zaq, zax, zay, zbc, zbi, zbk, Nat.reduceEqDiff, zch, zck, Bool.and_self, Nat.zero_add, Nat.mul_one, Int.toNat_natCast, zdh, a_t, a_v, zdo, zdp, zdt, zed, zee, zef, zeg, zfh, if_true, if_false, r25, r26, r27, r6, e1, e2, l1 g1, hin, w1]
      exact ⟨kk2 - 1, by omega, 2, _, h2, by omega, rfl, by simp only [zbk, Nat.reduceEqDiff, if_false, r25], by simp only [zbk, Nat.reduceEqDiff, if_false, r26], by simp only [zbk, Nat.reduceEqDiff, if_true, if_false], .inr ⟨by omega, rfl, by simp only [zbk, Nat.reduceEqDiff, if_true, if_false]⟩⟩
    · obtain ⟨_, rfl, r6⟩ := hc.resolve_left (by omega)
      have e1 : decide (((2 : Nat) : Int) < 3) = true := rfl
      have e2 : decide (((2 : Nat) : Int) < ((3 : Nat) : Int)) = true := rfl
      have w1 : IntKind.i64.wrap (((2 : Nat) : Int) + 1) = ((3 : Nat) : Int) := rfl
      have ha := app_0 (P := P) (h := h') (b := h.next) (k := n) (a := a2) (c := c2) T3 hb
      simp only [zaa, zab, zac, zae, zaf, zai, zaj, zak, zal, zam, zao, zaq, zax, zay, zbc, zbi, zbk, Nat.reduceEqDiff, zch, zck, Bool.and_self, Nat.zero_add, Nat.mul_one, Int.toNat_natCast, zdh, a_t, a_v, zdo, zdp, zdt, zed, zee, zef, zeg, zfh, if_true, if_false, r25, r26, r27, r6, e1, e2, l2 g2, ha, w1]
      exact ⟨kk2 - 1, by omega, 3, _, h', by omega, rfl, by simp only [zbk, Nat.reduceEqDiff, if_false, r25], by simp only [zbk, Nat.reduceEqDiff, if_false, r26], by simp only [zbk, Nat.reduceEqDiff, if_true, if_false], .inr ⟨by omega, rfl, by simp only [zbk, Nat.reduceEqDiff, if_true, if_false]⟩⟩
    · obtain ⟨_, rfl, r6⟩ := hc.resolve_left (by omega)
      have e1 : decide (((3 : Nat) : Int) < 3) = false := rfl
      simp only [zaa, zac, zae, zag, zah, zai, zaj, zak, zal, zam, zap, zaq, zax, zay, zba, zbe, zbi, zbk, Nat.reduceEqDiff, zck, r_1, a_t, zdo, zdp, zdt, if_true, if_false, r26, r27, r6, e1]
      exact ⟨h', g2, n2, k2, rfl⟩
end Go.Vm
