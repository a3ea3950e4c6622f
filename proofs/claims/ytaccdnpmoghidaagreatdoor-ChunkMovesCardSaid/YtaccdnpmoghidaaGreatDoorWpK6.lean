/- Pieces that were handed out share no memory: kit.Pieces. -/
import Derived.Test.YtaccdnpmoghidaaGreatDoorWpK5
set_option linter.unusedVariables false
set_option linter.unusedSimpArgs false
namespace Go.Vm
variable {P : Program} {Y : Fns} {I : Ids}
theorem Lst.frame {n : Nat} {h h' : Hp} {v : V} {l : List V} {w e : Nat} (s : Lst n h v l w e) (hn : h.next ≤ h'.next) (hf : ∀ b k, v = .slice (some (b, 0)) k (.tl 0) → b < h.next → h'.get b = h.get b) : Lst n h' v l w e := by
  rcases s.is with ⟨h1, h2⟩ | ⟨b, k, h1, h2, h3, h4, h5⟩
  · exact ⟨.inl ⟨h1, h2⟩⟩
  · exact ⟨.inr ⟨b, k, h1, h2, (hf b k h1 h5).trans h3, h4, Nat.lt_of_lt_of_le h5 hn⟩⟩
theorem Lst.low {n : Nat} {h : Hp} {b k : Nat} {l : List V} {w e : Nat} (s : Lst n h (.slice (some (b, 0)) k (.tl 0)) l w e) : b < h.next ∧ n ≤ b ∧ l.length = k * w ∧ h.get b = some (ambB l e) := by
  rcases s.is with ⟨h1, h2⟩ | ⟨b', k', h1, h2, h3, h4, h5⟩
  · cases h1
  · cases h1; exact ⟨h5, h4, h2, h3⟩
theorem Outs.past {k e : Nat} {A B : List Out} {n : Nat} {h h' : Hp} {D : Nat → Nat → Prop} (s : Outs k e A n h D) (g : Past B h h') (hn : n ≤ h.next) (hd : ∀ (i j b m m' : Nat), B[i]? = some (some b, m) → A[j]? ≠ some (some b, m')) : Outs k e A n h' D :=
  ⟨s.ap, s.none, fun i b m hi => by
    obtain ⟨h0, ex, L, h1, h2, h3⟩ := s.is i b m hi
    exact ⟨h0, ex, L, ⟨(g.get b h1.low fun j m' hj => hd j i b m' m hj hi).trans h1.is, Nat.lt_of_lt_of_le h1.low g.next⟩, h2, h3⟩⟩
theorem Outs.widen {k e : Nat} {A : List Out} {n n' : Nat} {h : Hp} {D : Nat → Nat → Prop} (s : Outs k e A n h D) (hn : n ≤ n') : Outs k e A n' h D :=
  ⟨s.ap, s.none, fun i b m hi => by
    obtain ⟨h0, ex, L, h1, h2, h3⟩ := s.is i b m hi
    exact ⟨by omega, ex, L, h1, h2, h3⟩⟩
/-- A list of lists, as it was built, is one. -/
theorem Lst.all {n : Nat} {h : Hp} {v : V} {A : List Out} {e : Nat} (s : Lst n h v (A.map outV) 1 e) (hs : ∀ i b m : Nat, A[i]? = some (some b, m) → b < n) : ∃ a c, v = .slice a A.length c ∧ AllC h a A := by
  rcases s.is with ⟨rfl, h2⟩ | ⟨b, k, rfl, h2, h3, h4, h5⟩
  · obtain rfl : A = [] := by simpa using h2
    exact ⟨none, .ex 0, rfl, ⟨⟨fun _ h => (by cases h), .inl rfl⟩, fun _ _ h => (by cases h)⟩⟩
  · refine ⟨some (b, 0), .tl 0, by simp at h2; rw [h2], ⟨⟨fun r hr => ?_, .inr ⟨b, 0, rfl, ?_⟩⟩, fun b' o hb i m hi => ?_⟩⟩
    · obtain ⟨x, _, rfl⟩ := List.mem_map.1 hr; rfl
    · have e1 : (A.map fun x => [outV x]).flatten = A.map outV := by
        clear h2 h3 h4 h5 s hs
        induction A with
        | nil => rfl
        | cons x A ih => simp [ih]
      rw [e1]
      have : h.get b = some (ambB (A.map outV ++ []) e) := by rw [List.append_nil]; exact h3
      exact at_amb this h5
    · cases hb
      have := hs i b m hi
      omega
abbrev PcO := Int × Int × Out × Out
def pcoV (x : PcO) : List V := [.int .i64 x.1, .int .i64 x.2.1, outV x.2.2.1, outV x.2.2.2]
set_option maxHeartbeats 2000000 in
theorem pieces_ok (H : FnIs P Y (I.f 160) 34 [.tmp 2] (c160 I)) (HI : FnIs P Y (I.f 388) 130 [.tmp 2] (c388 I)) (HS : FnIs P Y (I.f 128) 130 [.tmp 2] (c128 I)) (T : PcT P I) (Ta : TyIs P (I.t 175) 1 24 [.slice none 0 (.ex 0)]) (Tb : TyIs P (I.t 34) 1 24 [.slice none 0 (.ex 0)])
    {h : Hp} {a : Option (Nat × Nat)} {c : Cap} {B : List PcO} (hB : Sl h 4 a (B.map pcoV)) (hO1 : Outs 4 (I.t 197) (B.map (·.2.2.1)) h.next h fun _ _ => False) (hO2 : Outs 3 (I.t 163) (B.map (·.2.2.2)) h.next h fun _ _ => False)
    (hd : ∀ (i j b m m' : Nat), (B.map (·.2.2.1))[i]? = some (some b, m) → (B.map (·.2.2.2))[j]? ≠ some (some b, m')) {N : Nat} (hl : N = B.length) (hN : 2 * N * 24 ≤ 281474976710656)
    (hm1 : ∀ x ∈ B, 2 * (x.2.2.1.2 + 30) * 32 ≤ 281474976710656) (hm2 : ∀ x ∈ B, 2 * (x.2.2.2.2 + 30) * 24 ≤ 281474976710656) :
    CW P Y (I.f 160) [.slice a N c] none h (fun q => ∃ h', Past (B.map (·.2.2.1) ++ B.map (·.2.2.2)) h h' ∧ q = .ret (.bool true) none h') := by
  subst hl
  refine CW_ic H (Nat.le_of_ble_eq_true rfl) ?_
  have HI' : FnIs P Y (I.f 388) 130 [.tmp 2] (gApart 4 (I.t 197) (I.t 175) [iv 0, iv 0, iv 0, iv 0]) := HI
  have HS' : FnIs P Y (I.f 128) 130 [.tmp 2] (gApart 3 (I.t 163) (I.t 34) [iv 0, iv 0, iv 0]) := HS
  unfold c160
  simp only [zaa, zac, zaf, zai, zaj, zak, zal, zam, zaq, zax, zay, zbi, zbl, zbm, Nat.zero_add, a_v, zdp]
  refine s_loop (fun kk st => ∃ (i : Nat) (F : Frm) (h' : Hp) (v1 v2 : V), kk + i = B.length ∧ st = ⟨F, [], none, h'⟩ ∧ gt F 0 = .slice a B.length c ∧ gt F 5 = .int .i64 i ∧ gt F 3 = v1 ∧ gt F 4 = v2 ∧ Grow h h' ∧ Lst h.next h' v1 (((B.take i).map (·.2.2.1)).map outV) 1 (I.t 175) ∧ Lst h.next h' v2 (((B.take i).map (·.2.2.2)).map outV) 1 (I.t 34) ∧
      ∀ b b' m m', v1 = .slice (some (b, 0)) m (.tl 0) → v2 = .slice (some (b', 0)) m' (.tl 0) → b ≠ b') B.length
    ⟨0, _, h, _, _, rfl, rfl, by simp only [zbk, Nat.reduceEqDiff, if_true, if_false], by simp only [zbk, Nat.reduceEqDiff, if_true, if_false]; rfl, by simp only [zbk, Nat.reduceEqDiff, if_true, if_false], by simp only [zbk, Nat.reduceEqDiff, if_true, if_false], .refl _, Lst.nil _ _ _ _, Lst.nil _ _ _ _, fun _ _ _ _ e => (by cases e)⟩ ?_
  rintro kk _ ⟨i, F, h1, v1, v2, hkk, rfl, q0, q5, q3, q4, hg, l1, l2, hne⟩
  by_cases hi : i < B.length
  · have d1 : decide ((i : Int) < (B.length : Int)) = true := decide_eq_true (by omega)
    obtain ⟨b, o, rfl, hat0⟩ := hB.at (i := i) (by simpa using hi)
    simp only [List.getElem_map] at hat0
    have hx := (hat0.grow hg).load1 (i := 2) (by simp [pcoV])
    have e1 : (pcoV B[i])[2]'(by simp [pcoV]) = outV B[i].2.2.1 := rfl
    have e2 : (pcoV B[i])[3]'(by simp [pcoV]) = outV B[i].2.2.2 := rfl
    rw [e1] at hx
    have f1 : fillV (reps 1 [V.slice none 0 (.ex 0)]) [(0, 1, outV B[i].2.2.1)] = some [outV B[i].2.2.1] := rfl
    have f2 : fillV (reps 1 [V.slice none 0 (.ex 0)]) [(0, 1, outV B[i].2.2.2)] = some [outV B[i].2.2.2] := rfl
    have w1 : IntKind.i64.wrap ((i : Int) + 1) = ((i + 1 : Nat) : Int) := by rw [wrap_i64 (by omega) (by omega)]; rfl
    have g2 := Grow.new h1 (newBlk [outV B[i].2.2.1] (I.t 175))
    have o2 := Own.of_new h1 [outV B[i].2.2.1] (I.t 175)
    have n2 : (h1.new (newBlk [outV B[i].2.2.1] (I.t 175))).next = h1.next + 1 := rfl
    generalize hh2 : h1.new (newBlk [outV B[i].2.2.1] (I.t 175)) = h2 at g2 o2 n2
    have n1 := hg.next
    have t1 : (((B.take i).map (·.2.2.1)).map outV).length = i * 1 := by simp; omega
    have t2 : (((B.take i).map (·.2.2.2)).map outV).length = i * 1 := by simp; omega
    obtain ⟨h3, ha1, m1, m2, m3, m4, m5⟩ := app_ok2 Ta (by omega) (l1.grow g2) (by omega) (src_own o2 rfl (by omega)) rfl (by omega) rfl (k := i) t1 (by omega) (by omega)
    have k3 : Keep h.next h h3 := (hg.keep (Nat.le_refl _)).trans ((g2.keep n1).trans m2)
    have hy := (hat0.keep hat0.low k3).load1 (i := 3) (by simp [pcoV])
    rw [e2] at hy
    have g4 := Grow.new h3 (newBlk [outV B[i].2.2.2] (I.t 34))
    have o4 := Own.of_new h3 [outV B[i].2.2.2] (I.t 34)
    have n4 : (h3.new (newBlk [outV B[i].2.2.2] (I.t 34))).next = h3.next + 1 := rfl
    generalize hh4 : h3.new (newBlk [outV B[i].2.2.2] (I.t 34)) = h4 at g4 o4 n4
    have l2' : Lst h.next h3 v2 (((B.take i).map (·.2.2.2)).map outV) 1 (I.t 34) := l2.frame (by omega) fun b' k hv hb' => (m3 b' (by omega) fun b'' hv1 => (hne b'' b' i k hv1 hv).symm).trans (g2.get b' hb')
    obtain ⟨h5, ha2, p1, p2, p3, p4, p5⟩ := app_ok2 Tb (by omega) (l2'.grow g4) (by omega) (src_own o4 rfl (by omega)) rfl (by omega) rfl (k := i) t2 (by omega) (by omega)
    have m1' : Lst h.next h5 (.slice (some (h2.next, 0)) (i + 1) (.tl 0)) (((B.take i).map (·.2.2.1)).map outV ++ [outV B[i].2.2.1]) 1 (I.t 175) := m1.frame (by omega) fun b' k hv hb' => by
      cases hv
      refine (p3 h2.next (by omega) fun b'' hv2 => ?_).trans (g4.get h2.next hb')
      subst hv2
      have := l2.low.1
      omega
    have hoc1 : (outV B[i].2.2.1).isCell = true := rfl
    have hoc2 : (outV B[i].2.2.2).isCell = true := rfl
    simp only [zaa, zab, zac, zae, zaf, zai, zaj, zak, zal, zam, zao, zaq, zax, zay, zbc, zbi, zbk, List.map_cons, List.map_nil, Nat.reduceEqDiff, zch, zck, Bool.and_self, Nat.mul_one, Int.toNat_natCast, zdh, a_t, a_v, zdo, zdp, zdt, zeb, zec, zed, zee, zef, zeg, zeo, zep, zfg, zfh, if_true, if_false, q0, q5, q3, q4, d1, hx, hy, f1, f2, hh2, ha1, hh4, ha2, w1]
    have tk : ∀ {α : Type} (g : PcO → α), (B.take (i + 1)).map g = (B.take i).map g ++ [g B[i]] := fun g => by rw [List.take_succ_eq_append_getElem hi, List.map_append]; rfl
    refine ⟨kk - 1, by omega, i + 1, _, h5, .slice (some (h2.next, 0)) (i + 1) (.tl 0), .slice (some (h4.next, 0)) (i + 1) (.tl 0), by omega, rfl, by simp only [zbk, Nat.reduceEqDiff, if_false, q0], by simp only [zbk, Nat.reduceEqDiff, if_true, if_false], by simp only [zbk, Nat.reduceEqDiff, if_true, if_false], by simp only [zbk, Nat.reduceEqDiff, if_true, if_false], (k3.trans ((g4.keep (by omega)).trans p2)).grow, ?_, ?_, ?_⟩
    · rw [tk, List.map_append]; exact m1'
    · rw [tk, List.map_append]; exact p1
    · intro b1 b2 k1 k2 e1 e2
      cases e1
      cases e2
      omega
  · have d1 : decide ((i : Int) < (B.length : Int)) = false := decide_eq_false (by omega)
    obtain rfl : i = B.length := by omega
    rw [List.take_length] at l1 l2
    obtain ⟨a1, c1, rfl, hA1⟩ := l1.all fun i b m hi => (hO1.is i b m hi).1
    obtain ⟨a2, c2, rfl, hA2⟩ := l2.all fun i b m hi => (hO2.is i b m hi).1
    have hO1' := (hO1.keep (hg.keep (Nat.le_refl _))).widen hg.next
    have z1 : (B.map (·.2.2.1)).length = B.length := List.length_map ..
    have z2 : (B.map (·.2.2.2)).length = B.length := List.length_map ..
    simp only [zaa, zac, zae, zag, zai, zaj, zak, zal, zam, zap, zaq, zas, zax, zay, zba, zbe, zbi, zbk, List.map_cons, List.map_nil, Nat.reduceEqDiff, zck, a_t, zdo, zdp, zdt, zeo, zep, zes, if_true, if_false, q0, q5, q3, d1]
    refine (gApart_ok HI' T.ri Ta hA1 hO1' rfl (by rw [z1]; exact hN) fun x hx => ?_).mono ?_
    · obtain ⟨y, hy, rfl⟩ := List.mem_map.1 hx
      have := hm1 y hy
      exact ⟨this, by omega⟩
    rintro _ ⟨h2, hp, rfl⟩
    have hA2' : AllC h2 a2 (B.map (·.2.2.2)) := by
      refine ⟨⟨hA2.sl.wid, hA2.sl.pl.imp id fun ⟨b, o, e, k⟩ => ?_⟩, hA2.sep⟩
      obtain ⟨⟨x, k1, k2⟩, k3⟩ := k
      refine ⟨b, o, e, ⟨⟨x, (hp.get b k3 fun i m hi => ?_).trans k1, k2⟩, Nat.lt_of_lt_of_le k3 hp.next⟩⟩
      have h6 := (hO1.is i b m hi).1
      rcases l2.is with ⟨h7, h8⟩ | ⟨b', k', h7, _, _, h8, _⟩
      · simp only [V.slice.injEq] at h7
        rw [h7.1] at e
        cases e
      · simp only [V.slice.injEq] at h7
        rw [h7.1] at e
        cases e
        omega
    have hO2' := ((hO2.keep (hg.keep (Nat.le_refl _))).past hp hg.next hd).widen (Nat.le_trans hg.next hp.next)
    simp only [zaj, zal, zam, zaq, zas, zav, zax, zbi, zbk, List.map_cons, List.map_nil, Nat.reduceEqDiff, zdb, zdc, zdg, a_t, zdp, zes, if_true, if_false, q4]
    refine (gApart_ok HS' T.rs Tb hA2' hO2' rfl (by rw [z2]; exact hN) fun x hx => ?_).mono ?_
    · obtain ⟨y, hy, rfl⟩ := List.mem_map.1 hx
      have := hm2 y hy
      exact ⟨this, by omega⟩
    rintro _ ⟨h3, hp3, rfl⟩
    simp only [zah, zai, zaj, zak, zal, zam, zaq, zav, zax, zay, zbi, zbk, Nat.reduceEqDiff, r_1, a_t, a_v, zdp, zdq, zdr, if_true, if_false]
    refine ⟨h3, ⟨Nat.le_trans hg.next (Nat.le_trans hp.next hp3.next), fun c hc hs => ?_⟩, rfl⟩
    have s1 : ∀ i m : Nat, (B.map (·.2.2.1))[i]? ≠ some (some c, m) := fun i m hi => hs i m (by
      rw [List.getElem?_append_left (List.getElem?_eq_some_iff.1 hi).1]; exact hi)
    have s2 : ∀ i m : Nat, (B.map (·.2.2.2))[i]? ≠ some (some c, m) := fun i m hi => hs ((B.map (·.2.2.1)).length + i) m (by
      rw [List.getElem?_append_right (by omega), Nat.add_sub_cancel_left]; exact hi)
    have h4 := hg.next
    have h5 := hp.next
    exact (hp3.get c (by omega) s2).trans ((hp.get c (by omega) s1).trans (hg.get c hc))
end Go.Vm
