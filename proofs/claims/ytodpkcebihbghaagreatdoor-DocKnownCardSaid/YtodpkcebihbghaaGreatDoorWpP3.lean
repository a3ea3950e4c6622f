/- The chapter's tables looked at: terminals, relations. -/
import Derived.Test.YtodpkcebihbghaaGreatDoorWpF14
import Derived.Test.YtodpkcebihbghaaGreatDoorWpL1
import Derived.Test.YtodpkcebihbghaaGreatDoorWpK6
import Derived.Test.YtodpkcebihbghaaGreatDoorWpG2
set_option linter.unusedVariables false
set_option linter.unusedSimpArgs false
namespace Go.Vm
variable {P : Program} {Y : Fns} {I : Ids}
def ixAV (h : Hp) (n sz : Nat) (x i : V) : OR := match x, i with
  | .ptr (some (b, o)), .int _ k => if (decide (0 ≤ k) && decide (k < n)) = true then .val (.ptr (some (b, o + k.toNat * sz))) h else .bad ""
  | _, _ => .bad ""
theorem v_ixA {F : Frm} {h : Hp} (n sz : Nat) (x i : IA) : iV P F h (.ixA n sz x i) = ixAV h n sz (ia F x) (ia F i) := id rfl
theorem ixa_ptr {h : Hp} (n sz b o : Nat) (kd : IntKind) (k : Int) : ixAV h n sz (.ptr (some (b, o))) (.int kd k) = (if (decide (0 ≤ k) && decide (k < n)) = true then .val (.ptr (some (b, o + k.toNat * sz))) h else .bad "") := id rfl
/-- What the parser looks at of the tables of 'S : a S b | a b'. -/
structure Tab (h : Hp) (bt : Nat) : Prop where
  low : bt < h.next
  tm : ∃ a c, load1 h bt 1 = some (.slice a 2 c)
  mx : ∃ bm, bm < h.next ∧ load1 h bt 8 = some (.ptr (some (bm, 0))) ∧ load1 h bm 0 = some (.int .i64 3) ∧ load1 h bm 62 = some (.int .u64 1) ∧ load1 h bm 64 = some (.int .u64 1) ∧ load1 h bm 123 = some (.int .u64 2) ∧ load1 h bm 184 = some (.int .u64 0)
theorem Tab.grow {h h' : Hp} {bt : Nat} (t : Tab h bt) (g : Grow h h') : Tab h' bt := by
  obtain ⟨h1, ⟨a, c, h2⟩, bm, h3, h4, h5, h6, h7, h8, h9⟩ := t
  exact ⟨Nat.lt_of_lt_of_le h1 g.next, ⟨a, c, (load1_grow g h1).trans h2⟩, bm, Nat.lt_of_lt_of_le h3 g.next, (load1_grow g h1).trans h4, (load1_grow g h3).trans h5, (load1_grow g h3).trans h6, (load1_grow g h3).trans h7, (load1_grow g h3).trans h8, (load1_grow g h3).trans h9⟩
theorem Tab.frame {h h' : Hp} {bt : Nat} (t : Tab h bt) (hn : h'.next = h.next) (hf : ∀ b, b = bt ∨ (∃ v, load1 h b 64 = some v) → h'.get b = h.get b) : Tab h' bt := by
  obtain ⟨h1, ⟨a, c, h2⟩, bm, h3, h4, h5, h6, h7, h8, h9⟩ := t
  have k1 : ∀ o, load1 h' bt o = load1 h bt o := fun o => by unfold load1; rw [hf bt (.inl rfl)]
  have k2 : ∀ o, load1 h' bm o = load1 h bm o := fun o => by unfold load1; rw [hf bm (.inr ⟨_, h7⟩)]
  exact ⟨by omega, ⟨a, c, (k1 1).trans h2⟩, bm, by omega, (k1 8).trans h4, (k2 0).trans h5, (k2 62).trans h6, (k2 64).trans h7, (k2 123).trans h8, (k2 184).trans h9⟩
theorem terms_ok (H : FnIs P Y (I.f 103) 12 [.tmp 2] (c103 I)) {h : Hp} {bt : Nat} (t : Tab h bt) :
    CW P Y (I.f 103) [.ptr (some (bt, 0))] none h (fun q => q = .ret (.int .i64 2) none h) := by
  obtain ⟨h1, ⟨a, c, h2⟩, _⟩ := t
  refine CW_ic H (Nat.le_of_ble_eq_true rfl) ?_
  unfold c103
  simp only [zaa, zab, zac, zae, zah, zai, zaj, zak, zal, zam, zap, zaq, zax, zay, zbi, zbk, zbl, zbm, Nat.reduceEqDiff, Option.map_some, zcu, zcy, Nat.zero_add, Nat.add_zero, r_1, a_t, a_v, zdo, zdp, zdv, zeb, zec, zef, zeg, zeo, zep, if_true, if_false, zgm, zgn, zgm, zgn, h2]
  rfl
theorem holds_ok (H : FnIs P Y (I.f 227) 62 [.tmp 8] (c227 I)) {h : Hp} {bm : Nat} {a b r : Nat} {w : Int} {x1 x2 : V} {z : Bool} (h3 : load1 h bm 0 = some (.int .i64 3)) (ha : a < 3) (hb : b < 3) (hr : 1 ≤ r ∧ r ≤ 3)
    (hw : load1 h bm (1 + r * 61 + a) = some (.int .u64 w)) (e1 : binV P .shr 0 false (.int .u64 w) (.int .i64 b) = some x1) (e2 : binV P .and 0 false x1 (.int .u64 1) = some x2) (e3 : eqK 1 x2 (.int .u64 1) = some z) :
    CW P Y (I.f 227) [.ptr (some (bm, 0)), .int .i64 a, .int .i64 b, .int .i64 r] none h (fun q => q = .ret (.bool z) none h) := by
  refine CW_ic H (Nat.le_of_ble_eq_true rfl) ?_
  unfold c227
  have d1 : decide ((a : Int) < 0) = false := decide_eq_false (by omega)
  have d2 : decide ((a : Int) ≥ 3) = false := decide_eq_false (by omega)
  have d3 : decide ((b : Int) < 0) = false := decide_eq_false (by omega)
  have d4 : decide ((b : Int) ≥ 3) = false := decide_eq_false (by omega)
  have d5 : decide ((r : Int) < 0) = false := decide_eq_false (by omega)
  have d6 : decide ((r : Int) > 3) = false := decide_eq_false (by omega)
  have d7 : ((r : Int) == 0) = false := bq_ne (by omega)
  have d8 : decide ((r : Int) < ((4 : Nat) : Int)) = true := decide_eq_true (by omega)
  have d9 : decide ((a : Int) < ((61 : Nat) : Int)) = true := decide_eq_true (by omega)
  simp only [zaa, zab, zac, zae, zah, zai, zaj, zak, zal, zam, zap, zaq, zax, zay, zbi, zbk, zbl, zbm, Nat.reduceEqDiff, Option.map_some, Nat.reduceAdd, zck, zcm, zcn, zcq, zcu, zcy, Bool.and_self, Nat.zero_add, Nat.add_zero, zdb, zdc, zdd, r_1, Nat.mul_one, Int.toNat_natCast, zdh, a_t, a_v, zdo, zdp, zdq, zds, zdt, zdu, zdv, zeb, zec, zef, zeg, if_true, if_false, zgm, zgn, zgm, zgn, h3, d1, d2, d3, d4, d5, d6, d7, v_ixA, ixa_ptr, d8, d9, hw, e1, e2, e3]
theorem at_hit (H : FnIs P Y (I.f 339) 18 [.tmp 6] (c339 I)) {h : Hp} {bm : Nat} {a b : Int} (hH : CW P Y (I.f 227) [.ptr (some (bm, 0)), .int .i64 a, .int .i64 b, .int .i64 1] none h (fun q => q = .ret (.bool true) none h)) :
    CW P Y (I.f 339) [.ptr (some (bm, 0)), .int .i64 a, .int .i64 b] none h (fun q => q = .ret (.int .i64 1) none h) := by
  refine CW_ic H (Nat.le_of_ble_eq_true rfl) ?_
  unfold c339
  simp only [zaa, zac, zaf, zai, zaj, zak, zal, zam, zaq, zax, zay, zbi, zbl, zbm, Nat.reduceAdd, Nat.zero_add, a_v, zdp]
  refine s_loop (fun kk st => ∃ F, kk = 0 ∧ st = ⟨F, [], none, h⟩ ∧ gt F 0 = .ptr (some (bm, 0)) ∧ gt F 1 = .int .i64 a ∧ gt F 2 = .int .i64 b ∧ gt F 7 = .int .i64 1) 0 ⟨_, rfl, rfl, by simp only [zbk, Nat.reduceEqDiff, if_true, if_false], by simp only [zbk, Nat.reduceEqDiff, if_true, if_false], by simp only [zbk, Nat.reduceEqDiff, if_true, if_false], by simp only [zbk, Nat.reduceEqDiff, if_true, if_false]⟩ ?_
  rintro kk _ ⟨F, rfl, rfl, g0, g1, g2, g7⟩
  have d1 : decide ((1 : Int) ≤ 3) = true := rfl
  simp only [zaa, zab, zac, zae, zaf, zai, zaj, zak, zal, zam, zao, zaq, zas, zax, zay, zbi, zbk, List.map_cons, List.map_nil, Nat.reduceEqDiff, zcl, a_t, a_v, zdo, zdp, zdt, zet, if_true, if_false, g0, g1, g2, g7, d1]
  refine hH.mono fun q hq => ?_
  simp only [hq, zaa, zac, zae, zah, zai, zaj, zak, zal, zam, zao, zaq, zav, zax, zay, zaz, zbd, zbi, zbk, Nat.reduceEqDiff, r_1, a_t, zdp, if_true, if_false, g7]
theorem at_none (H : FnIs P Y (I.f 339) 18 [.tmp 6] (c339 I)) {h : Hp} {bm : Nat} {a b : Int} (hH : ∀ r : Nat, 1 ≤ r → r ≤ 3 → CW P Y (I.f 227) [.ptr (some (bm, 0)), .int .i64 a, .int .i64 b, .int .i64 r] none h (fun q => q = .ret (.bool false) none h)) :
    CW P Y (I.f 339) [.ptr (some (bm, 0)), .int .i64 a, .int .i64 b] none h (fun q => q = .ret (.int .i64 0) none h) := by
  refine CW_ic H (Nat.le_of_ble_eq_true rfl) ?_
  unfold c339
  simp only [zaa, zac, zaf, zai, zaj, zak, zal, zam, zaq, zax, zay, zbi, zbl, zbm, Nat.reduceAdd, Nat.zero_add, a_v, zdp]
  refine s_loop (fun kk st => ∃ (r : Nat) (F : Frm), kk + r = 4 ∧ 1 ≤ r ∧ st = ⟨F, [], none, h⟩ ∧ gt F 0 = .ptr (some (bm, 0)) ∧ gt F 1 = .int .i64 a ∧ gt F 2 = .int .i64 b ∧ gt F 7 = .int .i64 r) 3 ⟨1, _, rfl, by omega, rfl, by simp only [zbk, Nat.reduceEqDiff, if_true, if_false], by simp only [zbk, Nat.reduceEqDiff, if_true, if_false], by simp only [zbk, Nat.reduceEqDiff, if_true, if_false], by simp only [zbk, Nat.reduceEqDiff, if_true, if_false]; rfl⟩ ?_
  rintro kk _ ⟨r, F, hk, h1, rfl, g0, g1, g2, g7⟩
  by_cases hr : r ≤ 3
  · have d1 : decide ((r : Int) ≤ 3) = true := decide_eq_true (by omega)
    have w1 : IntKind.i64.wrap ((r : Int) + 1) = ((r + 1 : Nat) : Int) := by rw [wrap_i64 (by omega) (by omega)]; rfl
    simp only [zaa, zab, zac, zae, zaf, zai, zaj, zak, zal, zam, zao, zaq, zas, zax, zay, zbi, zbk, List.map_cons, List.map_nil, Nat.reduceEqDiff, zcl, a_t, a_v, zdo, zdp, zdt, zet, if_true, if_false, g0, g1, g2, g7, d1]
    refine (hH r h1 hr).mono fun q hq => ?_
    simp only [hq, zab, zac, zae, zai, zaj, zak, zal, zam, zap, zaq, zav, zax, zay, zbc, zbi, zbk, Nat.reduceEqDiff, zch, a_t, a_v, zdo, zdp, zdt, if_true, if_false, g7, w1]
    exact ⟨kk - 1, by omega, r + 1, _, by omega, by omega, rfl, by simp only [zbk, Nat.reduceEqDiff, if_false, g0], by simp only [zbk, Nat.reduceEqDiff, if_false, g1], by simp only [zbk, Nat.reduceEqDiff, if_false, g2], by simp only [zbk, Nat.reduceEqDiff, if_true, if_false]⟩
  · have d1 : decide ((r : Int) ≤ 3) = false := decide_eq_false (by omega)
    simp only [zaa, zac, zae, zag, zah, zai, zaj, zak, zal, zam, zap, zaq, zax, zay, zba, zbe, zbi, zbk, Nat.reduceEqDiff, zcl, r_1, a_t, a_v, zdo, zdp, zdt, if_true, if_false, g7, d1]
theorem rel_ok (H : FnIs P Y (I.f 104) 17 [.tmp 6] (c104 I)) {h : Hp} {bt bm : Nat} {a b : Int} {z : V} (hb : load1 h bt 8 = some (.ptr (some (bm, 0)))) (hA : CW P Y (I.f 339) [.ptr (some (bm, 0)), .int .i64 a, .int .i64 b] none h (fun q => q = .ret z none h)) :
    CW P Y (I.f 104) [.ptr (some (bt, 0)), .int .i64 a, .int .i64 b] none h (fun q => q = .ret z none h) := by
  refine CW_ic H (Nat.le_of_ble_eq_true rfl) ?_
  unfold c104
  simp only [zaa, zab, zac, zae, zai, zaj, zak, zal, zam, zap, zaq, zas, zax, zay, zbi, zbk, List.map_cons, List.map_nil, zbl, zbm, Nat.reduceEqDiff, Option.map_some, Nat.reduceAdd, zcu, zcy, Nat.zero_add, Nat.add_zero, a_t, a_v, zdo, zdp, zdv, zeb, zec, zef, zeg, zet, if_true, if_false, zgm, zgn, zgm, zgn, hb]
  refine hA.mono fun q hq => ?_
  simp only [hq, zah, zai, zaj, zak, zal, zam, zaq, zav, zax, zay, zbi, zbk, Nat.reduceEqDiff, r_1, a_t, zdp, if_true, if_false]
/-- The three relations that are asked for. -/
structure Rel3 (P : Program) (Y : Fns) (I : Ids) (h : Hp) (bt : Nat) : Prop where
  r20 : CW P Y (I.f 104) [.ptr (some (bt, 0)), .int .i64 2, .int .i64 0] none h (fun q => q = .ret (.int .i64 1) none h)
  r00 : CW P Y (I.f 104) [.ptr (some (bt, 0)), .int .i64 0, .int .i64 0] none h (fun q => q = .ret (.int .i64 1) none h)
  r02 : CW P Y (I.f 104) [.ptr (some (bt, 0)), .int .i64 0, .int .i64 2] none h (fun q => q = .ret (.int .i64 0) none h)
theorem Tab.rel3 (H : FnIs P Y (I.f 104) 17 [.tmp 6] (c104 I)) (HA : FnIs P Y (I.f 339) 18 [.tmp 6] (c339 I)) (HH : FnIs P Y (I.f 227) 62 [.tmp 8] (c227 I)) {h : Hp} {bt : Nat} (t : Tab h bt) : Rel3 P Y I h bt := by
  obtain ⟨h1, _, bm, h3, h4, h5, h6, h7, h8, h9⟩ := t
  refine ⟨rel_ok H h4 (at_hit HA (holds_ok HH (a := 2) (b := 0) (r := 1) h5 (by omega) (by omega) (by omega) h7 rfl rfl rfl)), rel_ok H h4 (at_hit HA (holds_ok HH (a := 0) (b := 0) (r := 1) h5 (by omega) (by omega) (by omega) h6 rfl rfl rfl)), rel_ok H h4 (at_none HA fun r hr1 hr3 => ?_)⟩
  obtain rfl | rfl | rfl : r = 1 ∨ r = 2 ∨ r = 3 := by omega
  · exact holds_ok HH (a := 0) (b := 2) (r := 1) h5 (by omega) (by omega) (by omega) h6 rfl rfl rfl
  · exact holds_ok HH (a := 0) (b := 2) (r := 2) h5 (by omega) (by omega) (by omega) h8 rfl rfl rfl
  · exact holds_ok HH (a := 0) (b := 2) (r := 3) h5 (by omega) (by omega) (by omega) h9 rfl rfl rfl
end Go.Vm
/- A stack of as laid on a whole stack: term, ready, lay, Shift, End. -/
namespace Go.Vm
variable {P : Program} {Y : Fns} {I : Ids}
def tmsC (k : Nat) : List V := (List.range k).map fun (j : Nat) => V.int .i64 j
def itC (j : Nat) : List V := [.int .i64 0, .int .i64 (-1), .int .i64 j, .int .i64 ((j + 1 : Nat) : Int)]
def itsC (k : Nat) : List V := (List.range k).flatMap itC
theorem tmsC_succ (k : Nat) : tmsC (k + 1) = tmsC k ++ [.int .i64 k] := by simp [tmsC, List.range_succ]
theorem itsC_succ (k : Nat) : itsC (k + 1) = itsC k ++ itC k := by simp [itsC, List.range_succ]
theorem tmsC_len (k : Nat) : (tmsC k).length = k := by simp [tmsC]
theorem itsC_len (k : Nat) : (itsC k).length = k * 4 := by
  induction k with
  | zero => rfl
  | succ k ih => rw [itsC_succ, List.length_append, ih]; show k * 4 + 4 = _; omega
theorem tmsC_last (k : Nat) : (tmsC (k + 1))[k]? = some (.int .i64 k) := by
  rw [tmsC_succ, List.getElem?_append_right (by rw [tmsC_len]; omega), tmsC_len, Nat.sub_self]; rfl
theorem itsC_last (k : Nat) : (itsC (k + 1))[k * 4]? = some (.int .i64 0) := by
  rw [itsC_succ, List.getElem?_append_right (by rw [itsC_len]; omega), itsC_len, Nat.sub_self]; rfl
def stkC (bt k : Nat) (wh ended refused : Bool) (itv tmv : V) : List V := [.ptr (some (bt, 0)), .int .i64 0, .int .i64 k, .bool wh, .bool ended, .bool refused, itv, tmv, .slice none 0 (.ex 0), .slice none 0 (.ex 0)]
/-- A stack that k as were laid on. -/
structure Stk (I : Ids) (n : Nat) (h : Hp) (bs bt k : Nat) (wh ended : Bool) (itv tmv : V) : Prop where
  apart : ∀ b c i j i' j' x y, itv = .slice (some (b, i)) j x → tmv = .slice (some (c, i')) j' y → b ≠ c
  own : Own h bs (stkC bt k wh ended false itv tmv) (I.t 491)
  low : bs < n
  nx : n ≤ h.next
  it : Lst n h itv (itsC k) 4 (I.t 197)
  tm : Lst n h tmv (tmsC k) 1 (I.t 3)
theorem ambLoad1 {h : Hp} {b e : Nat} {l : List V} (hb : h.get b = some (ambB l e)) (i : Nat) : load1 h b i = l[i]? := by unfold load1; rw [hb]; rfl
section
variable {n : Nat} {h : Hp} {bs bt k : Nat} {wh ended : Bool} {itv tmv : V}
theorem term_ok (H : FnIs P Y (I.f 546) 44 [.tmp 4, .tmp 5] (c546 I)) (HT : FnIs P Y (I.f 103) 12 [.tmp 2] (c103 I)) (t : Tab h bt) (s : Stk I n h bs bt k wh ended itv tmv) (hk : k ≤ 65536) :
    CW P Y (I.f 546) [.ptr (some (bs, 0)), .int .i64 0] none h (fun q => q = .ret (.tuple [.int .i64 (if k = 0 then 2 else 0), .bool (wh || decide (k ≠ 0))]) none h) := by
  refine CW_ic H (Nat.le_of_ble_eq_true rfl) ?_
  unfold c546
  have l7 : load1 h bs 7 = some tmv := by rw [s.own.load1]; rfl
  have l6 : load1 h bs 6 = some itv := by rw [s.own.load1]; rfl
  have l0 : load1 h bs 0 = some (.ptr (some (bt, 0))) := by rw [s.own.load1]; rfl
  have l3 : load1 h bs 3 = some (.bool wh) := by rw [s.own.load1]; rfl
  cases k with
  | zero =>
    have ht : tmv = .slice none 0 (.ex 0) ∨ ∃ b, tmv = .slice (some (b, 0)) 0 (.tl 0) := by
      rcases s.tm.is with ⟨h1, _⟩ | ⟨b, k', h1, h2, _⟩
      · exact .inl h1
      · rw [tmsC_len] at h2
        obtain rfl : k' = 0 := by omega
        exact .inr ⟨b, h1⟩
    have w1 : IntKind.i64.wrap (((0 : Nat) : Int) - 1) = -1 := rfl
    have w2 : IntKind.i64.wrap (-1 - 0) = -1 := rfl
    have d1 : decide ((-1 : Int) ≥ 0) = false := rfl
    have d2 : ((-1 : Int) == -1) = true := rfl
    have hl : ∃ a c, tmv = .slice a 0 c := by
      rcases ht with rfl | ⟨b, rfl⟩
      · exact ⟨_, _, rfl⟩
      · exact ⟨_, _, rfl⟩
    obtain ⟨a, c, rfl⟩ := hl
    simp only [zaa, zab, zac, zad, zae, zai, zaj, zak, zal, zam, zap, zaq, zas, zax, zay, zbi, zbk, List.map_cons, List.map_nil, zbl, zbm, Nat.reduceEqDiff, Nat.reduceAdd, zci, zcn, Nat.zero_add, Nat.add_zero, a_t, a_v, zdo, zdp, zdt, zeb, zec, zef, zeg, zeo, zep, zet, if_true, if_false, zgm, zgn, zgm, zgn, l7, l0, w1, w2, d1]
    refine (terms_ok HT t).mono fun q hq => ?_
    have dz : decide ((0 : Nat) ≠ 0) = false := rfl
    simp only [hq, zah, zai, zaj, zak, zal, zam, zaq, zav, zax, zay, zbg, zbi, zbk, Nat.reduceEqDiff, Option.map_some, zcq, zcu, Nat.zero_add, zdb, zdc, zdg, r_2, Bool.or_false, a_t, a_v, zdo, zdp, zdq, zdr, zdu, zeb, zec, zef, zeg, if_true, if_false, zgm, zgn, zgm, zgn, d2, l3, dz]
  | succ k =>
    have dz : (wh || decide (k + 1 ≠ 0)) = true := by simp
    rcases s.tm.is with ⟨_, h2⟩ | ⟨b, k', rfl, h2, h3, h4, h5⟩
    · have := tmsC_len (k + 1)
      rw [h2] at this
      cases this
    rcases s.it.is with ⟨_, g2⟩ | ⟨b2, k2, rfl, g2, g3, g4, g5⟩
    · have := itsC_len (k + 1)
      rw [g2] at this
      simp at this
    rw [tmsC_len] at h2
    rw [itsC_len] at g2
    obtain rfl : k' = k + 1 := by omega
    obtain rfl : k2 = k + 1 := by omega
    have w1 : IntKind.i64.wrap (((k + 1 : Nat) : Int) - 1) = (k : Int) := by rw [wrap_i64 (by omega) (by omega)]; omega
    have w2 : IntKind.i64.wrap ((k : Int) - 0) = (k : Int) := by rw [wrap_i64 (by omega) (by omega)]; omega
    have d1 : decide ((k : Int) ≥ 0) = true := decide_eq_true (by omega)
    have d2 : decide ((k : Int) < ((k + 1 : Nat) : Int)) = true := decide_eq_true (by omega)
    have x1 : load1 h b k = some (.int .i64 k) := (ambLoad1 h3 k).trans (tmsC_last k)
    have x2 : load1 h b2 (k * 4) = some (.int .i64 0) := (ambLoad1 g3 (k * 4)).trans (itsC_last k)
    simp only [zaa, zac, zad, zae, zah, zai, zaj, zak, zal, zam, zao, zaq, zax, zay, zaz, zbg, zbi, zbk, zbl, zbm, Nat.reduceEqDiff, Nat.reduceAdd, zci, zcn, Bool.and_self, Nat.zero_add, Nat.add_zero, r_2, Nat.mul_one, Int.toNat_natCast, a_t, a_v, zdo, zdp, zdt, zeb, zec, zed, zee, zef, zeg, zeo, zep, if_true, if_false, zgm, zgn, zgm, zgn, l7, l6, w1, w2, d1, d2, x1, x2, dz]
theorem ready_ok (H : FnIs P Y (I.f 406) 68 [.tmp 4] (c406 I)) (H5 : FnIs P Y (I.f 546) 44 [.tmp 4, .tmp 5] (c546 I)) (HT : FnIs P Y (I.f 103) 12 [.tmp 2] (c103 I)) (t : Tab h bt) (r : Rel3 P Y I h bt) (s : Stk I n h bs bt k wh ended itv tmv) (hk : k ≤ 65536) :
    CW P Y (I.f 406) [.ptr (some (bs, 0)), .int .i64 0] none h (fun q => q = .ret (.bool true) none h) := by
  refine CW_ic H (Nat.le_of_ble_eq_true rfl) ?_
  unfold c406
  have l0 : load1 h bs 0 = some (.ptr (some (bt, 0))) := by rw [s.own.load1]; rfl
  simp only [zaa, zac, zaf, zai, zaj, zak, zal, zam, zaq, zax, zay, zbi, zbl, zbm, Nat.reduceAdd, Nat.zero_add, a_v, zdp]
  refine s_loop (fun kk st => ∃ F, kk = 0 ∧ st = ⟨F, [], none, h⟩ ∧ gt F 0 = .ptr (some (bs, 0)) ∧ gt F 1 = .int .i64 0) 0 ⟨_, rfl, rfl, by simp only [zbk, Nat.reduceEqDiff, if_true, if_false], by simp only [zbk, Nat.reduceEqDiff, if_true, if_false]⟩ ?_
  rintro kk _ ⟨F, rfl, rfl, g0, g1⟩
  have hr : CW P Y (I.f 104) [.ptr (some (bt, 0)), .int .i64 (if k = 0 then 2 else 0), .int .i64 0] none h (fun q => q = .ret (.int .i64 1) none h) := by
    by_cases h0 : k = 0
    · rw [if_pos h0]; exact r.r20
    · rw [if_neg h0]; exact r.r00
  simp only [zaa, zac, zaf, zaj, zal, zam, zaq, zas, zax, zbi, zbk, List.map_cons, List.map_nil, a_t, a_v, zdp, zet, if_true, g0]
  refine (term_ok H5 HT t s hk).mono fun q hq => ?_
  generalize hz : (if k = 0 then (2 : Int) else 0) = z at hq hr
  have d1 : ((1 : Int) == 0) = false := rfl
  have d2 : ((1 : Int) == 3) = false := rfl
  generalize hok : (wh || decide (k ≠ 0)) = ok at hq
  cases ok with
  | false =>
    simp only [hq, zaa, zac, zae, zah, zai, zaj, zak, zal, zam, zao, zaq, zav, zax, zay, zaz, zbd, zbi, zbk, Nat.reduceEqDiff, zcp, Bool.not_false, List.getElem?_cons_zero, List.getElem?_cons_succ, r_1, a_t, a_v, zdo, zdp, zdw, zex, zey, if_true, if_false]
  | true =>
    simp only [hq, zaa, zab, zac, zae, zai, zaj, zak, zal, zam, zap, zaq, zas, zav, zax, zay, zbi, zbk, List.map_cons, List.map_nil, Nat.reduceEqDiff, zcp, Bool.not_true, List.getElem?_cons_zero, List.getElem?_cons_succ, Nat.add_zero, a_t, zdo, zdp, zdw, zeb, zec, zef, zeg, zet, zex, zey, if_true, if_false, zgm, zgn, zgm, zgn, l0, g0, g1]
    refine hr.mono fun q hq => ?_
    simp only [hq, zaa, zab, zac, zae, zaf, zag, zah, zai, zaj, zak, zal, zam, zap, zaq, zas, zav, zax, zay, zaz, zba, zbc, zbd, zbe, zbi, zbk, List.map_cons, List.map_nil, Nat.reduceEqDiff, Option.map_some, zcq, zcu, r_1, a_t, a_v, zdo, zdp, zdu, zet, if_true, if_false, zgm, d1, d2]
theorem lay_ok (H : FnIs P Y (I.f 404) 50 [.tmp 4] (c404 I)) (HR : FnIs P Y (I.f 406) 68 [.tmp 4] (c406 I)) (H5 : FnIs P Y (I.f 546) 44 [.tmp 4, .tmp 5] (c546 I)) (HT : FnIs P Y (I.f 103) 12 [.tmp 2] (c103 I)) (T3 : TyIs P (I.t 3) 1 8 [.int .i64 0]) (T197 : TyIs P (I.t 197) 4 32 [.int .i64 0, .int .i64 0, .int .i64 0, .int .i64 0])
    (t : Tab h bt) (r : Rel3 P Y I h bt) (s : Stk I n h bs bt k wh ended itv tmv) (hk : k < 65536) :
    CW P Y (I.f 404) [.ptr (some (bs, 0)), .int .i64 0] none h (fun q => ∃ h' itv' tmv', Keep bs h h' ∧ (∀ b, bs < b → b < n → h'.get b = h.get b) ∧ Stk I n h' bs bt (k + 1) wh ended itv' tmv' ∧ q = .ret (.bool true) none h') := by
  refine CW_ic H (Nat.le_of_ble_eq_true rfl) ?_
  unfold c404
  have hi : ∃ a c, itv = .slice a k c := by
    rcases s.it.is with ⟨rfl, h2⟩ | ⟨b, k', rfl, h2, _⟩
    · have := itsC_len k
      rw [h2] at this
      simp only [List.length_nil] at this
      obtain rfl : k = 0 := by omega
      exact ⟨_, _, rfl⟩
    · rw [itsC_len] at h2
      obtain rfl : k' = k := by omega
      exact ⟨_, _, rfl⟩
  obtain ⟨ia, ic, rfl⟩ := hi
  have l7 : load1 h bs 7 = some tmv := by rw [s.own.load1]; rfl
  have l6 : load1 h bs 6 = some (.slice ia k ic) := by rw [s.own.load1]; rfl
  simp only [zaa, zac, zai, zaj, zak, zal, zam, zaq, zas, zax, zay, zbi, zbk, List.map_cons, List.map_nil, zbl, zbm, Nat.reduceEqDiff, Nat.reduceAdd, Nat.zero_add, a_t, a_v, zdp, zet, if_true, if_false]
  refine (ready_ok HR H5 HT t r s (by omega)).mono fun q hq => ?_
  have f1 : fillV (reps 1 [V.int .i64 0]) [(0, 1, .int .i64 k)] = some [.int .i64 k] := rfl
  have g1 := Grow.new h (newBlk [.int .i64 k] (I.t 3))
  have o1 := Own.of_new h [.int .i64 k] (I.t 3)
  have n1 : (h.new (newBlk [.int .i64 k] (I.t 3))).next = h.next + 1 := rfl
  generalize hh1 : h.new (newBlk [.int .i64 k] (I.t 3)) = h1 at g1 o1 n1
  have nx := s.nx
  have lw := s.low
  obtain ⟨h2, happ, m1, m2, m3, m4, m5⟩ := app_ok2 T3 (by omega) (s.tm.grow g1) (by omega) (src_own o1 rfl (by omega)) rfl (by omega) rfl (k := k) (by rw [tmsC_len]; omega) (by omega) (by omega)
  have hbs : ∀ b, tmv = .slice (some (b, 0)) k (.tl 0) → bs ≠ b := fun b e => by
    subst e
    rcases s.tm.is with ⟨h0, _⟩ | ⟨b', k', h0, _, _, h4, _⟩
    · cases h0
    · cases h0
      omega
  have own2 : Own h2 bs (stkC bt k wh ended false (.slice ia k ic) tmv) (I.t 491) := ⟨(m2.get bs lw).trans ((g1.get bs (by omega)).trans s.own.is), by omega⟩
  have it2 : Lst n h2 (.slice ia k ic) (itsC k) 4 (I.t 197) := by
    rcases s.it.is with ⟨h0, h00⟩ | ⟨b, k', h0, h00, h3, h4, h5⟩
    · exact ⟨.inl ⟨h0, h00⟩⟩
    · refine ⟨.inr ⟨b, k', h0, h00, ?_, h4, by omega⟩⟩
      rw [m3 b (by omega) fun b' e => ?_, g1.get b h5, h3]
      exact s.apart b b' _ _ _ _ _ _ h0 e
  have hn2 : h2.next = h.next + 2 := by omega
  have hs2 : storeL h2 bs 7 [.slice (some (h1.next, 0)) (k + 1) (.tl 0)] = some (h2.put bs (newBlk (stkC bt k wh ended false (.slice ia k ic) (.slice (some (h1.next, 0)) (k + 1) (.tl 0))) (I.t 491))) := own2.storeL 7 _ (by simp) (by simp [stkC]) rfl
  have own3 := own2.put (stkC bt k wh ended false (.slice ia k ic) (.slice (some (h1.next, 0)) (k + 1) (.tl 0)))
  have it3 := it2.put lw (newBlk (stkC bt k wh ended false (.slice ia k ic) (.slice (some (h1.next, 0)) (k + 1) (.tl 0))) (I.t 491))
  have tm3 := m1.put lw (newBlk (stkC bt k wh ended false (.slice ia k ic) (.slice (some (h1.next, 0)) (k + 1) (.tl 0))) (I.t 491))
  have n3 : (h2.put bs (newBlk (stkC bt k wh ended false (.slice ia k ic) (.slice (some (h1.next, 0)) (k + 1) (.tl 0))) (I.t 491))).next = h2.next := rfl
  have k3 : ∀ b, b ≠ bs → (h2.put bs (newBlk (stkC bt k wh ended false (.slice ia k ic) (.slice (some (h1.next, 0)) (k + 1) (.tl 0))) (I.t 491))).get b = h2.get b := fun b hb => get_put_ne _ (Ne.symm hb)
  generalize hh3 : h2.put bs (newBlk (stkC bt k wh ended false (.slice ia k ic) (.slice (some (h1.next, 0)) (k + 1) (.tl 0))) (I.t 491)) = h3 at hs2 own3 it3 tm3 n3 k3
  have l0 : load1 h3 bs 2 = some (.int .i64 k) := by rw [own3.load1]; rfl
  have l63 : load1 h3 bs 6 = some (.slice ia k ic) := by rw [own3.load1]; rfl
  have w1 : IntKind.i64.wrap ((k : Int) + 1) = ((k + 1 : Nat) : Int) := by rw [wrap_i64 (by omega) (by omega)]; rfl
  have f2 : fillV [V.int .i64 0, .int .i64 0, .int .i64 0, .int .i64 0] [(0, 1, .int .i64 0), (1, 1, .int .i64 (-1)), (2, 1, .int .i64 k), (3, 1, .int .i64 ((k + 1 : Nat) : Int))] = some (itC k) := rfl
  have f3 : fillV (reps 1 [V.int .i64 0, .int .i64 0, .int .i64 0, .int .i64 0]) [(0, 4, .agg (itC k))] = some (itC k) := rfl
  have g4 := Grow.new h3 (newBlk (itC k) (I.t 197))
  have o4 := Own.of_new h3 (itC k) (I.t 197)
  have n4 : (h3.new (newBlk (itC k) (I.t 197))).next = h3.next + 1 := rfl
  generalize hh4 : h3.new (newBlk (itC k) (I.t 197)) = h4 at g4 o4 n4
  obtain ⟨h5, happ5, p1, p2, p3, p4, p5⟩ := app_ok2 T197 (by omega) (it3.grow g4) (by omega) (src_own o4 rfl (by omega)) rfl (by omega) rfl (k := k) (by rw [itsC_len]) (by omega) (by omega)
  have own5 : Own h5 bs (stkC bt k wh ended false (.slice ia k ic) (.slice (some (h1.next, 0)) (k + 1) (.tl 0))) (I.t 491) := ⟨(p2.get bs lw).trans ((g4.get bs (by omega)).trans own3.is), by omega⟩
  have tm5 : Lst n h5 (.slice (some (h1.next, 0)) (k + 1) (.tl 0)) (tmsC (k + 1)) 1 (I.t 3) := by
    rw [tmsC_succ]
    rcases tm3.is with ⟨h0, _⟩ | ⟨b, k', h0, h00, h33, h44, h55⟩
    · cases h0
    · cases h0
      refine ⟨.inr ⟨_, _, rfl, h00, ?_, h44, by omega⟩⟩
      rw [p3 _ (by omega) fun b' e => ?_, g4.get _ h55, h33]
      intro e2
      subst e2
      rcases s.it.is with ⟨z0, _⟩ | ⟨b2, _, z0, _, _, _, z5⟩
      · rw [e] at z0; cases z0
      · rw [e] at z0
        cases z0
        omega
  have hs5 : storeL h5 bs 6 [.slice (some (h4.next, 0)) (k + 1) (.tl 0)] = some (h5.put bs (newBlk (stkC bt k wh ended false (.slice (some (h4.next, 0)) (k + 1) (.tl 0)) (.slice (some (h1.next, 0)) (k + 1) (.tl 0))) (I.t 491))) := own5.storeL 6 _ (by simp) (by simp [stkC]) rfl
  have own6 := own5.put (stkC bt k wh ended false (.slice (some (h4.next, 0)) (k + 1) (.tl 0)) (.slice (some (h1.next, 0)) (k + 1) (.tl 0)))
  have it6 := p1.put lw (newBlk (stkC bt k wh ended false (.slice (some (h4.next, 0)) (k + 1) (.tl 0)) (.slice (some (h1.next, 0)) (k + 1) (.tl 0))) (I.t 491))
  have tm6 := tm5.put lw (newBlk (stkC bt k wh ended false (.slice (some (h4.next, 0)) (k + 1) (.tl 0)) (.slice (some (h1.next, 0)) (k + 1) (.tl 0))) (I.t 491))
  have n6 : (h5.put bs (newBlk (stkC bt k wh ended false (.slice (some (h4.next, 0)) (k + 1) (.tl 0)) (.slice (some (h1.next, 0)) (k + 1) (.tl 0))) (I.t 491))).next = h5.next := rfl
  have k6 : ∀ b, b ≠ bs → (h5.put bs (newBlk (stkC bt k wh ended false (.slice (some (h4.next, 0)) (k + 1) (.tl 0)) (.slice (some (h1.next, 0)) (k + 1) (.tl 0))) (I.t 491))).get b = h5.get b := fun b hb => get_put_ne _ (Ne.symm hb)
  generalize hh6 : h5.put bs (newBlk (stkC bt k wh ended false (.slice (some (h4.next, 0)) (k + 1) (.tl 0)) (.slice (some (h1.next, 0)) (k + 1) (.tl 0))) (I.t 491)) = h6 at hs5 own6 it6 tm6 n6 k6
  have l2 : load1 h6 bs 2 = some (.int .i64 k) := by rw [own6.load1]; rfl
  have hs6 : storeL h6 bs 2 [.int .i64 ((k + 1 : Nat) : Int)] = some (h6.put bs (newBlk (stkC bt (k + 1) wh ended false (.slice (some (h4.next, 0)) (k + 1) (.tl 0)) (.slice (some (h1.next, 0)) (k + 1) (.tl 0))) (I.t 491))) := own6.storeL 2 _ (by simp) (by simp [stkC]) rfl
  simp only [hq, zaa, zab, zac, zad, zae, zah, zai, zaj, zak, zal, zam, zap, zaq, zar, zav, zax, zay, zbg, zbi, zbj, zbk, List.map_cons, List.map_nil, Nat.reduceEqDiff, Option.map_some, zbp, zbt, zch, zcp, Bool.not_true, Nat.zero_add, r_1, Nat.mul_one, Nat.zero_mul, a_t, a_v, zdo, zdp, zdt, zdw, zeb, zec, zef, zeg, zej, zek, zel, zeo, zep, zez, zfh, zfi, if_true, if_false, List.length_cons, List.length_nil, zgm, zgn, zgm, zgn, l7, l6, f1, hh1, happ, hs2, l0, l63, w1, f2, f3, hh4, happ5, hs5, l2, hs6]
  refine ⟨_, .slice (some (h4.next, 0)) (k + 1) (.tl 0), .slice (some (h1.next, 0)) (k + 1) (.tl 0), ⟨by rw [next_put]; omega, fun b hb => ?_⟩, fun b hb1 hb2 => ?_, ⟨fun b c i j i' j' x y e1 e2 => ?_, own6.put _, lw, by rw [next_put]; omega, ?_, tm6.put lw _⟩, rfl⟩
  · rw [get_put_ne _ (by omega), k6 b (by omega), p2.get b (by omega), g4.get b (by omega), k3 b (by omega), m2.get b (by omega), g1.get b (by omega)]
  · rw [get_put_ne _ (by omega), k6 b (by omega), p2.get b (by omega), g4.get b (by omega), k3 b (by omega), m2.get b (by omega), g1.get b (by omega)]
  · cases e1
    cases e2
    omega
  · rw [itsC_succ]
    exact it6.put lw _
theorem shift_ok (HS : FnIs P Y (I.f 176) 47 [.tmp 4] (c176 I)) (H : FnIs P Y (I.f 404) 50 [.tmp 4] (c404 I)) (HR : FnIs P Y (I.f 406) 68 [.tmp 4] (c406 I)) (H5 : FnIs P Y (I.f 546) 44 [.tmp 4, .tmp 5] (c546 I)) (HT : FnIs P Y (I.f 103) 12 [.tmp 2] (c103 I)) (T3 : TyIs P (I.t 3) 1 8 [.int .i64 0]) (T197 : TyIs P (I.t 197) 4 32 [.int .i64 0, .int .i64 0, .int .i64 0, .int .i64 0])
    (t : Tab h bt) (r : Rel3 P Y I h bt) (s : Stk I n h bs bt k wh false itv tmv) (hk : k < 65536) :
    CW P Y (I.f 176) [.ptr (some (bs, 0)), .int .i64 0] none h (fun q => ∃ h' itv' tmv', Keep bs h h' ∧ (∀ b, bs < b → b < n → h'.get b = h.get b) ∧ Stk I n h' bs bt (k + 1) wh false itv' tmv' ∧ q = .ret .nilIface none h') := by
  refine CW_ic HS (Nat.le_of_ble_eq_true rfl) ?_
  unfold c176
  have l4 : load1 h bs 4 = some (.bool false) := by rw [s.own.load1]; rfl
  have l0 : load1 h bs 0 = some (.ptr (some (bt, 0))) := by rw [s.own.load1]; rfl
  have l5 : load1 h bs 5 = some (.bool false) := by rw [s.own.load1]; rfl
  have l2 : load1 h bs 2 = some (.int .i64 k) := by rw [s.own.load1]; rfl
  have d1 : decide ((0 : Int) < 0) = false := rfl
  have d2 : decide ((0 : Int) ≥ 2) = false := rfl
  have d3 : ((k : Int) == 65536) = false := bq_ne (by omega)
  simp only [zaa, zac, zaf, zai, zaj, zak, zal, zam, zaq, zas, zax, zay, zbi, zbk, List.map_cons, List.map_nil, zbl, zbm, Nat.reduceEqDiff, Option.map_some, Nat.reduceAdd, zck, zcu, zcy, Nat.zero_add, Nat.add_zero, zdb, zdc, zdd, a_t, a_v, zdo, zdp, zdq, zds, zdt, zdv, zeb, zec, zef, zeg, zet, if_true, if_false, zgm, zgn, zgm, zgn, l4, l0, d1]
  refine (terms_ok HT t).mono fun q hq => ?_
  simp only [hq, zaa, zac, zae, zai, zaj, zak, zal, zam, zap, zaq, zas, zav, zax, zay, zbi, zbk, List.map_cons, List.map_nil, Nat.reduceEqDiff, Option.map_some, zcn, zcq, zcu, Nat.zero_add, zdb, zdc, zdd, a_t, a_v, zdo, zdp, zdq, zds, zdt, zdu, zeb, zec, zef, zeg, zet, if_true, if_false, zgm, zgn, zgm, zgn, l5, l2, d2, d3]
  refine (lay_ok H HR H5 HT T3 T197 t r s hk).mono fun q hq => ?_
  obtain ⟨h', itv', tmv', k1, k2, k3, hq⟩ := hq
  simp only [hq, zaa, zab, zac, zae, zah, zai, zaj, zak, zal, zam, zap, zaq, zav, zax, zay, zbc, zbi, zbk, Nat.reduceEqDiff, zcp, Bool.not_true, r_1, a_t, a_v, zdo, zdp, zdw, if_true, if_false]
  exact ⟨h', itv', tmv', k1, k2, k3, rfl⟩
end
end Go.Vm
/- parse.run and parse.Parse at 65536 as. -/
namespace Go.Vm
variable {P : Program} {Y : Fns} {I : Ids}
end Go.Vm
