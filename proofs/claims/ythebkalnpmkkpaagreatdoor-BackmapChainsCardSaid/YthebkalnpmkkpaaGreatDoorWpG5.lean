/- Lists that grow. -/
import Derived.Test.YthebkalnpmkkpaaGreatDoorWpUtil
import Derived.Test.YthebkalnpmkkpaaGreatDoorWpG4
set_option linter.unusedVariables false
set_option linter.unusedSimpArgs false
namespace Go.Vm
variable {P : Program} {Y : Fns}
/-- A type's size, bytes, zero. -/
structure TyIs (P : Program) (t sz bytes : Nat) (z : List V) : Prop where
  size : sizeT P t = sz
  bytes : ((P.info? t).map (·.bytes)).getD 0 = bytes
  zero : zeroT P t = some z
  len : z.length = sz
def ambB (l : List V) (e : Nat) : Ob := .cells { l, elem := e, exact := false, rw := true, frz := (0, 0) }
/-- A list on its way: none yet, or a block of one's own from number n on. -/
structure Lst (n : Nat) (h : Hp) (v : V) (l : List V) (w e : Nat) : Prop where
  is : (v = .slice none 0 (.ex 0) ∧ l = []) ∨ ∃ b k, v = .slice (some (b, 0)) k (.tl 0) ∧ l.length = k * w ∧ h.get b = some (ambB l e) ∧ n ≤ b ∧ b < h.next
theorem Lst.nil (n : Nat) (h : Hp) (w e : Nat) : Lst n h (.slice none 0 (.ex 0)) [] w e := ⟨.inl ⟨rfl, rfl⟩⟩
/-- What is not the list's own stays. -/
theorem Lst.mono {n : Nat} {h h' : Hp} {v : V} {l : List V} {w e : Nat} (s : Lst n h v l w e) (hn : h.next ≤ h'.next) (hk : ∀ b, n ≤ b → b < h.next → h'.get b = h.get b) : Lst n h' v l w e := by
  rcases s.is with ⟨h1, h2⟩ | ⟨b, k, h1, h2, h3, h4, h5⟩
  · exact ⟨.inl ⟨h1, h2⟩⟩
  · exact ⟨.inr ⟨b, k, h1, h2, (hk b h4 h5).trans h3, h4, Nat.lt_of_lt_of_le h5 hn⟩⟩
theorem Lst.grow {n : Nat} {h h' : Hp} {v : V} {l : List V} {w e : Nat} (s : Lst n h v l w e) (g : Grow h h') : Lst n h' v l w e := s.mono g.next fun b _ hb => g.get b hb
theorem Lst.put {n c : Nat} {h : Hp} {v : V} {l : List V} {w e : Nat} (s : Lst n h v l w e) (hc : c < n) (ob : Ob) : Lst n (h.put c ob) v l w e := s.mono (Nat.le_refl _) fun b hb _ => get_put_ne ob (by omega)
/-- Some elements more. -/
theorem app_ok {e w bytes : Nat} {z : List V} (T : TyIs P e w bytes z) (hw : w ≠ 0) {n : Nat} {h : Hp} {v : V} {l : List V} (s : Lst n h v l w e) (hn : n ≤ h.next) {y : V} {new : List V} {m : Nat} (hy : srcCells h w y = some (m, new)) (hm : new.length = m * w) (h0 : m ≠ 0)
    (hc : new.all V.isCell = true) {k : Nat} (hk : l.length = k * w) (hb : 2 * (k + m) * bytes ≤ 281474976710656) (hb2 : k + m ≤ 4611686018427387904) :
    ∃ v' h', appV P h e w v y = .val v' h' ∧ Lst n h' v' (l ++ new) w e ∧ Keep n h h' ∧ (∀ c, c < h.next → (∀ b, v ≠ .slice (some (b, 0)) k (.tl 0) ∨ c ≠ b) → h'.get c = h.get c) ∧ ∃ b, v' = .slice (some (b, 0)) (k + m) (.tl 0) := by
  have guard : (decide (2 * (k + m) * ((P.info? e).map (·.bytes)).getD 0 > 2 ^ 48) || decide (k + m > 2 ^ 62) || !((zeroT P e).any fun z => decide (z.length = sizeT P e))) = false := by
    rw [T.bytes, T.zero, T.size]
    simp [T.len]
    omega
  rcases s.is with ⟨rfl, rfl⟩ | ⟨b, k', rfl, h2, h3, h4, h5⟩
  · obtain rfl : k = 0 := by
      have : k * w = 0 := by rw [← hk]; rfl
      rcases Nat.mul_eq_zero.1 this with h | h
      · exact h
      · exact absurd h hw
    refine ⟨.slice (some (h.next, 0)) (0 + m) (.tl 0), h.new (ambB new e), ?_, ⟨.inr ⟨h.next, 0 + m, rfl, by simp [hm], get_new_same _ _, hn, Nat.lt_succ_self _⟩⟩, (Grow.new _ _).keep hn, fun c hcc _ => get_new _ hcc, h.next, rfl⟩
    unfold appV
    simp only [hy]
    unfold appendV
    simp only [guard, Bool.false_eq_true, if_false]
    rw [if_neg (by omega), if_pos (by simp [hc])]
    rfl
  · obtain rfl : k' = k := by
      have : k' * w = k * w := by rw [← h2, hk]
      exact Nat.eq_of_mul_eq_mul_right (Nat.pos_of_ne_zero hw) this
    have hne : b ≠ h.next := by omega
    refine ⟨.slice (some (h.next, 0)) (k' + m) (.tl 0), (h.put b .dead).new (ambB (l ++ new) e), ?_, ⟨.inr ⟨h.next, k' + m, rfl, by simp [h2, hm, Nat.add_mul], get_new_same _ _, hn, Nat.lt_succ_self _⟩⟩, ⟨Nat.le_succ _, fun c hcc => ?_⟩, fun c hcc hne2 => ?_, h.next, rfl⟩
    · unfold appV
      simp only [hy]
      unfold appendV
      simp only [guard, Bool.false_eq_true, if_false]
      rw [if_neg h0, h3]
      simp only [ambB, T.size]
      rw [if_neg (by simp [hw]), if_neg (by rw [h2, Nat.add_mul]; have : 0 < m * w := Nat.mul_pos (Nat.pos_of_ne_zero h0) (Nat.pos_of_ne_zero hw); omega), if_pos (by simp [h2, hc])]
      simp only [List.drop_zero, Nat.sub_zero, h2.symm, List.take_length]
    · rw [get_new _ (by show c < h.next; omega), get_put_ne _ (by omega)]
    · rw [get_new _ (by show c < h.next; omega), get_put_ne]
      rcases hne2 b with h | h
      · exact absurd rfl h
      · exact fun e => h e.symm
end Go.Vm
/- What backmap.Chain comes to. -/
namespace Go.Vm
open Ch
variable {P : Program} {Y : Fns} {I : Ids}
theorem clip_ok (H : FnIs P Y (I.f 334) 9 [.tmp 2] (c334 I)) {h : Hp} (a : Option (Nat × Nat)) (n : Nat) (c : Cap) :
    CW P Y (I.f 334) [.slice a n c] none h (fun q => q = .ret (.slice a n (.ex n)) none h) := by
  refine CW_ic H (Nat.le_of_ble_eq_true rfl) ?_
  unfold c334
  have e1 : decide (n ≤ n) = true := by simp
  simp only [zaa, zac, zah, zai, zaj, zak, zal, zam, zaq, zax, zay, zbi, zbk, zbl, zbm, Nat.reduceEqDiff, Option.map_some, Bool.and_self, Nat.zero_add, Nat.add_zero, r_1, Nat.mul_one, zdj, Option.getD_none, Option.getD_some, Nat.zero_le, decide_true, Nat.sub_zero, Option.isSome_some, a_t, a_v, zdp, zeo, zep, zez, zfb, zfc, zfd, if_true, if_false, e1]
  cases a <;> rfl
theorem flat_iv : ∀ li : List Int, (li.map fun n => [iv n]).flatten = li.map iv
  | [] => rfl
  | x :: li => by simp [flat_iv li]
theorem Lst.ints {n : Nat} {h : Hp} {v : V} {li : List Int} {e : Nat} (s : Lst n h v (li.map iv) 1 e) : ∃ a c, v = .slice a li.length c ∧ Ints h a li := by
  rcases s.is with ⟨rfl, h2⟩ | ⟨b, k, rfl, h2, h3, h4, h5⟩
  · obtain rfl : li = [] := by simpa using h2
    exact ⟨none, .ex 0, rfl, ⟨by simp, .inl rfl⟩⟩
  · refine ⟨some (b, 0), .tl 0, ?_, ⟨by simp, .inr ⟨b, 0, rfl, ⟨⟨_, h3, ?_, ?_⟩, h5⟩⟩⟩⟩
    · simp only [List.length_map, Nat.mul_one] at h2; rw [h2]
    · rw [flat_iv]; simp []
    · rw [flat_iv]; show (List.drop 0 (li.map iv)).take _ = _; rw [List.drop_zero, List.take_length]
def fv (far : List Nat) : List V := far.map fun (d : Nat) => V.int .i64 (d : Int)
theorem fv_len (far : List Nat) : (fv far).length = far.length := by simp [fv]
theorem getF {far : List Nat} {i : Nat} (hi : i < far.length) : (fv far)[i]? = some (.int .i64 (far.getD i 0 : Nat)) := by
  unfold fv
  rw [List.getElem?_map, List.getD_eq_getElem?_getD, List.getElem?_eq_getElem hi]; rfl
theorem setF (far : List Nat) (i d : Nat) : (fv far).set i (.int .i64 (d : Int)) = fv (far.set i d) := by
  unfold fv; rw [List.map_set]
/-- The condition by which a chain's next rule is chosen. -/
def nextB (far : List Nat) (x : Nat) (r : GRule) : Bool := match ren r with
  | some m => decide (r.left = (x : Int)) && decide (far.getD m.toNat 0 + 1 = far.getD x 0)
  | none => false
theorem chain1_ok (H : FnIs P Y (I.f 373) 31 [.tmp 4] (c373 I)) (Hn : FnIs P Y (I.f 142) 20 [.tmp 2, .tmp 3] (c142 I)) {h : Hp} {row : List V} {r : GRule} (hr : RuleC h row r) (hB : ∀ s ∈ r.right, -9223372036854775808 ≤ s)
    {bx bf bb : Nat} {e1 e2 e3 : Nat} {x : Nat} {far : List Nat} (o1 : Own h bx [.int .i64 x] e1) (o2 : Own h bb [.slice (some (bf, 0)) far.length (.ex far.length)] e2) (o3 : Own h bf (fv far) e3) (hx : x < far.length) (hp : 0 < far.getD x 0) (hf : far.getD x 0 < 9223372036854775807)
    (hm : ∀ m, ren r = some m → 0 ≤ m ∧ m.toNat < far.length) :
    Gives P Y (I.f 373) [.agg row, .ptr (some (bx, 0)), .ptr (some (bb, 0))] h (.bool (nextB far x r)) := by
  refine CW_ic H (Nat.le_of_ble_eq_true rfl) ?_
  have hr0 := hr
  obtain ⟨a, c, rfl, ha⟩ := hr
  unfold c373
  have g1 := Grow.new h (newBlk [.int .i64 r.left, .slice a r.right.length c] (I.t 101))
  have ob := Own.of_new h [.int .i64 r.left, .slice a r.right.length c] (I.t 101)
  generalize hh1 : h.new (newBlk [.int .i64 r.left, .slice a r.right.length c] (I.t 101)) = h1 at g1 ob
  have l1 := ob.loadL 0 2
  simp only [List.length_cons, List.length_nil, Nat.reduceAdd, Nat.reduceLeDiff, if_true, List.drop_zero, List.take_succ_cons, List.take_zero] at l1
  simp only [zaa, zac, zai, zaj, zak, zal, zam, zaq, zas, zax, zay, zbi, zbk, List.map_cons, List.map_nil, zbl, zbm, Nat.reduceEqDiff, Option.map_some, Nat.reduceAdd, zbn, zbo, zby, zcc, List.all_cons, List.all_nil, Bool.and_self, Nat.zero_add, a_t, a_v, zdo, zdp, zeh, zei, zen, zes, if_true, if_false, hh1, l1]
  refine (ren_ok Hn (hr0.grow g1) hB).mono ?_
  rintro _ ⟨h2, g2, rfl⟩
  have o1 := o1.grow (g1.trans g2)
  have o2 := o2.grow (g1.trans g2)
  have o3 := o3.grow (g1.trans g2)
  have ob := ob.grow g2
  cases hmr : ren r with
  | none =>
    have hb : nextB far x r = false := by unfold nextB; rw [hmr]
    simp only [zaa, zad, zah, zai, zaj, zak, zal, zam, zan, zaq, zav, zax, zay, zbg, zbi, zbk, Nat.reduceEqDiff, zbn, List.getElem?_cons_zero, List.getElem?_cons_succ, zdb, zdc, zde, r_1, Option.getD_none, Option.isSome_none, a_t, a_v, zdo, zdp, zdq, zds, zew, zex, if_true, if_false, Option.getD_none, Option.isSome_none]
    exact ⟨h2, g1.trans g2, by rw [hb]⟩
  | some m =>
    obtain ⟨hm0, hml⟩ := hm m hmr
    by_cases hl : r.left = (x : Int)
    · have d1 : (r.left == (x : Int)) = true := bq_eq hl
      have d2 : decide ((x : Int) < (far.length : Int)) = true := by simp; omega
      have d3 : decide (0 ≤ m) = true := by simp; omega
      have d4 : decide (m < (far.length : Int)) = true := by simp; omega
      have u1 := getF (far := far) (i := x) hx
      have u2 := getF (far := far) (i := m.toNat) hml
      have w1 : IntKind.i64.wrap (((far.getD x 0 : Nat) : Int) - 1) = ((far.getD x 0 : Nat) : Int) - 1 := wrap_i64 (by omega) (by omega)
      have hb : nextB far x r = (((far.getD m.toNat 0 : Nat) : Int) == ((far.getD x 0 : Nat) : Int) - 1) := by
        unfold nextB
        rw [hmr]
        rw [Bool.eq_iff_iff]
        simp [hl]
        omega
      simp only [zaa, zad, zah, zai, zaj, zak, zal, zam, zaq, zav, zax, zay, zbg, zbi, zbk, Nat.reduceEqDiff, Option.map_some, zbn, zci, zcq, zcu, Bool.and_self, List.getElem?_cons_zero, List.getElem?_cons_succ, Nat.zero_add, Nat.add_zero, zdb, zdc, zdg, r_1, Nat.mul_one, Int.toNat_natCast, zdh, Option.getD_some, Option.isSome_some, a_t, a_v, zdo, zdp, zdq, zdr, zdt, zdu, zeb, zec, zed, zee, zef, zeg, zew, zex, if_true, if_false, Option.getD_some, Option.isSome_some, ob.load1, o1.load1, o2.load1, o3.load1, d1, d2, d3, d4, u1, u2, w1]
      exact ⟨h2, g1.trans g2, by rw [hb]⟩
    · have d1 : (r.left == (x : Int)) = false := bq_ne hl
      have hb : nextB far x r = false := by unfold nextB; rw [hmr]; simp [hl]
      simp only [zaa, zad, zah, zai, zaj, zak, zal, zam, zan, zaq, zav, zax, zay, zbg, zbi, zbk, Nat.reduceEqDiff, Option.map_some, zbn, zcq, zcu, List.getElem?_cons_zero, List.getElem?_cons_succ, Nat.add_zero, zdb, zdc, zde, zdg, r_1, Option.getD_some, Option.isSome_some, a_t, a_v, zdo, zdp, zdq, zdr, zds, zdu, zeb, zec, zef, zeg, zew, zex, if_true, if_false, Option.getD_some, Option.isSome_some, ob.load1, o1.load1, d1]
      exact ⟨h2, g1.trans g2, by rw [hb]⟩
end Go.Vm
