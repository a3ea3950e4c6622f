/- Lists of rows that were handed out, written full and gone on with: they share no memory. -/
import Derived.Test.YtaccdnpmoghidaaGreatDoorWpK4
import Derived.Test.YtaccdnpmoghidaaGreatDoorWpF6
set_option linter.unusedVariables false
set_option linter.unusedSimpArgs false
namespace Go.Vm
variable {P : Program} {Y : Fns} {I : Ids}
/-- A list that was handed out: its block, how many rows. -/
abbrev Out := Option Nat × Nat
def outV (x : Out) : V := .slice (x.1.map fun b => (b, 0)) x.2 (.ex x.2)
def mk1 (i r : Nat) : Int := wr (wr (1000 * (i : Int)) + (r : Int))
def mk2 (i r : Nat) : Int := wr (wr (500000 + wr (1000 * (i : Int))) + (r : Int))
/-- The lists' blocks: apart, each of one's own; rows that were written already. -/
structure Outs (k e : Nat) (A : List Out) (n : Nat) (h : Hp) (D : Nat → Nat → Prop) : Prop where
  ap : ∀ (i j b m m' : Nat), A[i]? = some (some b, m) → A[j]? = some (some b, m') → i = j
  none : ∀ (i m : Nat), A[i]? = some (none, m) → m = 0
  is : ∀ (i b m : Nat), A[i]? = some (some b, m) → b < n ∧ ∃ ex L, OwnX ex h b L e ∧ L.length = m * k ∧ ∀ r, r < m → D i r → L[r * k]? = some (.int .i64 (mk1 i r))
theorem Outs.mono {k e : Nat} {A : List Out} {n : Nat} {h : Hp} {D D' : Nat → Nat → Prop} (s : Outs k e A n h D) (hd : ∀ (i b m r : Nat), A[i]? = some (some b, m) → r < m → D' i r → D i r) : Outs k e A n h D' :=
  ⟨s.ap, s.none, fun i b m hi => by
    obtain ⟨h0, ex, L, h1, h2, h3⟩ := s.is i b m hi
    exact ⟨h0, ex, L, h1, h2, fun r hr hD => h3 r hr (hd i b m r hi hr hD)⟩⟩
theorem Outs.keep {k e : Nat} {A : List Out} {n : Nat} {h h' : Hp} {D : Nat → Nat → Prop} (s : Outs k e A n h D) (g : Keep n h h') : Outs k e A n h' D :=
  ⟨s.ap, s.none, fun i b m hi => by
    obtain ⟨h0, ex, L, h1, h2, h3⟩ := s.is i b m hi
    exact ⟨h0, ex, L, h1.keep h0 g, h2, h3⟩⟩
/-- A row written. -/
theorem Outs.write {k e : Nat} (hk : k ≠ 0) {A : List Out} {n : Nat} {h : Hp} {D : Nat → Nat → Prop} (s : Outs k e A n h D) {i b m r : Nat} (hi : A[i]? = some (some b, m)) (hr : r < m) {row : List V} (hrow : row.length = k) (h0 : row[0]? = some (.int .i64 (mk1 i r))) (hc : row.all V.isCell = true) :
    ∃ ob, storeL h b (r * k) row = some (h.put b ob) ∧ Outs k e A n (h.put b ob) (fun j q => D j q ∨ (j = i ∧ q = r)) := by
  obtain ⟨hb, ex, L, h1, h2, h3⟩ := s.is i b m hi
  have hle : r * k + k ≤ L.length := by
    rw [h2]
    have : (r + 1) * k ≤ m * k := Nat.mul_le_mul_right _ hr
    rw [Nat.succ_mul] at this
    exact this
  have hrn : row ≠ [] := fun e => by subst e; simp at hrow; omega
  refine ⟨_, h1.storeL (r * k) row hrn (by omega) hc, ⟨s.ap, s.none, fun j b' m' hj => ?_⟩⟩
  by_cases hbb : b = b'
  · subst hbb
    obtain rfl := s.ap i j b m m' hi hj
    rw [hi] at hj
    cases hj
    refine ⟨hb, ex, _, h1.put _, by rw [splice_length (by omega)]; exact h2, fun q hq hD => ?_⟩
    rw [splice_get (by omega)]
    by_cases hqr : q = r
    · subst hqr
      rw [if_pos ⟨Nat.le_refl _, by omega⟩, Nat.sub_self]
      exact h0
    · rw [if_neg ?_]
      · exact h3 q hq (hD.resolve_right fun e => hqr e.2)
      · rintro ⟨k1, k2⟩
        rcases Nat.lt_or_ge q r with hlt | hge
        · have : (q + 1) * k ≤ r * k := Nat.mul_le_mul_right _ hlt
          rw [Nat.succ_mul] at this
          omega
        · have : (r + 1) * k ≤ q * k := Nat.mul_le_mul_right _ (by omega)
          rw [Nat.succ_mul] at this
          omega
  · obtain ⟨hb', ex', L', k1, k2, k3⟩ := s.is j b' m' hj
    refine ⟨hb', ex', L', k1.put_ne _ hbb, k2, fun q hq hD => k3 q hq (hD.resolve_right fun e => ?_)⟩
    obtain ⟨rfl, _⟩ := e
    rw [hi] at hj
    cases hj
    exact hbb rfl
/-- Only the lists' blocks were turned. -/
structure Turned (A : List Out) (h h' : Hp) : Prop where
  next : h'.next = h.next
  get : ∀ c : Nat, (∀ i m : Nat, A[i]? ≠ some (some c, m)) → h'.get c = h.get c
theorem Turned.refl (A : List Out) (h : Hp) : Turned A h h := ⟨rfl, fun _ _ => rfl⟩
theorem Turned.put {A : List Out} {h h' : Hp} (t : Turned A h h') {i b m : Nat} (hi : A[i]? = some (some b, m)) (ob : Ob) : Turned A h (h'.put b ob) :=
  ⟨t.next, fun c hc => (get_put_ne ob (fun e => hc i m (by rw [← e]; exact hi))).trans (t.get c hc)⟩
/-- The list of the lists. -/
structure AllC (h : Hp) (a : Option (Nat × Nat)) (A : List Out) : Prop where
  sl : Sl h 1 a (A.map fun x => [outV x])
  sep : ∀ b o, a = some (b, o) → ∀ i m : Nat, A[i]? ≠ some (some b, m)
theorem AllC.turned {h h' : Hp} {a : Option (Nat × Nat)} {A : List Out} (s : AllC h a A) (t : Turned A h h') : AllC h' a A := by
  refine ⟨⟨s.sl.wid, s.sl.pl.imp id fun ⟨b, o, e, k⟩ => ?_⟩, s.sep⟩
  obtain ⟨⟨x, k1, k2⟩, k3⟩ := k
  exact ⟨b, o, e, ⟨⟨x, (t.get b (s.sep b o e)).trans k1, k2⟩, by rw [t.next]; exact k3⟩⟩
theorem AllC.grow {h h' : Hp} {a : Option (Nat × Nat)} {A : List Out} (s : AllC h a A) (g : Grow h h') : AllC h' a A := ⟨s.sl.grow g, s.sep⟩
theorem AllC.get {h : Hp} {a : Option (Nat × Nat)} {A : List Out} (s : AllC h a A) {i : Nat} (hi : i < A.length) : ∃ b o, a = some (b, o) ∧ load1 h b (o + i) = some (outV A[i]) := by
  obtain ⟨b, o, h1, h2⟩ := s.sl.at (i := i) (by simpa using hi)
  simp only [List.getElem_map] at h2
  have := h2.load1 (i := 0) (by simp)
  exact ⟨b, o, h1, by simpa using this⟩
set_option maxHeartbeats 2000000 in
theorem gA1_ok {k e bytes : Nat} {z : List V} {tl : List Int} (T : RowT P k e bytes z tl) {ctx : Ctx} {h : Hp} {a : Option (Nat × Nat)} {c : Cap} {A : List Out} {n : Nat} (hA : AllC h a A) (hO : Outs k e A n h fun _ _ => False) (hN : A.length ≤ 9223372036854775807) (hm : ∀ x ∈ A, x.2 ≤ 9223372036854775807)
    {F : Frm} (q0 : gt F 0 = .slice a A.length c) (q3 : gt F 3 = .int .i64 0) {Q : X → S → Prop}
    (hQ : ∀ F' h', gt F' 0 = .slice a A.length c → Turned A h h' → Outs k e A n h' (fun _ _ => True) → Q .normal ⟨F', [], none, h'⟩) : IXW P Y ctx (gA1 k z) ⟨F, [], none, h⟩ Q := by
  have hk : k ≠ 0 := by have := T.len; omega
  unfold gA1
  simp only [zaf]
  refine s_loop (fun kk st => ∃ (i : Nat) (F : Frm) (h' : Hp), kk + i = A.length ∧ st = ⟨F, [], none, h'⟩ ∧ gt F 0 = .slice a A.length c ∧ gt F 3 = .int .i64 i ∧ Turned A h h' ∧ Outs k e A n h' (fun j _ => j < i)) A.length
    ⟨0, _, h, rfl, rfl, q0, q3, .refl _ _, hO.mono fun _ _ _ _ _ _ h => by omega⟩ ?_
  clear q0 q3 F
  rintro kk _ ⟨i, F, h1, hkk, rfl, q0, q3, ht, ho⟩
  by_cases hi : i < A.length
  · have d1 : decide ((i : Int) < (A.length : Int)) = true := decide_eq_true (by omega)
    have hAi : A[i]? = some A[i] := List.getElem?_eq_getElem hi
    have hmi := hm A[i] (List.getElem_mem hi)
    simp only [zaa, zab, zac, zae, zaf, zai, zaj, zak, zal, zam, zao, zaq, zax, zay, zbi, zbk, Nat.reduceEqDiff, zck, a_t, a_v, zdo, zdp, zdt, zeo, zep, if_true, if_false, q0, q3, d1]
    refine s_loop (fun jj st => ∃ (r : Nat) (F : Frm) (h' : Hp), jj + r = A[i].2 ∧ st = ⟨F, [], none, h'⟩ ∧ gt F 0 = .slice a A.length c ∧ gt F 3 = .int .i64 i ∧ gt F 4 = .int .i64 r ∧ Turned A h h' ∧ Outs k e A n h' (fun j q => j < i ∨ (j = i ∧ q < r))) A[i].2
      ⟨0, _, h1, rfl, rfl, by simp only [zbk, Nat.reduceEqDiff, if_false, q0], by simp only [zbk, Nat.reduceEqDiff, if_false, q3], by simp only [zbk, Nat.reduceEqDiff, if_true, if_false]; rfl, ht, ho.mono fun _ _ _ _ _ _ h => h.resolve_right fun e => by omega⟩ ?_
    clear q0 q3 F ht ho
    rintro jj _ ⟨r, F, h2, hjj, rfl, q0, q3, q4, ht, ho⟩
    obtain ⟨ba, oa, rfl, hld⟩ := (hA.turned ht).get hi
    unfold outV at hld
    by_cases hr : r < A[i].2
    · have d2 : decide ((r : Int) < (A[i].2 : Int)) = true := decide_eq_true (by omega)
      obtain ⟨b, hb⟩ : ∃ b, A[i].1 = some b := by
        cases hx : A[i].1 with
        | none =>
          have := ho.none i A[i].2 (by rw [hAi, ← hx])
          omega
        | some b => exact ⟨b, rfl⟩
      have hAb : A[i]? = some (some b, A[i].2) := by rw [hAi, ← hb]
      have f1 := T.fill (mk1 i r)
      obtain ⟨ob, hst, ho2⟩ := ho.write hk hAb hr (row := rv (mk1 i r :: tl)) (by rw [rv_len]; exact T.len) rfl (rv_cell _)
      have w1 : IntKind.i64.wrap ((r : Int) + 1) = ((r + 1 : Nat) : Int) := by rw [wrap_i64 (by omega) (by omega)]; rfl
      have hlen : (rv (mk1 i r :: tl)).length = k := by rw [rv_len]; exact T.len
      rw [hb] at hld
      have hmk : IntKind.i64.wrap (IntKind.i64.wrap (1000 * (i : Int)) + (r : Int)) = mk1 i r := rfl
      simp only [zaa, zab, zac, zae, zaf, zai, zaj, zak, zal, zam, zao, zaq, zar, zax, zay, zbc, zbi, zbj, zbk, List.map_cons, List.map_nil, Nat.reduceEqDiff, Option.map_some, zbo, zch, zcj, zck, Bool.and_self, Nat.zero_add, Nat.mul_one, Int.toNat_natCast, zdh, a_t, a_v, zdo, zdp, zdt, zed, zee, zef, zeg, zej, zek, zel, zeo, zep, zey, if_true, if_false, q0, q3, q4, d1, d2, hld, hmk, f1, hst, hlen, w1]
      refine ⟨jj - 1, by omega, r + 1, _, _, by omega, rfl, by simp only [zbk, Nat.reduceEqDiff, if_false, q0], by simp only [zbk, Nat.reduceEqDiff, if_false, q3], by simp only [zbk, Nat.reduceEqDiff, if_true, if_false], ht.put hAb ob, ho2.mono fun j b' m q _ _ h => ?_⟩
      rcases h with h | ⟨h1, h2⟩
      · exact .inl (.inl h)
      · rcases Nat.lt_succ_iff_lt_or_eq.1 h2 with h3 | h3
        · exact .inl (.inr ⟨h1, h3⟩)
        · exact .inr ⟨h1, h3⟩
    · have d2 : decide ((r : Int) < (A[i].2 : Int)) = false := decide_eq_false (by omega)
      have w1 : IntKind.i64.wrap ((i : Int) + 1) = ((i + 1 : Nat) : Int) := by rw [wrap_i64 (by omega) (by omega)]; rfl
      simp only [zaa, zac, zae, zag, zai, zaj, zak, zal, zam, zap, zaq, zax, zay, zba, zbc, zbe, zbi, zbk, Nat.reduceEqDiff, zch, zck, Bool.and_self, Nat.mul_one, Int.toNat_natCast, zdh, a_t, a_v, zdo, zdp, zdt, zed, zee, zef, zeg, zeo, zep, if_true, if_false, q0, q3, q4, d1, d2, hld, w1]
      refine ⟨kk - 1, by omega, i + 1, _, _, by omega, rfl, by simp only [zbk, Nat.reduceEqDiff, if_false, q0], by simp only [zbk, Nat.reduceEqDiff, if_true, if_false], ht, ho.mono fun j b' m q hj hq h => ?_⟩
      rcases Nat.lt_succ_iff_lt_or_eq.1 h with h3 | h3
      · exact .inl h3
      · subst h3
        rw [hAi] at hj
        have e2 : A[j].2 = m := by cases hx : A[j]; rw [hx] at hj; cases hj; rfl
        exact .inr ⟨rfl, by omega⟩
  · have d1 : decide ((i : Int) < (A.length : Int)) = false := decide_eq_false (by omega)
    simp only [zaa, zac, zae, zag, zai, zaj, zak, zal, zam, zap, zaq, zax, zay, zba, zbe, zbi, zbk, Nat.reduceEqDiff, zck, a_t, zdo, zdp, zdt, zeo, zep, if_true, if_false, q0, q3, d1]
    exact hQ _ _ (by simp only [zbk, Nat.reduceEqDiff, if_false, q0]) ht (ho.mono fun j b m q hj _ _ => by have := (List.getElem?_eq_some_iff.1 hj).1; omega)
/-- Some elements more, the new block's number told. -/
theorem app_ok2 {e w bytes : Nat} {z : List V} (T : TyIs P e w bytes z) (hw : w ≠ 0) {n : Nat} {h : Hp} {v : V} {l : List V} (s : Lst n h v l w e) (hn : n ≤ h.next) {y : V} {new : List V} {m : Nat} (hy : srcCells h w y = some (m, new)) (hm : new.length = m * w) (h0 : m ≠ 0)
    (hc : new.all V.isCell = true) {k : Nat} (hk : l.length = k * w) (hb : 2 * (k + m) * bytes ≤ 281474976710656) (hb2 : k + m ≤ 4611686018427387904) :
    ∃ h', appV P h e w v y = .val (.slice (some (h.next, 0)) (k + m) (.tl 0)) h' ∧ Lst n h' (.slice (some (h.next, 0)) (k + m) (.tl 0)) (l ++ new) w e ∧ Keep n h h' ∧ (∀ c, c < h.next → (∀ b, v = .slice (some (b, 0)) k (.tl 0) → c ≠ b) → h'.get c = h.get c) ∧ h'.next = h.next + 1 ∧ h'.get h.next = some (ambB (l ++ new) e) := by
  have guard : (decide (2 * (k + m) * ((P.info? e).map (·.bytes)).getD 0 > 2 ^ 48) || decide (k + m > 2 ^ 62) || !((zeroT P e).any fun z => decide (z.length = sizeT P e))) = false := by
    rw [T.bytes, T.zero, T.size]
    simp [T.len]
    omega
  rcases s.is with ⟨rfl, rfl⟩ | ⟨b, k', rfl, h2, h3, h4, h5⟩
  · obtain rfl : k = 0 := by
      have : k * w = 0 := by rw [← hk]; rfl
      rcases Nat.mul_eq_zero.1 this with h | h
      · exact h
      · exact absurd h hw
    refine ⟨h.new (ambB new e), ?_, ⟨.inr ⟨h.next, 0 + m, rfl, by simp [hm], get_new_same _ _, hn, Nat.lt_succ_self _⟩⟩, (Grow.new _ _).keep hn, fun c hcc _ => get_new _ hcc, rfl, get_new_same _ _⟩
    unfold appV
    simp only [hy]
    unfold appendV
    simp only [guard, Bool.false_eq_true, if_false]
    rw [if_neg (by omega), if_pos (by simp [hc])]
    rfl
  · obtain rfl : k' = k := by
      have : k' * w = k * w := by rw [← h2, hk]
      exact Nat.eq_of_mul_eq_mul_right (Nat.pos_of_ne_zero hw) this
    have hne : b ≠ h.next := by omega
    refine ⟨(h.put b .dead).new (ambB (l ++ new) e), ?_, ⟨.inr ⟨h.next, k' + m, rfl, by simp [h2, hm, Nat.add_mul], get_new_same _ _, hn, Nat.lt_succ_self _⟩⟩, ⟨Nat.le_succ _, fun c hcc => ?_⟩, fun c hcc hne2 => ?_, rfl, get_new_same _ _⟩
    · unfold appV
      simp only [hy]
      unfold appendV
      simp only [guard, Bool.false_eq_true, if_false]
      rw [if_neg h0, h3]
      simp only [ambB, T.size]
      rw [if_neg (by simp [hw]), if_neg (by rw [h2, Nat.add_mul]; have : 0 < m * w := Nat.mul_pos (Nat.pos_of_ne_zero h0) (Nat.pos_of_ne_zero hw); omega), if_pos (by simp [h2, hc])]
      simp only [List.drop_zero, Nat.sub_zero, h2.symm, List.take_length]
    · rw [get_new _ (by show c < h.next; omega), get_put_ne _ (by omega)]
    · rw [get_new _ (by show c < h.next; omega), get_put_ne]
      exact fun e => hne2 b rfl e.symm
/-- A list of full capacity, gone on with: it goes elsewhere. -/
theorem app_ex {e w bytes : Nat} {z : List V} (T : TyIs P e w bytes z) (hw : w ≠ 0) {h : Hp} {a : Option (Nat × Nat)} {m : Nat} {L : List V} (hL : (a = none ∧ m = 0 ∧ L = []) ∨ ∃ b, a = some (b, 0) ∧ loadL h b 0 (m * w) = some L) {y : V} {new : List V} (hy : srcCells h w y = some (1, new))
    (hc : new.all V.isCell = true) (hb : 2 * (m + 1) * bytes ≤ 281474976710656) (hb2 : m + 1 ≤ 4611686018427387904) :
    appV P h e w (.slice a m (.ex m)) y = .val (.slice (some (h.next, 0)) (m + 1) (.tl 0)) (h.new (ambB (L ++ new) e)) := by
  have guard : (decide (2 * (m + 1) * ((P.info? e).map (·.bytes)).getD 0 > 2 ^ 48) || decide (m + 1 > 2 ^ 62) || !((zeroT P e).any fun z => decide (z.length = sizeT P e))) = false := by
    rw [T.bytes, T.zero, T.size]
    simp [T.len]
    omega
  unfold appV
  simp only [hy]
  unfold appendV
  simp only [guard, Bool.false_eq_true, if_false]
  rw [if_neg (by omega)]
  rcases hL with ⟨rfl, rfl, rfl⟩ | ⟨b, rfl, hl⟩
  · simp only [hc, Bool.and_true, decide_true, if_true, List.nil_append]
    rfl
  · simp only [T.size, hl, orBad, hc, if_true]
    rfl
/-- A list on its way: as it was handed out, or gone on with r times. -/
structure Wl (k e : Nat) (i : Nat) (x : Out) (n1 : Nat) (h : Hp) (r : Nat) (w : V) : Prop where
  is : (r = 0 ∧ w = outV x) ∨ (0 < r ∧ ∃ c M, w = .slice (some (c, 0)) (x.2 + r) (.tl 0) ∧ h.get c = some (ambB M e) ∧ n1 ≤ c ∧ c < h.next ∧ M.length = (x.2 + r) * k ∧ (∀ q, q < x.2 → M[q * k]? = some (.int .i64 (mk1 i q))) ∧ ∀ q, q < r → M[(x.2 + q) * k]? = some (.int .i64 (mk2 i q)))
theorem rows_more {k : Nat} (hk : k ≠ 0) {M row : List V} {m r : Nat} {i : Nat} (hM : M.length = (m + r) * k) (hrow : row.length = k) (h0 : row[0]? = some (.int .i64 (mk2 i r))) (h1 : ∀ q, q < m → M[q * k]? = some (.int .i64 (mk1 i q))) (h2 : ∀ q, q < r → M[(m + q) * k]? = some (.int .i64 (mk2 i q))) :
    (M ++ row).length = (m + (r + 1)) * k ∧ (∀ q, q < m → (M ++ row)[q * k]? = some (.int .i64 (mk1 i q))) ∧ ∀ q, q < r + 1 → (M ++ row)[(m + q) * k]? = some (.int .i64 (mk2 i q)) := by
  have lt : ∀ q, q < m + r → q * k < M.length := fun q hq => by rw [hM]; exact Nat.mul_lt_mul_of_pos_right hq (Nat.pos_of_ne_zero hk)
  refine ⟨by rw [List.length_append, hM, hrow, ← Nat.add_assoc, Nat.succ_mul], fun q hq => ?_, fun q hq => ?_⟩
  · rw [List.getElem?_append_left (lt q (by omega))]; exact h1 q hq
  · rcases Nat.lt_succ_iff_lt_or_eq.1 hq with h | h
    · rw [List.getElem?_append_left (lt _ (by omega))]; exact h2 q h
    · subst h
      rw [List.getElem?_append_right (by rw [hM]; exact Nat.le_refl _), hM, Nat.sub_self]
      exact h0
theorem Wl.step {k e bytes : Nat} {z : List V} {tl : List Int} (T : RowT P k e bytes z tl) {A : List Out} {n : Nat} {h1 : Hp} {i r : Nat} {x : Out} {w : V} {n1 : Nat} (s : Wl k e i x n1 h1 r w) (ho : Outs k e A n h1 fun _ _ => True) (hx : A[i]? = some x) (hn : n1 ≤ h1.next)
    (hb : 2 * (x.2 + (r + 1)) * bytes ≤ 281474976710656) (hb2 : x.2 + (r + 1) ≤ 4611686018427387904) :
    ∃ w' h4, appV P (h1.new (newBlk (rv (mk2 i r :: tl)) e)) e k w (.slice (some (h1.next, 0)) 1 (.ex 1)) = .val w' h4 ∧ Wl k e i x n1 h4 (r + 1) w' ∧ Keep n1 h1 h4 := by
  have hk : k ≠ 0 := by have := T.len; omega
  have hlen : (rv (mk2 i r :: tl)).length = k := by rw [rv_len]; exact T.len
  have g3 := Grow.new h1 (newBlk (rv (mk2 i r :: tl)) e)
  have o3 := Own.of_new h1 (rv (mk2 i r :: tl)) e
  have n3 : (h1.new (newBlk (rv (mk2 i r :: tl)) e)).next = h1.next + 1 := rfl
  generalize h1.new (newBlk (rv (mk2 i r :: tl)) e) = h3 at g3 o3 n3
  have hsrc := src_own o3 hlen hk
  rcases s.is with ⟨rfl, rfl⟩ | ⟨hr, c, M, rfl, h2, h3', h4, h5, h6, h7⟩
  · obtain ⟨L, hL, hLl, hLr⟩ : ∃ L, ((x.1.map fun b => (b, 0)) = none ∧ x.2 = 0 ∧ L = [] ∨ ∃ b, (x.1.map fun b => (b, 0)) = some (b, 0) ∧ loadL h3 b 0 (x.2 * k) = some L) ∧ L.length = (x.2 + 0) * k ∧ ∀ q, q < x.2 → L[q * k]? = some (.int .i64 (mk1 i q)) := by
      obtain ⟨ob, m⟩ := x
      cases ob with
      | none =>
        obtain rfl := ho.none i m hx
        exact ⟨[], .inl ⟨rfl, rfl, rfl⟩, by simp, fun q hq => absurd hq (Nat.not_lt_zero _)⟩
      | some b =>
        obtain ⟨_, ex, L, k1, k2, k3⟩ := ho.is i b m hx
        refine ⟨L, .inr ⟨b, rfl, ?_⟩, by simpa using k2, fun q hq => k3 q hq trivial⟩
        rw [(k1.grow g3).loadL, if_pos (by simp [k2]), List.drop_zero]
        simp only [← k2, List.take_length]
    have happ := app_ex T.ty hk (m := x.2) hL hsrc (rv_cell _) hb hb2
    refine ⟨_, _, happ, ⟨.inr ⟨by omega, h3.next, L ++ rv (mk2 i 0 :: tl), rfl, get_new_same _ _, by omega, Nat.lt_succ_self _, ?_⟩⟩, (g3.keep hn).trans ((Grow.new _ _).keep (by omega))⟩
    exact rows_more hk hLl hlen rfl hLr (fun q hq => absurd hq (Nat.not_lt_zero _))
  · have sl : Lst n1 h3 (.slice (some (c, 0)) (x.2 + r) (.tl 0)) M k e := ⟨.inr ⟨c, _, rfl, h5, (g3.get c h4).trans h2, h3', by omega⟩⟩
    obtain ⟨h4', happ, k1, k2, k3, k4, k5⟩ := app_ok2 T.ty hk sl (by omega) hsrc (by rw [hlen, Nat.one_mul]) (by omega) (rv_cell _) h5 hb hb2
    exact ⟨_, h4', happ, ⟨.inr ⟨by omega, h3.next, M ++ rv (mk2 i r :: tl), rfl, k5, by omega, by omega, rows_more hk h5 hlen rfl h6 h7⟩⟩, (g3.keep hn).trans k2⟩
/-- The lists gone on with, so far. -/
structure MoreC (k e e2 : Nat) (A : List Out) (n0 : Nat) (i : Nat) (h : Hp) (v : V) : Prop where
  is : ∃ cs, Lst n0 h v cs 1 e2 ∧ cs.length = i ∧ ∀ j, j < i → ∃ x c M, A[j]? = some x ∧ cs[j]? = some (.slice (some (c, 0)) (x.2 + 30) (.tl 0)) ∧ h.get c = some (ambB M e) ∧ n0 ≤ c ∧ c < h.next ∧ (∀ b m, v = .slice (some (b, 0)) m (.tl 0) → c ≠ b) ∧
    (∀ q, q < x.2 → M[q * k]? = some (.int .i64 (mk1 j q))) ∧ ∀ q, q < 30 → M[(x.2 + q) * k]? = some (.int .i64 (mk2 j q))
set_option maxHeartbeats 4000000 in
theorem gA2_ok {k e e2 bytes : Nat} {z : List V} {tl : List Int} (T : RowT P k e bytes z tl) (T2 : TyIs P e2 1 24 [.slice none 0 (.ex 0)]) {ctx : Ctx} {h : Hp} {a : Option (Nat × Nat)} {c : Cap} {A : List Out} {n : Nat} (hA : AllC h a A) (hO : Outs k e A n h fun _ _ => True) (hn : n ≤ h.next)
    (hN : 2 * A.length * 24 ≤ 281474976710656) (hm : ∀ x ∈ A, 2 * (x.2 + 30) * bytes ≤ 281474976710656 ∧ x.2 + 30 ≤ 4611686018427387904)
    {F : Frm} (q0 : gt F 0 = .slice a A.length c) (q6 : gt F 6 = .int .i64 0) (q5 : gt F 5 = .slice none 0 (.ex 0)) {Q : X → S → Prop}
    (hQ : ∀ F' h' v, gt F' 0 = .slice a A.length c → gt F' 5 = v → Grow h h' → MoreC k e e2 A h.next A.length h' v → Q .normal ⟨F', [], none, h'⟩) : IXW P Y ctx (gA2 k e e2 z) ⟨F, [], none, h⟩ Q := by
  have hk : k ≠ 0 := by have := T.len; omega
  unfold gA2
  simp only [zaf]
  refine s_loop (fun kk st => ∃ (i : Nat) (F : Frm) (h' : Hp) (v : V), kk + i = A.length ∧ st = ⟨F, [], none, h'⟩ ∧ gt F 0 = .slice a A.length c ∧ gt F 6 = .int .i64 i ∧ gt F 5 = v ∧ Grow h h' ∧ MoreC k e e2 A h.next i h' v) A.length
    ⟨0, _, h, _, rfl, rfl, q0, q6, q5, .refl _, ⟨[], Lst.nil _ _ _ _, rfl, fun j hj => absurd hj (Nat.not_lt_zero _)⟩⟩ ?_
  clear q0 q5 q6 F
  rintro kk _ ⟨i, F, h1, v, hkk, rfl, q0, q6, q5, hg, hM⟩
  by_cases hi : i < A.length
  · have d1 : decide ((i : Int) < (A.length : Int)) = true := decide_eq_true (by omega)
    have hAi : A[i]? = some A[i] := List.getElem?_eq_getElem hi
    obtain ⟨hmi, hmi2⟩ := hm A[i] (List.getElem_mem hi)
    obtain ⟨ba, oa, rfl, hld⟩ := (hA.grow hg).get hi
    have hO1 := hO.keep (hg.keep hn)
    simp only [zaa, zab, zac, zae, zaf, zai, zaj, zak, zal, zam, zao, zaq, zax, zay, zbi, zbk, Nat.reduceEqDiff, zck, Bool.and_self, Nat.mul_one, Int.toNat_natCast, zdh, a_t, a_v, zdo, zdp, zdt, zed, zee, zef, zeg, zeo, zep, if_true, if_false, q0, q6, d1, hld]
    refine s_loop (fun jj st => ∃ (r : Nat) (F : Frm) (h' : Hp) (w : V), jj + r = 30 ∧ st = ⟨F, [], none, h'⟩ ∧ gt F 0 = .slice (some (ba, oa)) A.length c ∧ gt F 6 = .int .i64 i ∧ gt F 5 = v ∧ gt F 7 = w ∧ gt F 8 = .int .i64 r ∧ Grow h1 h' ∧ Wl k e i A[i] h1.next h' r w) 30
      ⟨0, _, h1, outV A[i], rfl, rfl, by simp only [zbk, Nat.reduceEqDiff, if_false, q0], by simp only [zbk, Nat.reduceEqDiff, if_false, q6], by simp only [zbk, Nat.reduceEqDiff, if_false, q5], by simp only [zbk, Nat.reduceEqDiff, if_true, if_false], by simp only [zbk, Nat.reduceEqDiff, if_true, if_false]; rfl, .refl _, ⟨.inl ⟨rfl, rfl⟩⟩⟩ ?_
    clear q0 q6 q5 F
    rintro jj _ ⟨r, F, h2, w, hjj, rfl, q0, q6, q5, q7, q8, hg2, hw⟩
    by_cases hr : r < 30
    · have d2 : decide ((r : Int) < 30) = true := decide_eq_true (by omega)
      have f1 := T.fill (mk2 i r)
      have f2 := T.one (mk2 i r)
      have w1 : IntKind.i64.wrap ((r : Int) + 1) = ((r + 1 : Nat) : Int) := by rw [wrap_i64 (by omega) (by omega)]; rfl
      have hmk : IntKind.i64.wrap (IntKind.i64.wrap (500000 + IntKind.i64.wrap (1000 * (i : Int))) + (r : Int)) = mk2 i r := rfl
      obtain ⟨w', h4, happ, hw', hk4⟩ := hw.step T (hO1.keep (hg2.keep (Nat.le_trans hn hg.next))) hAi hg2.next (by have : 2 * (A[i].2 + (r + 1)) * bytes ≤ 2 * (A[i].2 + 30) * bytes := Nat.mul_le_mul_right _ (by omega); omega) (by omega)
      simp only [zaa, zab, zac, zae, zaf, zai, zaj, zak, zal, zam, zao, zaq, zax, zay, zbc, zbi, zbk, List.map_cons, List.map_nil, Nat.reduceEqDiff, Option.map_some, zch, zcj, zck, Nat.zero_mul, a_t, a_v, zdo, zdp, zdt, zey, zfg, zfh, if_true, if_false, q6, q7, q8, d2, hmk, f1, f2, happ, w1]
      exact ⟨jj - 1, by omega, r + 1, _, h4, w', by omega, rfl, by simp only [zbk, Nat.reduceEqDiff, if_false, q0], by simp only [zbk, Nat.reduceEqDiff, if_false, q6], by simp only [zbk, Nat.reduceEqDiff, if_false, q5], by simp only [zbk, Nat.reduceEqDiff, if_true, if_false], by simp only [zbk, Nat.reduceEqDiff, if_true, if_false], ((hg2.keep (Nat.le_refl _)).trans hk4).grow, hw'⟩
    · obtain rfl : r = 30 := by omega
      have d2 : decide (((30 : Nat) : Int) < 30) = false := rfl
      have w1 : IntKind.i64.wrap ((i : Int) + 1) = ((i + 1 : Nat) : Int) := by rw [wrap_i64 (by omega) (by omega)]; rfl
      obtain ⟨hr0, c1, M, rfl, k1, k2, k3, k4, k5, k6⟩ : 0 < 30 ∧ _ := hw.is.resolve_left fun e => by cases e.1
      obtain ⟨cs, hl, hcs, hall⟩ := hM
      have f3 : fillV (reps 1 [V.slice none 0 (.ex 0)]) [(0, 1, .slice (some (c1, 0)) (A[i].2 + 30) (.tl 0))] = some [.slice (some (c1, 0)) (A[i].2 + 30) (.tl 0)] := rfl
      have g5 := Grow.new h2 (newBlk [.slice (some (c1, 0)) (A[i].2 + 30) (.tl 0)] e2)
      have o5 := Own.of_new h2 [.slice (some (c1, 0)) (A[i].2 + 30) (.tl 0)] e2
      have n5 : (h2.new (newBlk [.slice (some (c1, 0)) (A[i].2 + 30) (.tl 0)] e2)).next = h2.next + 1 := rfl
      generalize hh5 : h2.new (newBlk [.slice (some (c1, 0)) (A[i].2 + 30) (.tl 0)] e2) = h5 at g5 o5 n5
      have hg5 := hg2.trans g5
      have n1 := hg.next
      have n2 := hg2.next
      obtain ⟨h6, happ, m1, m2, m3, m4, m5⟩ := app_ok2 T2 (by omega) (hl.grow hg5) (by omega) (src_own o5 rfl (by omega)) rfl (by omega) rfl (k := i) (by rw [hcs, Nat.mul_one]) (by omega) (by omega)
      simp only [zaa, zac, zae, zag, zai, zaj, zak, zal, zam, zap, zaq, zax, zay, zba, zbc, zbe, zbi, zbk, List.map_cons, List.map_nil, Nat.reduceEqDiff, zch, zck, Nat.mul_one, a_t, a_v, zdo, zdp, zdt, zfg, zfh, if_true, if_false, q6, q5, q7, q8, d2, f3, hh5, happ, w1]
      refine ⟨kk - 1, by omega, i + 1, _, h6, _, by omega, rfl, by simp only [zbk, Nat.reduceEqDiff, if_false, q0], by simp only [zbk, Nat.reduceEqDiff, if_true, if_false], by simp only [zbk, Nat.reduceEqDiff, if_true, if_false], (((hg.trans hg5).keep (Nat.le_refl _)).trans m2).grow, ⟨_, m1, by simp [hcs], fun j hj => ?_⟩⟩
      rcases Nat.lt_succ_iff_lt_or_eq.1 hj with h | h
      · obtain ⟨x, cc, M', p1, p2, p3, p4, p5, p6, p7⟩ := hall j h
        have hne : ∀ b, v = .slice (some (b, 0)) i (.tl 0) → cc ≠ b := fun b e => p6 b i e
        refine ⟨x, cc, M', p1, by rw [List.getElem?_append_left (by omega)]; exact p2, (m3 cc (by omega) hne).trans ((hg5.get cc p5).trans p3), p4, by omega, fun b m e => ?_, p7⟩
        cases e
        omega
      · subst h
        refine ⟨A[j], c1, M, hAi, by rw [List.getElem?_append_right (by omega), hcs, Nat.sub_self]; rfl, (m3 c1 (by omega) fun b e => ?_).trans ((g5.get c1 k3).trans k1), by omega, by omega, fun b m e => ?_, k5, k6⟩
        · rcases hl.is with ⟨e2, _⟩ | ⟨b', k', e2, _, _, _, hb'⟩
          · rw [e2] at e; cases e
          · rw [e2] at e; cases e; omega
        · cases e
          omega
  · have d1 : decide ((i : Int) < (A.length : Int)) = false := decide_eq_false (by omega)
    obtain rfl : i = A.length := by omega
    simp only [zaa, zac, zae, zag, zai, zaj, zak, zal, zam, zap, zaq, zax, zay, zba, zbe, zbi, zbk, Nat.reduceEqDiff, zck, a_t, zdo, zdp, zdt, zeo, zep, if_true, if_false, q0, q6, d1]
    exact hQ _ _ v (by simp only [zbk, Nat.reduceEqDiff, if_false, q0]) (by simp only [zbk, Nat.reduceEqDiff, if_false, q5]) hg hM
set_option maxHeartbeats 4000000 in
theorem gA3_ok {k e e2 : Nat} (hk : k ≠ 0) {f : FuncId} {h : Hp} {a : Option (Nat × Nat)} {c : Cap} {A : List Out} {n n0 : Nat} {v : V} (hA : AllC h a A) (hO : Outs k e A n h fun _ _ => True) (hM : MoreC k e e2 A n0 A.length h v)
    (hN : A.length ≤ 4611686018427387904) (hm : ∀ x ∈ A, x.2 + 30 ≤ 4611686018427387904)
    {F : Frm} (q0 : gt F 0 = .slice a A.length c) (q9 : gt F 9 = .int .i64 0) (q5 : gt F 5 = v) {Q : X → S → Prop}
    (hQ : ∀ F', Q .normal ⟨F', [], none, h⟩) : IXW P Y { fn := f, rnd := none } (gA3 k) ⟨F, [], none, h⟩ Q := by
  unfold gA3
  simp only [zaf]
  refine s_loop (fun kk st => ∃ (i : Nat) (F : Frm), kk + i = A.length ∧ st = ⟨F, [], none, h⟩ ∧ gt F 0 = .slice a A.length c ∧ gt F 9 = .int .i64 i ∧ gt F 5 = v) A.length
    ⟨0, _, rfl, rfl, q0, q9, q5⟩ ?_
  clear q0 q5 q9 F
  rintro kk _ ⟨i, F, hkk, rfl, q0, q9, q5⟩
  by_cases hi : i < A.length
  · have d1 : decide ((i : Int) < (A.length : Int)) = true := decide_eq_true (by omega)
    have hAi : A[i]? = some A[i] := List.getElem?_eq_getElem hi
    have hmi := hm A[i] (List.getElem_mem hi)
    obtain ⟨ba, oa, rfl, hld⟩ := hA.get hi
    obtain ⟨cs, hl, hcs, hall⟩ := hM
    obtain ⟨x, c1, M, p1, p2, p3, p4, p5, p6, p7, p8⟩ := hall i hi
    obtain rfl : A[i] = x := Option.some.inj (hAi.symm.trans p1)
    obtain ⟨bm, rfl, hbm⟩ : ∃ bm, v = .slice (some (bm, 0)) A.length (.tl 0) ∧ load1 h bm i = some (.slice (some (c1, 0)) (A[i].2 + 30) (.tl 0)) := by
      rcases hl.is with ⟨_, e2⟩ | ⟨b', k', e2, e3, e4, e5, e6⟩
      · subst e2; simp at hcs; omega
      · obtain rfl : k' = A.length := by omega
        refine ⟨b', e2, ?_⟩
        unfold load1
        rw [e4]
        exact p2
    have hc1 : ∀ q, load1 h c1 q = M[q]? := fun q => by unfold load1; rw [p3]; rfl
    have e30 : ((30 : Nat) : Int) = 30 := rfl
    unfold outV at hld
    simp only [zaa, zab, zac, zae, zaf, zai, zaj, zak, zal, zam, zao, zaq, zax, zay, zbi, zbk, Nat.reduceEqDiff, zck, Bool.and_self, Nat.mul_one, Int.toNat_natCast, zdh, a_t, a_v, zdo, zdp, zdt, zed, zee, zef, zeg, zeo, zep, if_true, if_false, q0, q9, d1, hld]
    refine s_loop (fun jj st => ∃ (r : Nat) (F : Frm), jj + r = A[i].2 ∧ st = ⟨F, [], none, h⟩ ∧ gt F 0 = .slice (some (ba, oa)) A.length c ∧ gt F 9 = .int .i64 i ∧ gt F 5 = .slice (some (bm, 0)) A.length (.tl 0) ∧ gt F 10 = .int .i64 A[i].2 ∧ gt F 11 = .int .i64 r) A[i].2
      ⟨0, _, rfl, rfl, by simp only [zbk, Nat.reduceEqDiff, if_false, q0], by simp only [zbk, Nat.reduceEqDiff, if_false, q9], by simp only [zbk, Nat.reduceEqDiff, if_false, q5], by simp only [zbk, Nat.reduceEqDiff, if_true, if_false], by simp only [zbk, Nat.reduceEqDiff, if_true, if_false]; rfl⟩ ?_
    clear q0 q9 q5 F
    rintro jj _ ⟨r, F, hjj, rfl, q0, q9, q5, q10, q11⟩
    by_cases hr : r < A[i].2
    · have d2 : decide ((r : Int) < (A[i].2 : Int)) = true := decide_eq_true (by omega)
      have d3 : decide ((r : Int) < ((A[i].2 + 30 : Nat) : Int)) = true := decide_eq_true (by omega)
      have w1 : IntKind.i64.wrap ((r : Int) + 1) = ((r + 1 : Nat) : Int) := by rw [wrap_i64 (by omega) (by omega)]; rfl
      have hmk : IntKind.i64.wrap (IntKind.i64.wrap (1000 * (i : Int)) + (r : Int)) = mk1 i r := rfl
      obtain ⟨b, hb⟩ : ∃ b, A[i].1 = some b := by
        cases hx : A[i].1 with
        | none =>
          have := hO.none i A[i].2 (by rw [hAi, ← hx])
          omega
        | some b => exact ⟨b, rfl⟩
      obtain ⟨_, ex, L, k1, k2, k3⟩ := hO.is i b A[i].2 (by rw [hAi, ← hb])
      have hLr := k3 r hr trivial
      have e1 : (mk1 i r == mk1 i r) = true := bq_eq rfl
      rw [hb] at hld
      simp only [zaa, zab, zac, zae, zaf, zai, zaj, zak, zal, zam, zao, zap, zaq, zax, zay, zbc, zbi, zbk, Nat.reduceEqDiff, Option.map_some, zch, zcj, zck, zcq, zct, Bool.and_self, Bool.not_true, Nat.zero_add, Nat.add_zero, zdb, zdc, zdd, Nat.mul_one, Int.toNat_natCast, zdh, a_t, a_v, zdo, zdp, zdq, zds, zdt, zdu, zeb, zec, zed, zee, zef, zeg, if_true, if_false, q0, q9, q5, q10, q11, d1, d2, d3, hld, hbm, hmk, k1.load1, hc1, hLr, p7 r hr, e1, w1]
      exact ⟨jj - 1, by omega, r + 1, _, by omega, rfl, by simp only [zbk, Nat.reduceEqDiff, if_false, q0], by simp only [zbk, Nat.reduceEqDiff, if_false, q9], by simp only [zbk, Nat.reduceEqDiff, if_false, q5], by simp only [zbk, Nat.reduceEqDiff, if_false, q10], by simp only [zbk, Nat.reduceEqDiff, if_true, if_false]⟩
    · have d2 : decide ((r : Int) < (A[i].2 : Int)) = false := decide_eq_false (by omega)
      simp only [zaa, zac, zae, zaf, zag, zai, zaj, zak, zal, zam, zap, zaq, zax, zay, zba, zbe, zbi, zbk, Nat.reduceEqDiff, zch, zck, a_t, a_v, zdo, zdp, zdt, if_true, if_false, q9, q10, q11, d2]
      refine s_loop (fun jj st => ∃ (r : Nat) (F : Frm), jj + r = 30 ∧ st = ⟨F, [], none, h⟩ ∧ gt F 0 = .slice (some (ba, oa)) A.length c ∧ gt F 9 = .int .i64 i ∧ gt F 5 = .slice (some (bm, 0)) A.length (.tl 0) ∧ gt F 10 = .int .i64 A[i].2 ∧ gt F 12 = .int .i64 r) 30
        ⟨0, _, rfl, rfl, by simp only [zbk, Nat.reduceEqDiff, if_false, q0], by simp only [zbk, Nat.reduceEqDiff, if_false, q9], by simp only [zbk, Nat.reduceEqDiff, if_false, q5], by simp only [zbk, Nat.reduceEqDiff, if_false, q10], by simp only [zbk, Nat.reduceEqDiff, if_true, if_false]; rfl⟩ ?_
      clear q0 q9 q5 q10 q11 F hjj hr d2 r jj
      rintro jj _ ⟨r, F, hjj, rfl, q0, q9, q5, q10, q12⟩
      by_cases hr : r < 30
      · have d2 : decide ((r : Int) < 30) = true := decide_eq_true (by omega)
        have d3 : decide (((A[i].2 + r : Nat) : Int) < ((A[i].2 + 30 : Nat) : Int)) = true := decide_eq_true (by omega)
        have w1 : IntKind.i64.wrap ((r : Int) + 1) = ((r + 1 : Nat) : Int) := by rw [wrap_i64 (by omega) (by omega)]; rfl
        have w2 : IntKind.i64.wrap ((A[i].2 : Int) + (r : Int)) = ((A[i].2 + r : Nat) : Int) := by rw [wrap_i64 (by omega) (by omega)]; rfl
        have hmk : IntKind.i64.wrap (IntKind.i64.wrap (500000 + IntKind.i64.wrap (1000 * (i : Int))) + (r : Int)) = mk2 i r := rfl
        have e1 : (mk2 i r == mk2 i r) = true := bq_eq rfl
        simp only [zaa, zab, zac, zae, zaf, zai, zaj, zak, zal, zam, zao, zap, zaq, zax, zay, zbc, zbi, zbk, Nat.reduceEqDiff, Option.map_some, zch, zcj, zck, zcq, zct, Bool.and_self, Bool.not_true, Nat.zero_add, Nat.add_zero, Nat.mul_one, Int.toNat_natCast, zdh, a_t, a_v, zdo, zdp, zdt, zdu, zeb, zec, zed, zee, zef, zeg, if_true, if_false, q9, q5, q10, q12, d1, d2, d3, hbm, hmk, w2, hc1, p8 r hr, e1, w1]
        exact ⟨jj - 1, by omega, r + 1, _, by omega, rfl, by simp only [zbk, Nat.reduceEqDiff, if_false, q0], by simp only [zbk, Nat.reduceEqDiff, if_false, q9], by simp only [zbk, Nat.reduceEqDiff, if_false, q5], by simp only [zbk, Nat.reduceEqDiff, if_false, q10], by simp only [zbk, Nat.reduceEqDiff, if_true, if_false]⟩
      · have d2 : decide ((r : Int) < 30) = false := decide_eq_false (by omega)
        have w1 : IntKind.i64.wrap ((i : Int) + 1) = ((i + 1 : Nat) : Int) := by rw [wrap_i64 (by omega) (by omega)]; rfl
        simp only [zaa, zac, zae, zag, zai, zaj, zak, zal, zam, zap, zaq, zax, zay, zba, zbc, zbe, zbi, zbk, Nat.reduceEqDiff, zch, zck, a_t, a_v, zdo, zdp, zdt, if_true, if_false, q9, q12, d2, w1]
        exact ⟨kk - 1, by omega, i + 1, _, by omega, rfl, by simp only [zbk, Nat.reduceEqDiff, if_false, q0], by simp only [zbk, Nat.reduceEqDiff, if_true, if_false], by simp only [zbk, Nat.reduceEqDiff, if_false, q5]⟩
  · have d1 : decide ((i : Int) < (A.length : Int)) = false := decide_eq_false (by omega)
    simp only [zaa, zac, zae, zag, zai, zaj, zak, zal, zam, zap, zaq, zax, zay, zba, zbe, zbi, zbk, Nat.reduceEqDiff, zck, a_t, zdo, zdp, zdt, zeo, zep, if_true, if_false, q0, q9, d1]
    exact hQ _
/-- Of what was there only the lists' blocks were turned. -/
structure Past (A : List Out) (h h' : Hp) : Prop where
  next : h.next ≤ h'.next
  get : ∀ c : Nat, c < h.next → (∀ i m : Nat, A[i]? ≠ some (some c, m)) → h'.get c = h.get c
set_option maxHeartbeats 1000000 in
/-- Lists that share no memory are told to share none. -/
theorem gApart_ok {f k e e2 bytes : Nat} {z : List V} {tl : List Int} (H : FnIs P Y f 130 [.tmp 2] (gApart k e e2 z)) (T : RowT P k e bytes z tl) (T2 : TyIs P e2 1 24 [.slice none 0 (.ex 0)]) {h : Hp} {a : Option (Nat × Nat)} {c : Cap} {A : List Out} (hA : AllC h a A) (hO : Outs k e A h.next h fun _ _ => False) {N : Nat} (hl : N = A.length)
    (hN : 2 * N * 24 ≤ 281474976710656) (hm : ∀ x ∈ A, 2 * (x.2 + 30) * bytes ≤ 281474976710656 ∧ x.2 + 30 ≤ 4611686018427387904) :
    CW P Y f [.slice a N c] none h (fun q => ∃ h', Past A h h' ∧ q = .ret (.bool true) none h') := by
  subst hl
  refine CW_ic H (Nat.le_of_ble_eq_true rfl) ?_
  rw [gApart_is]
  simp only [zaa, zac, zai, zaj, zak, zal, zam, zaq, zax, zay, zbi, zbl, zbm, Nat.zero_add, a_v, zdp]
  refine gA1_ok (c := c) T hA hO (by omega) (fun x hx => by have := (hm x hx).2; omega) (by simp only [zbk, Nat.reduceEqDiff, if_true, if_false]) (by simp only [zbk, Nat.reduceEqDiff, if_true, if_false]) fun F1 h1 q0 ht ho => ?_
  simp only [zaa, zac, zai, zaj, zak, zal, zam, zaq, zax, zay, zbi, a_v, zdp]
  refine gA2_ok (c := c) T T2 (hA.turned ht) ho (by rw [ht.next]; exact Nat.le_refl _) hN hm (by simp only [zbk, Nat.reduceEqDiff, if_false, q0]) (by simp only [zbk, Nat.reduceEqDiff, if_true, if_false]) (by simp only [zbk, Nat.reduceEqDiff, if_true, if_false]) fun F2 h2 v p0 p5 hg hM => ?_
  simp only [zaa, zac, zai, zaj, zak, zal, zam, zaq, zax, zay, zbi, a_v, zdp]
  refine gA3_ok (c := c) (by have := T.len; omega) ((hA.turned ht).grow hg) (ho.keep (hg.keep (by rw [ht.next]; exact Nat.le_refl _))) hM (by omega) (fun x hx => (hm x hx).2) (by simp only [zbk, Nat.reduceEqDiff, if_false, p0]) (by simp only [zbk, if_true]) (by simp only [zbk, Nat.reduceEqDiff, if_false, p5]) fun F3 => ?_
  simp only [zaa, zac, zah, zai, zaj, zak, zal, zam, zaq, zax, zay, zbi, zbk, r_1, a_v, zdp, if_true]
  exact ⟨h2, ⟨by have := hg.next; rw [ht.next] at this; exact this, fun c hc hs => (hg.get c (by rw [ht.next]; exact hc)).trans (ht.get c hs)⟩, rfl⟩
end Go.Vm
