/- The kit's functions over lists of rows of ints: compared, lent with a mark behind, still as they were, copied, clipped. -/
import Derived.Test.YtaccdnpmoghidaaGreatDoorWpF5
import Derived.Test.YtaccdnpmoghidaaGreatDoorWpUtil
import Derived.Test.YtaccdnpmoghidaaGreatDoorWpApp
set_option linter.unusedVariables false
set_option linter.unusedSimpArgs false
namespace Go.Vm
variable {P : Program} {Y : Fns} {I : Ids}
def rv (r : List Int) : List V := r.map iv
theorem rv_len (r : List Int) : (rv r).length = r.length := by simp [rv]
theorem rv_cell (r : List Int) : (rv r).all V.isCell = true := by simp [rv, V.isCell]
/-- A slice of rows of ints. -/
def Rw (h : Hp) (k : Nat) (a : Option (Nat × Nat)) (l : List (List Int)) : Prop := Sl h k a (l.map rv)
theorem Rw.grow {h h' : Hp} {k : Nat} {a : Option (Nat × Nat)} {l : List (List Int)} (s : Rw h k a l) (g : Grow h h') : Rw h' k a l := Sl.grow s g
theorem Rw.wid {h : Hp} {k : Nat} {a : Option (Nat × Nat)} {l : List (List Int)} (s : Rw h k a l) : ∀ r ∈ l, r.length = k := fun r hr => by
  have := Sl.wid s (rv r) (List.mem_map.2 ⟨r, hr, rfl⟩)
  rwa [rv_len] at this
theorem Rw.get {h : Hp} {k : Nat} {a : Option (Nat × Nat)} {l : List (List Int)} (s : Rw h k a l) {i : Nat} (hi : i < l.length) : ∃ b o, a = some (b, o) ∧ At h b (o + i * k) (rv l[i]) ∧ b < h.next := by
  obtain ⟨b, o, h1, h2⟩ := Sl.at s (i := i) (by simpa using hi)
  simp only [List.getElem_map] at h2
  exact ⟨b, o, h1, h2, h2.low⟩
theorem eqKs_rows : ∀ (r s : List Int), r.length = s.length → eqKs (List.replicate r.length 1) (rv r) (rv s) = some (decide (r = s))
  | [], [], _ => rfl
  | [], _ :: _, h => by simp at h
  | _ :: _, [], h => by simp at h
  | x :: r, y :: s, h => by
    have ih := eqKs_rows r s (by simpa using h)
    simp only [rv, List.map_cons, List.length_cons, List.replicate_succ]
    unfold eqKs
    simp only [rv] at ih
    rw [ih]
    simp only [zbn, zcq]
    rw [Option.some.injEq, Bool.eq_iff_iff]
    simp
theorem gEq_ok {f k : Nat} (H : FnIs P Y f 26 [.tmp 4] (gEq k (List.replicate k 1))) {h : Hp} {a b : Option (Nat × Nat)} {c d : Cap} {l m : List (List Int)} (hl : Rw h k a l) (hm : Rw h k b m) {n n' : Nat} (hn : n = l.length) (hk : n' = m.length) (hb : n ≤ 9223372036854775807) :
    CW P Y f [.slice a n c, .slice b n' d] none h (fun q => q = .ret (.bool (decide (l = m))) none h) := by
  subst hn hk
  refine CW_ic H (Nat.le_of_ble_eq_true rfl) ?_
  unfold gEq
  by_cases he : l.length = m.length
  · have e1 : ((l.length : Int) == (m.length : Int)) = true := bq_eq (by omega)
    simp only [zaa, zab, zac, zae, zaf, zai, zaj, zak, zal, zam, zap, zaq, zax, zay, zbi, zbk, zbl, zbm, Nat.reduceEqDiff, Option.map_some, Nat.reduceAdd, zcq, zct, Bool.not_true, Nat.zero_add, a_t, a_v, zdo, zdp, zdu, zeo, zep, if_true, if_false, e1]
    refine s_loop (fun j st => ∃ (i : Nat) (F : Frm), j + i = l.length ∧ st = ⟨F, [], none, h⟩ ∧ gt F 0 = .slice a l.length c ∧ gt F 1 = .slice b m.length d ∧ gt F 5 = .int .i64 i ∧ l.take i = m.take i) l.length
      ⟨0, _, rfl, rfl, by simp only [zbk, Nat.reduceEqDiff, if_true, if_false], by simp only [zbk, Nat.reduceEqDiff, if_true, if_false], by simp only [zbk, Nat.reduceEqDiff, if_true, if_false]; rfl, rfl⟩ ?_
    rintro j _ ⟨i, F, hk, rfl, q0, q1, q5, hs⟩
    by_cases hi : i < l.length
    · have e2 : decide ((i : Int) < (l.length : Int)) = true := decide_eq_true (by omega)
      have e3 : decide ((i : Int) < (m.length : Int)) = true := decide_eq_true (by omega)
      obtain ⟨ba, oa, rfl, hla, _⟩ := hl.get hi
      obtain ⟨bb, ob, rfl, hlb, _⟩ := hm.get (i := i) (by omega)
      have wl := hl.wid l[i] (List.getElem_mem hi)
      have wm := hm.wid m[i] (List.getElem_mem (by omega))
      have hla := hla.loadL
      have hlb := hlb.loadL
      rw [rv_len, wl] at hla
      rw [rv_len, wm] at hlb
      have hek := eqKs_rows l[i] m[i] (by omega)
      rw [wl] at hek
      by_cases hx : l[i] = m[i]
      · have e4 : decide (l[i] = m[i]) = true := decide_eq_true hx
        simp only [zaa, zab, zac, zad, zae, zaf, zai, zaj, zak, zal, zam, zao, zap, zaq, zax, zay, zbc, zbg, zbi, zbk, Nat.reduceEqDiff, Option.map_some, zch, zck, zct, Bool.and_self, Bool.not_true, Int.toNat_natCast, zdh, a_t, a_v, zdo, zdp, zdt, zed, zee, zeh, zei, zeo, zep, if_true, if_false, zfi, zfj, q0, q1, q5, e2, e3, hla, hlb, hek, e4]
        refine ⟨j - 1, by omega, i + 1, _, by omega, rfl, by simp only [zbk, Nat.reduceEqDiff, if_false, q0], by simp only [zbk, Nat.reduceEqDiff, if_false, q1], ?_, ?_⟩
        · simp only [zbk, Nat.reduceEqDiff, if_true, if_false]
          rw [wrap_i64 (by omega) (by omega)]
          rfl
        · rw [List.take_succ_eq_append_getElem hi, List.take_succ_eq_append_getElem (by omega), hs, hx]
      · have e4 : decide (l[i] = m[i]) = false := decide_eq_false hx
        have : decide (l = m) = false := decide_eq_false fun e => hx (by subst e; rfl)
        simp only [zaa, zab, zac, zad, zae, zaf, zah, zai, zaj, zak, zal, zam, zao, zaq, zax, zay, zaz, zbd, zbg, zbi, zbk, Nat.reduceEqDiff, Option.map_some, zck, zct, Bool.and_self, Bool.not_false, r_1, Int.toNat_natCast, zdh, a_t, a_v, zdo, zdp, zdt, zed, zee, zeh, zei, zeo, zep, if_true, if_false, zfi, zfj, q0, q1, q5, e2, e3, hla, hlb, hek, e4, this]
    · have e2 : decide ((i : Int) < (l.length : Int)) = false := decide_eq_false (by omega)
      have : decide (l = m) = true := decide_eq_true (by rw [List.take_of_length_le (by omega), List.take_of_length_le (by omega)] at hs; exact hs)
      simp only [zaa, zac, zae, zag, zah, zai, zaj, zak, zal, zam, zap, zaq, zax, zay, zba, zbe, zbi, zbk, Nat.reduceEqDiff, zck, r_1, a_t, a_v, zdo, zdp, zdt, zeo, zep, if_true, if_false, q0, q5, e2, this]
  · have e1 : ((l.length : Int) == (m.length : Int)) = false := bq_ne (by omega)
    have : decide (l = m) = false := decide_eq_false fun e => he (by rw [e])
    simp only [zaa, zac, zae, zah, zai, zaj, zak, zal, zam, zao, zaq, zax, zay, zaz, zbi, zbk, zbl, zbm, Nat.reduceEqDiff, Option.map_some, Nat.reduceAdd, zcq, zct, Bool.not_false, Nat.zero_add, r_1, a_t, a_v, zdo, zdp, zdu, zeo, zep, if_true, if_false, e1, this]
/-- Rows' cells in a row. -/
def fl (l : List (List Int)) : List V := (l.map rv).flatten
theorem fl_len {k : Nat} : ∀ {l : List (List Int)}, (∀ r ∈ l, r.length = k) → (fl l).length = l.length * k
  | [], _ => by simp [fl]
  | r :: l, h => by
    have ih := fl_len (l := l) fun r hr => h r (List.mem_cons_of_mem _ hr)
    unfold fl at ih ⊢
    simp only [List.map_cons, List.flatten_cons, List.length_append, rv_len, ih, h r List.mem_cons_self, List.length_cons, Nat.succ_mul]
    omega
theorem fl_cell : ∀ l : List (List Int), (fl l).all V.isCell = true
  | [] => rfl
  | r :: l => by
    have ih := fl_cell l
    unfold fl at ih ⊢
    simp only [List.map_cons, List.flatten_cons, List.all_append, rv_cell, ih, Bool.and_self]
theorem fl_append (l m : List (List Int)) : fl (l ++ m) = fl l ++ fl m := by simp [fl]
theorem fl_one (r : List Int) : fl [r] = rv r := by simp [fl]
theorem Rw.src {h : Hp} {k : Nat} {a : Option (Nat × Nat)} {l : List (List Int)} (s : Rw h k a l) (c : Cap) : srcCells h k (.slice a l.length c) = some (l.length, fl l) := by
  have hw := fl_len s.wid
  rcases Sl.pl s with h0 | ⟨b, o, rfl, hat⟩
  · obtain rfl : l = [] := by simpa using h0
    cases a with
    | none => rfl
    | some p => obtain ⟨b, o⟩ := p; simp [srcCells, fl]
  · show (if l.length * k = 0 then some (l.length, []) else (loadL h b o (l.length * k)).map fun m => (l.length, m)) = _
    by_cases hz : l.length * k = 0
    · rw [if_pos hz]
      have : fl l = [] := List.eq_nil_of_length_eq_zero (by rw [hw, hz])
      rw [this]
    · rw [if_neg hz]
      have := hat.loadL
      rw [show (List.map rv l).flatten = fl l from rfl, hw] at this
      rw [this]; rfl
/-- What was lent: the rows, a mark behind; in a block from number n on. -/
structure Lent (n : Nat) (h : Hp) (v : V) (l : List (List Int)) (m : List V) (e : Nat) : Prop where
  is : ∃ b, v = .slice (some (b, 0)) l.length (.tl 0) ∧ h.get b = some (ambB (fl l ++ m) e) ∧ n ≤ b ∧ b < h.next
theorem Lent.grow {n : Nat} {h h' : Hp} {v : V} {l : List (List Int)} {m : List V} {e : Nat} (s : Lent n h v l m e) (g : Grow h h') : Lent n h' v l m e := by
  obtain ⟨b, h1, h2, h3, h4⟩ := s
  exact ⟨b, h1, (g.get b h4).trans h2, h3, Nat.lt_of_lt_of_le h4 g.next⟩
theorem Lent.put {n c : Nat} {h : Hp} {v : V} {l : List (List Int)} {m : List V} {e : Nat} (s : Lent n h v l m e) (hc : c < n) (ob : Ob) : Lent n (h.put c ob) v l m e := by
  obtain ⟨b, h1, h2, h3, h4⟩ := s
  exact ⟨b, h1, (get_put_ne ob (by omega)).trans h2, h3, h4⟩
theorem Lent.low {n k : Nat} {h : Hp} {v : V} {l : List (List Int)} {m : List V} {e : Nat} (s : Lent n h v l m e) (hk : k ≤ n) : Lent k h v l m e := by
  obtain ⟨b, h1, h2, h3, h4⟩ := s
  exact ⟨b, h1, h2, by omega, h4⟩
theorem at_amb {h : Hp} {b e : Nat} {l m : List V} (hg : h.get b = some (ambB (l ++ m) e)) (hb : b < h.next) : At h b 0 l := ⟨⟨_, hg, by simp, by simp⟩, hb⟩
theorem Lent.rw {n : Nat} {h : Hp} {v : V} {l : List (List Int)} {m : List V} {e k : Nat} (s : Lent n h v l m e) (hw : ∀ r ∈ l, r.length = k) : ∃ a, v = .slice (some a) l.length (.tl 0) ∧ Rw h k (some a) l := by
  obtain ⟨b, h1, h2, _, h3⟩ := s
  refine ⟨(b, 0), h1, ⟨fun r hr => ?_, .inr ⟨b, 0, rfl, at_amb h2 h3⟩⟩⟩
  obtain ⟨x, hx, rfl⟩ := List.mem_map.1 hr
  rw [rv_len]; exact hw x hx
/-- A type of rows of ints: how its values are filled. -/
structure RowT (P : Program) (k e bytes : Nat) (z : List V) (tl : List Int) : Prop where
  ty : TyIs P e k bytes z
  len : tl.length + 1 = k
  fill : ∀ x : Int, fillV z [(0, 1, .int .i64 x)] = some (rv (x :: tl))
  one : ∀ x : Int, fillV (reps 1 z) [(0, k, .agg (rv (x :: tl)))] = some (rv (x :: tl))
theorem app_nil {e w bytes : Nat} {z : List V} (T : TyIs P e w bytes z) (hw : w ≠ 0) (h : Hp) {y : V} {new : List V} {m : Nat} (hy : srcCells h w y = some (m, new)) (hm : new.length = m * w) (hc : new.all V.isCell = true) (hb : 2 * m * bytes ≤ 281474976710656) (hb2 : m ≤ 4611686018427387904) :
    ∃ v' h', appV P h e w (.slice none 0 (.ex 0)) y = .val v' h' ∧ Lst h.next h' v' new w e ∧ Keep h.next h h' := by
  by_cases h0 : m = 0
  · subst h0
    obtain rfl : new = [] := List.eq_nil_of_length_eq_zero (by rw [hm, Nat.zero_mul])
    refine ⟨_, h, ?_, Lst.nil _ _ _ _, .refl _ _⟩
    have guard : (decide (2 * (0 + 0) * ((P.info? e).map (·.bytes)).getD 0 > 2 ^ 48) || decide (0 + 0 > 2 ^ 62) || !((zeroT P e).any fun z => decide (z.length = sizeT P e))) = false := by
      rw [T.zero, T.size]
      simp [T.len]
    unfold appV
    simp only [hy]
    unfold appendV
    simp only [guard, Bool.false_eq_true, if_false]
    rfl
  · obtain ⟨v', h', h1, h2, h3, _⟩ := app_ok T hw (Lst.nil h.next h w e) (Nat.le_refl _) hy hm h0 hc (k := 0) (by simp) (by simpa using hb) (by omega)
    exact ⟨v', h', h1, h2, h3⟩
theorem src_own {h : Hp} {b e k : Nat} {l : List V} (o : Own h b l e) (hl : l.length = k) (hk : k ≠ 0) : srcCells h k (.slice (some (b, 0)) 1 (.ex 1)) = some (1, l) := by
  show (if 1 * k = 0 then some (1, []) else (loadL h b 0 (1 * k)).map fun m => (1, m)) = _
  rw [if_neg (by omega), Nat.one_mul]
  have := o.loadL 0 k
  rw [if_pos (by omega), List.drop_zero, ← hl, List.take_length] at this
  rw [← hl, this]; rfl
theorem gLent_ok {f k e bytes : Nat} {z : List V} {tl : List Int} (H : FnIs P Y f 15 [.tmp 2] (gLent k e z)) (T : RowT P k e bytes z tl) {h : Hp} {a : Option (Nat × Nat)} {c : Cap} {l : List (List Int)} (hl : Rw h k a l) {n : Nat} (hn : n = l.length) (hb : 2 * (n + 1) * bytes ≤ 281474976710656) (hb2 : n + 1 ≤ 4611686018427387904) :
    CW P Y f [.slice a n c] none h (fun q => ∃ v h', Grow h h' ∧ Lent h.next h' v l (rv (-71 :: tl)) e ∧ q = .ret v none h') := by
  subst hn
  have hk : k ≠ 0 := by have := T.len; omega
  refine CW_ic H (Nat.le_of_ble_eq_true rfl) ?_
  unfold gLent
  obtain ⟨v1, h1, ha1, s1, k1⟩ := app_nil T.ty hk h (hl.src c) (fl_len hl.wid) (fl_cell l) (by have : 2 * l.length * bytes ≤ 2 * (l.length + 1) * bytes := Nat.mul_le_mul_right _ (by omega); omega) (by omega)
  have f1 := T.fill (-71)
  have f2 := T.one (-71)
  have hml : (rv (-71 :: tl)).length = k := by rw [rv_len]; exact T.len
  have g2 := Grow.new h1 (newBlk (rv (-71 :: tl)) e)
  have o2 := Own.of_new h1 (rv (-71 :: tl)) e
  generalize hh2 : h1.new (newBlk (rv (-71 :: tl)) e) = h2 at g2 o2
  have s2 := s1.grow g2
  have hn2 : h.next ≤ h2.next := Nat.le_trans k1.next g2.next
  obtain ⟨v2, h3, ha2, s3, k3, _, b, rfl⟩ := app_ok T.ty hk s2 hn2 (src_own o2 hml hk) (by rw [hml, Nat.one_mul]) (by omega) (rv_cell _) (k := l.length) (fl_len hl.wid) hb hb2
  obtain ⟨b', k', hv, hlen, hget, hnb, hlt⟩ : ∃ b' k', V.slice (some (b, 0)) (l.length + 1) (.tl 0) = .slice (some (b', 0)) k' (.tl 0) ∧ (fl l ++ rv (-71 :: tl)).length = k' * k ∧ h3.get b' = some (ambB (fl l ++ rv (-71 :: tl)) e) ∧ h.next ≤ b' ∧ b' < h3.next := by
    rcases s3.is with ⟨hv, _⟩ | h5
    · cases hv
    · exact h5
  cases hv
  have e1 : decide (0 ≤ l.length) = true := by simp
  have e2 : decide (l.length ≤ l.length + 1) = true := by simp
  simp only [zaa, zac, zah, zai, zaj, zak, zal, zam, zaq, zax, zay, zbi, zbk, List.map_cons, List.map_nil, zbl, zbm, Nat.reduceEqDiff, Option.map_some, Bool.and_self, Nat.zero_add, Nat.add_zero, r_1, Nat.zero_mul, Bool.true_and, zdj, zdm, Option.getD_none, Option.getD_some, Nat.zero_le, decide_true, Nat.sub_zero, Option.isSome_some, Bool.true_or, a_t, a_v, zdo, zdp, zeo, zep, zey, zez, zfa, zfc, zfd, zfg, zfh, if_true, if_false, ha1, f1, f2, hh2, ha2, e2]
  exact ⟨_, h3, (k1.trans ((g2.keep k1.next).trans k3)).grow, ⟨b, rfl, hget, hnb, hlt⟩, rfl⟩
theorem in_slN (n : Nat) (c : Cap) : isNilV 2 (.slice none n c) = some true := _root_.id rfl
theorem in_slS (a : Nat × Nat) (n : Nat) (c : Cap) : isNilV 2 (.slice (some a) n c) = some false := _root_.id rfl
theorem drop_fl {k : Nat} {l : List (List Int)} (hw : ∀ r ∈ l, r.length = k) (m : List V) : (fl l ++ m).drop (l.length * k) = m := by
  rw [← fl_len hw, List.drop_left]
theorem gKept_ok {f fq k e bytes : Nat} {z : List V} {tl : List Int} (H : FnIs P Y f 21 [.tmp 4] (gKept k e z (List.replicate k 1) fq)) (Hq : FnIs P Y fq 26 [.tmp 4] (gEq k (List.replicate k 1))) (T : RowT P k e bytes z tl)
    {h : Hp} {a : Option (Nat × Nat)} {c : Cap} {v : V} {l m : List (List Int)} {nn : Nat} (hl : Lent nn h v l (rv (-71 :: tl)) e) (hw : ∀ r ∈ l, r.length = k) (hm : Rw h k a m) {n : Nat} (hn : n = m.length) (hb : l.length < 9223372036854775807) :
    CW P Y f [v, .slice a n c] none h (fun q => q = .ret (.bool (decide (l = m))) none h) := by
  have hk : k ≠ 0 := by have := T.len; omega
  refine CW_ic H (Nat.le_of_ble_eq_true rfl) ?_
  obtain ⟨a0, hv, hrw⟩ := hl.rw hw
  obtain ⟨b, hv2, hget, _, hlow⟩ := hl
  subst hv
  cases hv2
  unfold gKept
  simp only [zaa, zac, zai, zaj, zak, zal, zam, zaq, zas, zax, zay, zbi, zbk, List.map_cons, List.map_nil, zbl, zbm, Nat.reduceEqDiff, Nat.reduceAdd, Nat.zero_add, a_t, a_v, zdp, zes, if_true, if_false]
  refine (gEq_ok Hq hrw hm rfl hn (by omega)).mono ?_
  rintro _ rfl
  by_cases he : l = m
  · have e0 : decide (l = m) = true := decide_eq_true he
    have hcap : capI h (some (b, 0)) e k (.tl 0) = l.length + 1 := by
      unfold capI
      simp only [hget, ambB]
      rw [if_pos (by simp [hk]), List.length_append, fl_len hw, rv_len, show (-71 :: tl).length = k from T.len, Nat.sub_zero, ← Nat.succ_mul, Nat.mul_div_cancel _ (Nat.pos_of_ne_zero hk)]
    have w1 : IntKind.i64.wrap ((l.length : Int) + 1) = ((l.length + 1 : Nat) : Int) := by rw [wrap_i64 (by omega) (by omega)]; rfl
    have e1 : decide (0 ≤ l.length + 1) = true := by simp
    have e2 : decide (l.length + 1 ≤ l.length) = false := by simp
    have e3 : decide (l.length + 1 ≤ l.length + 1) = true := by simp
    have e4 : decide ((l.length : Int) < ((l.length + 1 : Nat) : Int)) = true := decide_eq_true (by omega)
    have hld : loadL h b (l.length * k) k = some (rv (-71 :: tl)) := by
      unfold loadL
      rw [hget]
      simp only [ambB]
      rw [if_pos (by rw [List.length_append, fl_len hw, rv_len]; have := T.len; simp only [List.length_cons]; omega), drop_fl hw, ← show (rv (-71 :: tl)).length = k by rw [rv_len]; exact T.len, List.take_length]
    have f1 := T.fill (-71)
    have hek := eqKs_rows (-71 :: tl) (-71 :: tl) rfl
    rw [show (-71 :: tl).length = k from T.len, decide_eq_true rfl] at hek
    have e5 : decide (l.length ≤ l.length) = true := by simp
    simp only [zah, zai, zaj, zak, zal, zam, zaq, zav, zax, zay, zbi, zbk, List.map_cons, List.map_nil, Nat.reduceEqDiff, Option.map_some, zch, zcu, Bool.and_self, Nat.zero_add, Nat.add_zero, zdb, zdc, zdg, r_1, Nat.zero_mul, Int.toNat_natCast, zdh, zdj, zdm, Option.getD_none, Option.getD_some, Nat.zero_le, decide_true, Nat.sub_zero, Option.isSome_some, Bool.or_true, a_t, a_v, zdo, zdp, zdq, zdr, zdt, zed, zee, zeh, zei, zeo, zep, zey, zez, zfa, zfc, zfd, if_true, if_false, Nat.reduceLeDiff, zfi, zfj, e0, w1, e2, e4, e5, hcap, hld, f1, hek]
  · have e0 : decide (l = m) = false := decide_eq_false he
    simp only [zah, zai, zaj, zak, zal, zam, zan, zaq, zav, zax, zay, zbi, zbk, Nat.reduceEqDiff, zdb, zdc, zde, r_1, a_t, a_v, zdp, zdq, zds, if_true, if_false, e0]
/-- A block of one's own, of exact length or not. -/
def obX (ex : Bool) (l : List V) (e : Nat) : Ob := .cells { l, elem := e, exact := ex, rw := true, frz := (0, 0) }
structure OwnX (ex : Bool) (h : Hp) (b : Nat) (l : List V) (e : Nat) : Prop where
  is : h.get b = some (obX ex l e)
  low : b < h.next
section
variable {ex : Bool} {h h' : Hp} {b : Nat} {l : List V} {e : Nat}
theorem Own.x (o : Own h b l e) : OwnX true h b l e := ⟨o.is, o.low⟩
theorem OwnX.own (o : OwnX true h b l e) : Own h b l e := ⟨o.is, o.low⟩
theorem OwnX.grow (o : OwnX ex h b l e) (g : Grow h h') : OwnX ex h' b l e := ⟨(g.get b o.low).trans o.is, Nat.lt_of_lt_of_le o.low g.next⟩
theorem OwnX.keep {n : Nat} (o : OwnX ex h b l e) (hb : b < n) (g : Keep n h h') : OwnX ex h' b l e := ⟨(g.get b hb).trans o.is, Nat.lt_of_lt_of_le o.low g.next⟩
theorem OwnX.load1 (o : OwnX ex h b l e) (i : Nat) : load1 h b i = l[i]? := by unfold Vm.load1; rw [o.is]; rfl
theorem OwnX.loadL (w : OwnX ex h b l e) (o n : Nat) : loadL h b o n = if o + n ≤ l.length then some ((l.drop o).take n) else none := by unfold Vm.loadL; rw [w.is]; rfl
theorem OwnX.storeL (w : OwnX ex h b l e) (o : Nat) (vs : List V) (hv : vs ≠ []) (ho : o + vs.length ≤ l.length) (hc : vs.all V.isCell = true) : storeL h b o vs = some (h.put b (obX ex (splice l o vs) e)) := by
  unfold Vm.storeL
  cases vs with
  | nil => exact absurd rfl hv
  | cons v vs =>
    dsimp only
    rw [w.is]
    simp only [obX]
    rw [if_pos (by simp only [List.length_cons] at ho; simp [ho, hc])]
theorem OwnX.put (w : OwnX ex h b l e) (m : List V) : OwnX ex (h.put b (obX ex m e)) b m e := ⟨get_put_same _ _ _, w.low⟩
theorem OwnX.put_ne {c : Nat} (w : OwnX ex h c l e) (ob : Ob) (hne : b ≠ c) : OwnX ex (h.put b ob) c l e := ⟨(get_put_ne ob hne).trans w.is, w.low⟩
theorem OwnX.at (w : OwnX ex h b l e) : At h b 0 l := ⟨⟨_, w.is, by simp, by simp⟩, w.low⟩
theorem OwnX.rw {k : Nat} {rs : List (List Int)} (w : OwnX ex h b (fl rs) e) (hw : ∀ r ∈ rs, r.length = k) : Rw h k (some (b, 0)) rs :=
  ⟨fun r hr => by obtain ⟨x, hx, rfl⟩ := List.mem_map.1 hr; rw [rv_len]; exact hw x hx, .inr ⟨b, 0, rfl, w.at⟩⟩
end
/-- A slice's cells are one's own, from number n on; or there are none. -/
structure Mine (n : Nat) (h : Hp) (a : Option (Nat × Nat)) (l : List V) (e : Nat) : Prop where
  is : (a = none ∧ l = []) ∨ ∃ ex b, a = some (b, 0) ∧ n ≤ b ∧ OwnX ex h b l e
theorem Mine.grow {n : Nat} {h h' : Hp} {a : Option (Nat × Nat)} {l : List V} {e : Nat} (s : Mine n h a l e) (g : Grow h h') : Mine n h' a l e := ⟨s.is.imp id fun ⟨ex, b, h1, h2, h3⟩ => ⟨ex, b, h1, h2, h3.grow g⟩⟩
theorem Mine.rw {n k : Nat} {h : Hp} {a : Option (Nat × Nat)} {rs : List (List Int)} {e : Nat} (s : Mine n h a (fl rs) e) (hk : k ≠ 0) (hw : ∀ r ∈ rs, r.length = k) : Rw h k a rs := by
  rcases s.is with ⟨rfl, h2⟩ | ⟨ex, b, rfl, _, h3⟩
  · have : rs = [] := by
      have h3 := fl_len hw
      rw [h2] at h3
      cases rs with
      | nil => rfl
      | cons r rs => simp [Nat.succ_mul] at h3; omega
    subst this
    exact ⟨fun _ h => (by cases h), .inl rfl⟩
  · exact h3.rw hw
theorem gClip_ok {f k e : Nat} (H : FnIs P Y f 9 [.tmp 2] (gClip k e)) {h : Hp} (a : Option (Nat × Nat)) (n : Nat) (c : Cap) :
    CW P Y f [.slice a n c] none h (fun q => q = .ret (.slice a n (.ex n)) none h) := by
  refine CW_ic H (Nat.le_of_ble_eq_true rfl) ?_
  unfold gClip
  have e1 : decide (n ≤ n) = true := by simp
  simp only [zaa, zac, zah, zai, zaj, zak, zal, zam, zaq, zax, zay, zbi, zbk, zbl, zbm, Nat.reduceEqDiff, Option.map_some, Bool.and_self, Nat.zero_add, Nat.add_zero, r_1, Nat.zero_mul, zdj, Option.getD_none, Option.getD_some, Nat.zero_le, decide_true, Nat.sub_zero, Option.isSome_some, a_t, a_v, zdp, zeo, zep, zez, zfb, zfc, zfd, if_true, if_false, e1]
  cases a <;> rfl
theorem gClone_ok {f k e bytes : Nat} {z : List V} {tl : List Int} (H : FnIs P Y f 8 [.tmp 2] (gClone k e)) (T : RowT P k e bytes z tl) {h : Hp} {a : Option (Nat × Nat)} {c : Cap} {l : List (List Int)} (hl : Rw h k a l) {n : Nat} (hn : n = l.length) (hb : 2 * n * bytes ≤ 281474976710656) (hb2 : n ≤ 4611686018427387904) :
    CW P Y f [.slice a n c] none h (fun q => ∃ a' c' h', Grow h h' ∧ Mine h.next h' a' (fl l) e ∧ q = .ret (.slice a' n c') none h') := by
  subst hn
  have hk : k ≠ 0 := by have := T.len; omega
  refine CW_ic H (Nat.le_of_ble_eq_true rfl) ?_
  unfold gClone
  cases a with
  | none =>
    have : l = [] := by
      rcases Sl.pl hl with h0 | ⟨b, o, h0, _⟩
      · simpa using h0
      · cases h0
    subst this
    simp only [zaa, zac, zae, zah, zai, zaj, zak, zal, zam, zao, zaq, zax, zay, zaz, zbi, zbk, zbl, zbm, Nat.reduceEqDiff, Option.map_some, zcu, Nat.zero_add, r_1, a_t, a_v, zdo, zdp, zdv, if_true, if_false, List.length_nil, in_slN]
    exact ⟨none, _, h, .refl _, ⟨.inl ⟨rfl, rfl⟩⟩, rfl⟩
  | some p =>
    have g1 := Grow.new h (newBlk [] e)
    have o1 := Own.of_new h [] e
    have hrep : reps 0 ([] : List V) = [] := rfl
    have f0 : fillV ([] : List V) [] = some [] := rfl
    generalize hh1 : h.new (newBlk [] e) = h1 at g1 o1
    have hsrc := (hl.grow g1).src c
    have guard : (decide (2 * (0 + l.length) * ((P.info? e).map (·.bytes)).getD 0 > 2 ^ 48) || decide (0 + l.length > 2 ^ 62) || !((zeroT P e).any fun z => decide (z.length = sizeT P e))) = false := by
      rw [T.ty.bytes, T.ty.zero, T.ty.size]
      simp [T.ty.len]
      omega
    obtain ⟨a', c', h2, happ, hg, hm⟩ : ∃ a' c' h2, appV P h1 e k (.slice (some (h.next, 0)) 0 (.ex 0)) (.slice (some p) l.length c) = .val (.slice a' l.length c') h2 ∧ Grow h1 h2 ∧ Mine h.next h2 a' (fl l) e := by
      by_cases h0 : l.length = 0
      · obtain rfl : l = [] := List.eq_nil_of_length_eq_zero h0
        refine ⟨some (h.next, 0), .ex 0, h1, ?_, .refl _, ⟨.inr ⟨true, h.next, rfl, Nat.le_refl _, o1.x⟩⟩⟩
        unfold appV
        simp only [hsrc]
        unfold appendV
        simp only [guard, Bool.false_eq_true, if_false]
        rfl
      · refine ⟨some (h1.next, 0), .tl 0, h1.new (ambB (fl l) e), ?_, Grow.new _ _, ⟨.inr ⟨false, h1.next, rfl, g1.next, ⟨get_new_same _ _, Nat.lt_succ_self _⟩⟩⟩⟩
        unfold appV
        simp only [hsrc]
        unfold appendV
        simp only [guard, Bool.false_eq_true, if_false]
        have hl0 := o1.loadL 0 0
        rw [if_neg (by omega)]
        simp only [T.ty.size, Nat.zero_mul, hl0]
        simp [orBad, fl_cell, newAmb, ambB]
    simp only [zaa, zab, zac, zae, zah, zai, zaj, zak, zal, zam, zap, zaq, zax, zay, zbi, zbk, List.map_nil, zbl, zbm, Nat.reduceEqDiff, Option.map_some, zcu, Nat.zero_add, r_1, a_t, a_v, zdo, zdp, zdv, zfg, zfh, if_true, if_false, in_slS, hrep, f0, hh1, happ]
    exact ⟨a', c', h2, g1.trans hg, hm, rfl⟩
end Go.Vm
