/- The kit's functions over lists of rows of ints: compared, lent with a mark behind, still as they were, copied, clipped. -/
import Derived.Test.YtodpkcebihbghaaGreatDoorWpF6
import Derived.Test.YtodpkcebihbghaaGreatDoorWpUtil
import Derived.Test.YtodpkcebihbghaaGreatDoorWpApp
set_option linter.unusedVariables false
set_option linter.unusedSimpArgs false
namespace Go.Vm
variable {P : Program} {Y : Fns} {I : Ids}
def rv (r : List Int) : List V := r.map iv
theorem rv_len (r : List Int) : (rv r).length = r.length := by simp [rv]
theorem rv_cell (r : List Int) : (rv r).all V.isCell = true := by simp [rv, V.isCell]
/-- A slice of rows of ints. -/
def Rw (h : Hp) (k : Nat) (a : Option (Nat × Nat)) (l : List (List Int)) : Prop := Sl h k a (l.map rv)
theorem Rw.grow {h h' : Hp} {k : Nat} {a : Option (Nat × Nat)} {l : List (List Int)} (s : Rw h k a l) (g : Grow h h') : Rw h' k a l := Sl.grow s g
theorem Rw.wid {h : Hp} {k : Nat} {a : Option (Nat × Nat)} {l : List (List Int)} (s : Rw h k a l) : ∀ r ∈ l, r.length = k := fun r hr => by
  have := Sl.wid s (rv r) (List.mem_map.2 ⟨r, hr, rfl⟩)
  rwa [rv_len] at this
theorem Rw.get {h : Hp} {k : Nat} {a : Option (Nat × Nat)} {l : List (List Int)} (s : Rw h k a l) {i : Nat} (hi : i < l.length) : ∃ b o, a = some (b, o) ∧ At h b (o + i * k) (rv l[i]) ∧ b < h.next := by
  obtain ⟨b, o, h1, h2⟩ := Sl.at s (i := i) (by simpa using hi)
  simp only [List.getElem_map] at h2
  exact ⟨b, o, h1, h2, h2.low⟩
/-- Rows' cells in a row. -/
def fl (l : List (List Int)) : List V := (l.map rv).flatten
theorem fl_len {k : Nat} : ∀ {l : List (List Int)}, (∀ r ∈ l, r.length = k) → (fl l).length = l.length * k
  | [], _ => by simp [fl]
  | r :: l, h => by
    have ih := fl_len (l := l) fun r hr => h r (List.mem_cons_of_mem _ hr)
    unfold fl at ih ⊢
    simp only [List.map_cons, List.flatten_cons, List.length_append, rv_len, ih, h r List.mem_cons_self, List.length_cons, Nat.succ_mul]
    omega
theorem fl_cell : ∀ l : List (List Int), (fl l).all V.isCell = true
  | [] => rfl
  | r :: l => by
    have ih := fl_cell l
    unfold fl at ih ⊢
    simp only [List.map_cons, List.flatten_cons, List.all_append, rv_cell, ih, Bool.and_self]
theorem Rw.src {h : Hp} {k : Nat} {a : Option (Nat × Nat)} {l : List (List Int)} (s : Rw h k a l) (c : Cap) : srcCells h k (.slice a l.length c) = some (l.length, fl l) := by
  have hw := fl_len s.wid
  rcases Sl.pl s with h0 | ⟨b, o, rfl, hat⟩
  · obtain rfl : l = [] := by simpa using h0
    cases a with
    | none => rfl
    | some p => obtain ⟨b, o⟩ := p; simp [srcCells, fl]
  · show (if l.length * k = 0 then some (l.length, []) else (loadL h b o (l.length * k)).map fun m => (l.length, m)) = _
    by_cases hz : l.length * k = 0
    · rw [if_pos hz]
      have : fl l = [] := List.eq_nil_of_length_eq_zero (by rw [hw, hz])
      rw [this]
    · rw [if_neg hz]
      have := hat.loadL
      rw [show (List.map rv l).flatten = fl l from rfl, hw] at this
      rw [this]; rfl
/-- What was lent: the rows, a mark behind; in a block from number n on. -/
structure Lent (n : Nat) (h : Hp) (v : V) (l : List (List Int)) (m : List V) (e : Nat) : Prop where
  is : ∃ b, v = .slice (some (b, 0)) l.length (.tl 0) ∧ h.get b = some (ambB (fl l ++ m) e) ∧ n ≤ b ∧ b < h.next
theorem Lent.grow {n : Nat} {h h' : Hp} {v : V} {l : List (List Int)} {m : List V} {e : Nat} (s : Lent n h v l m e) (g : Grow h h') : Lent n h' v l m e := by
  obtain ⟨b, h1, h2, h3, h4⟩ := s
  exact ⟨b, h1, (g.get b h4).trans h2, h3, Nat.lt_of_lt_of_le h4 g.next⟩
theorem Lent.put {n c : Nat} {h : Hp} {v : V} {l : List (List Int)} {m : List V} {e : Nat} (s : Lent n h v l m e) (hc : c < n) (ob : Ob) : Lent n (h.put c ob) v l m e := by
  obtain ⟨b, h1, h2, h3, h4⟩ := s
  exact ⟨b, h1, (get_put_ne ob (by omega)).trans h2, h3, h4⟩
theorem Lent.low {n k : Nat} {h : Hp} {v : V} {l : List (List Int)} {m : List V} {e : Nat} (s : Lent n h v l m e) (hk : k ≤ n) : Lent k h v l m e := by
  obtain ⟨b, h1, h2, h3, h4⟩ := s
  exact ⟨b, h1, h2, by omega, h4⟩
theorem at_amb {h : Hp} {b e : Nat} {l m : List V} (hg : h.get b = some (ambB (l ++ m) e)) (hb : b < h.next) : At h b 0 l := ⟨⟨_, hg, by simp, by simp⟩, hb⟩
theorem Lent.rw {n : Nat} {h : Hp} {v : V} {l : List (List Int)} {m : List V} {e k : Nat} (s : Lent n h v l m e) (hw : ∀ r ∈ l, r.length = k) : ∃ a, v = .slice (some a) l.length (.tl 0) ∧ Rw h k (some a) l := by
  obtain ⟨b, h1, h2, _, h3⟩ := s
  refine ⟨(b, 0), h1, ⟨fun r hr => ?_, .inr ⟨b, 0, rfl, at_amb h2 h3⟩⟩⟩
  obtain ⟨x, hx, rfl⟩ := List.mem_map.1 hr
  rw [rv_len]; exact hw x hx
/-- A type of rows of ints: how its values are filled. -/
structure RowT (P : Program) (k e bytes : Nat) (z : List V) (tl : List Int) : Prop where
  ty : TyIs P e k bytes z
  len : tl.length + 1 = k
  fill : ∀ x : Int, fillV z [(0, 1, .int .i64 x)] = some (rv (x :: tl))
  one : ∀ x : Int, fillV (reps 1 z) [(0, k, .agg (rv (x :: tl)))] = some (rv (x :: tl))
theorem app_nil {e w bytes : Nat} {z : List V} (T : TyIs P e w bytes z) (hw : w ≠ 0) (h : Hp) {y : V} {new : List V} {m : Nat} (hy : srcCells h w y = some (m, new)) (hm : new.length = m * w) (hc : new.all V.isCell = true) (hb : 2 * m * bytes ≤ 281474976710656) (hb2 : m ≤ 4611686018427387904) :
    ∃ v' h', appV P h e w (.slice none 0 (.ex 0)) y = .val v' h' ∧ Lst h.next h' v' new w e ∧ Keep h.next h h' := by
  by_cases h0 : m = 0
  · subst h0
    obtain rfl : new = [] := List.eq_nil_of_length_eq_zero (by rw [hm, Nat.zero_mul])
    refine ⟨_, h, ?_, Lst.nil _ _ _ _, .refl _ _⟩
    have guard : (decide (2 * (0 + 0) * ((P.info? e).map (·.bytes)).getD 0 > 2 ^ 48) || decide (0 + 0 > 2 ^ 62) || !((zeroT P e).any fun z => decide (z.length = sizeT P e))) = false := by
      rw [T.zero, T.size]
      simp [T.len]
    unfold appV
    simp only [hy]
    unfold appendV
    simp only [guard, Bool.false_eq_true, if_false]
    rfl
  · obtain ⟨v', h', h1, h2, h3, _⟩ := app_ok T hw (Lst.nil h.next h w e) (Nat.le_refl _) hy hm h0 hc (k := 0) (by simp) (by simpa using hb) (by omega)
    exact ⟨v', h', h1, h2, h3⟩
theorem src_own {h : Hp} {b e k : Nat} {l : List V} (o : Own h b l e) (hl : l.length = k) (hk : k ≠ 0) : srcCells h k (.slice (some (b, 0)) 1 (.ex 1)) = some (1, l) := by
  show (if 1 * k = 0 then some (1, []) else (loadL h b 0 (1 * k)).map fun m => (1, m)) = _
  rw [if_neg (by omega), Nat.one_mul]
  have := o.loadL 0 k
  rw [if_pos (by omega), List.drop_zero, ← hl, List.take_length] at this
  rw [← hl, this]; rfl
theorem in_slN (n : Nat) (c : Cap) : isNilV 2 (.slice none n c) = some true := _root_.id rfl
theorem in_slS (a : Nat × Nat) (n : Nat) (c : Cap) : isNilV 2 (.slice (some a) n c) = some false := _root_.id rfl
/-- A block of one's own, of exact length or not. -/
def obX (ex : Bool) (l : List V) (e : Nat) : Ob := .cells { l, elem := e, exact := ex, rw := true, frz := (0, 0) }
structure OwnX (ex : Bool) (h : Hp) (b : Nat) (l : List V) (e : Nat) : Prop where
  is : h.get b = some (obX ex l e)
  low : b < h.next
section
variable {ex : Bool} {h h' : Hp} {b : Nat} {l : List V} {e : Nat}
theorem Own.x (o : Own h b l e) : OwnX true h b l e := ⟨o.is, o.low⟩
theorem OwnX.own (o : OwnX true h b l e) : Own h b l e := ⟨o.is, o.low⟩
theorem OwnX.grow (o : OwnX ex h b l e) (g : Grow h h') : OwnX ex h' b l e := ⟨(g.get b o.low).trans o.is, Nat.lt_of_lt_of_le o.low g.next⟩
theorem OwnX.keep {n : Nat} (o : OwnX ex h b l e) (hb : b < n) (g : Keep n h h') : OwnX ex h' b l e := ⟨(g.get b hb).trans o.is, Nat.lt_of_lt_of_le o.low g.next⟩
theorem OwnX.load1 (o : OwnX ex h b l e) (i : Nat) : load1 h b i = l[i]? := by unfold Vm.load1; rw [o.is]; rfl
theorem OwnX.loadL (w : OwnX ex h b l e) (o n : Nat) : loadL h b o n = if o + n ≤ l.length then some ((l.drop o).take n) else none := by unfold Vm.loadL; rw [w.is]; rfl
theorem OwnX.storeL (w : OwnX ex h b l e) (o : Nat) (vs : List V) (hv : vs ≠ []) (ho : o + vs.length ≤ l.length) (hc : vs.all V.isCell = true) : storeL h b o vs = some (h.put b (obX ex (splice l o vs) e)) := by
  unfold Vm.storeL
  cases vs with
  | nil => exact absurd rfl hv
  | cons v vs =>
    dsimp only
    rw [w.is]
    simp only [obX]
    rw [if_pos (by simp only [List.length_cons] at ho; simp [ho, hc])]
theorem OwnX.put (w : OwnX ex h b l e) (m : List V) : OwnX ex (h.put b (obX ex m e)) b m e := ⟨get_put_same _ _ _, w.low⟩
theorem OwnX.put_ne {c : Nat} (w : OwnX ex h c l e) (ob : Ob) (hne : b ≠ c) : OwnX ex (h.put b ob) c l e := ⟨(get_put_ne ob hne).trans w.is, w.low⟩
theorem OwnX.at (w : OwnX ex h b l e) : At h b 0 l := ⟨⟨_, w.is, by simp, by simp⟩, w.low⟩
theorem OwnX.rw {k : Nat} {rs : List (List Int)} (w : OwnX ex h b (fl rs) e) (hw : ∀ r ∈ rs, r.length = k) : Rw h k (some (b, 0)) rs :=
  ⟨fun r hr => by obtain ⟨x, hx, rfl⟩ := List.mem_map.1 hr; rw [rv_len]; exact hw x hx, .inr ⟨b, 0, rfl, w.at⟩⟩
end
/-- A slice's cells are one's own, from number n on; or there are none. -/
structure Mine (n : Nat) (h : Hp) (a : Option (Nat × Nat)) (l : List V) (e : Nat) : Prop where
  is : (a = none ∧ l = []) ∨ ∃ ex b, a = some (b, 0) ∧ n ≤ b ∧ OwnX ex h b l e
theorem Mine.grow {n : Nat} {h h' : Hp} {a : Option (Nat × Nat)} {l : List V} {e : Nat} (s : Mine n h a l e) (g : Grow h h') : Mine n h' a l e := ⟨s.is.imp id fun ⟨ex, b, h1, h2, h3⟩ => ⟨ex, b, h1, h2, h3.grow g⟩⟩
theorem Mine.rw {n k : Nat} {h : Hp} {a : Option (Nat × Nat)} {rs : List (List Int)} {e : Nat} (s : Mine n h a (fl rs) e) (hk : k ≠ 0) (hw : ∀ r ∈ rs, r.length = k) : Rw h k a rs := by
  rcases s.is with ⟨rfl, h2⟩ | ⟨ex, b, rfl, _, h3⟩
  · have : rs = [] := by
      have h3 := fl_len hw
      rw [h2] at h3
      cases rs with
      | nil => rfl
      | cons r rs => simp [Nat.succ_mul] at h3; omega
    subst this
    exact ⟨fun _ h => (by cases h), .inl rfl⟩
  · exact h3.rw hw
theorem gClip_ok {f k e : Nat} (H : FnIs P Y f 9 [.tmp 2] (gClip k e)) {h : Hp} (a : Option (Nat × Nat)) (n : Nat) (c : Cap) :
    CW P Y f [.slice a n c] none h (fun q => q = .ret (.slice a n (.ex n)) none h) := by
  refine CW_ic H (Nat.le_of_ble_eq_true rfl) ?_
  unfold gClip
  have e1 : decide (n ≤ n) = true := by simp
  simp only [zaa, zac, zah, zai, zaj, zak, zal, zam, zaq, zax, zay, zbi, zbk, zbl, zbm, Nat.reduceEqDiff, Option.map_some, Bool.and_self, Nat.zero_add, Nat.add_zero, r_1, Nat.zero_mul, zdj, Option.getD_none, Option.getD_some, Nat.zero_le, decide_true, Nat.sub_zero, Option.isSome_some, a_t, a_v, zdp, zeo, zep, zfa, zfc, zfd, zfe, if_true, if_false, e1]
  cases a <;> rfl
theorem gClone_ok {f k e bytes : Nat} {z : List V} {tl : List Int} (H : FnIs P Y f 8 [.tmp 2] (gClone k e)) (T : RowT P k e bytes z tl) {h : Hp} {a : Option (Nat × Nat)} {c : Cap} {l : List (List Int)} (hl : Rw h k a l) {n : Nat} (hn : n = l.length) (hb : 2 * n * bytes ≤ 281474976710656) (hb2 : n ≤ 4611686018427387904) :
    CW P Y f [.slice a n c] none h (fun q => ∃ a' c' h', Grow h h' ∧ Mine h.next h' a' (fl l) e ∧ q = .ret (.slice a' n c') none h') := by
  subst hn
  have hk : k ≠ 0 := by have := T.len; omega
  refine CW_ic H (Nat.le_of_ble_eq_true rfl) ?_
  unfold gClone
  cases a with
  | none =>
    have : l = [] := by
      rcases Sl.pl hl with h0 | ⟨b, o, h0, _⟩
      · simpa using h0
      · cases h0
    subst this
    simp only [zaa, zac, zae, zah, zai, zaj, zak, zal, zam, zao, zaq, zax, zay, zaz, zbi, zbk, zbl, zbm, Nat.reduceEqDiff, Option.map_some, zcu, Nat.zero_add, r_1, a_t, a_v, zdo, zdp, zdv, if_true, if_false, List.length_nil, in_slN]
    exact ⟨none, _, h, .refl _, ⟨.inl ⟨rfl, rfl⟩⟩, rfl⟩
  | some p =>
    have g1 := Grow.new h (newBlk [] e)
    have o1 := Own.of_new h [] e
    have hrep : reps 0 ([] : List V) = [] := rfl
    have f0 : fillV ([] : List V) [] = some [] := rfl
    generalize hh1 : h.new (newBlk [] e) = h1 at g1 o1
    have hsrc := (hl.grow g1).src c
    have guard : (decide (2 * (0 + l.length) * ((P.info? e).map (·.bytes)).getD 0 > 2 ^ 48) || decide (0 + l.length > 2 ^ 62) || !((zeroT P e).any fun z => decide (z.length = sizeT P e))) = false := by
      rw [T.ty.bytes, T.ty.zero, T.ty.size]
      simp [T.ty.len]
      omega
    obtain ⟨a', c', h2, happ, hg, hm⟩ : ∃ a' c' h2, appV P h1 e k (.slice (some (h.next, 0)) 0 (.ex 0)) (.slice (some p) l.length c) = .val (.slice a' l.length c') h2 ∧ Grow h1 h2 ∧ Mine h.next h2 a' (fl l) e := by
      by_cases h0 : l.length = 0
      · obtain rfl : l = [] := List.eq_nil_of_length_eq_zero h0
        refine ⟨some (h.next, 0), .ex 0, h1, ?_, .refl _, ⟨.inr ⟨true, h.next, rfl, Nat.le_refl _, o1.x⟩⟩⟩
        unfold appV
        simp only [hsrc]
        unfold appendV
        simp only [guard, Bool.false_eq_true, if_false]
        rfl
      · refine ⟨some (h1.next, 0), .tl 0, h1.new (ambB (fl l) e), ?_, Grow.new _ _, ⟨.inr ⟨false, h1.next, rfl, g1.next, ⟨get_new_same _ _, Nat.lt_succ_self _⟩⟩⟩⟩
        unfold appV
        simp only [hsrc]
        unfold appendV
        simp only [guard, Bool.false_eq_true, if_false]
        have hl0 := o1.loadL 0 0
        rw [if_neg (by omega)]
        simp only [T.ty.size, Nat.zero_mul, hl0]
        simp [orBad, fl_cell, newAmb, ambB]
    simp only [zaa, zab, zac, zae, zah, zai, zaj, zak, zal, zam, zap, zaq, zax, zay, zbi, zbk, List.map_nil, zbl, zbm, Nat.reduceEqDiff, Option.map_some, zcu, Nat.zero_add, r_1, a_t, a_v, zdo, zdp, zdv, zfh, zfi, if_true, if_false, in_slS, hrep, f0, hh1, happ]
    exact ⟨a', c', h2, g1.trans hg, hm, rfl⟩
end Go.Vm
/- Numbers put elsewhere: the program's and the document's answer are the same; pieces lent, compared, still as they were. -/
namespace Go.Vm
variable {P : Program} {Y : Fns} {I : Ids}
def wr (n : Int) : Int := IntKind.i64.wrap n
/-- Is a number, put by so much, none? The program's way. -/
def pb (a b c d e : Bool) : Bool := (!(a == b) && !c) || d || e
/-- The document's way. -/
def po (a b c d : Bool) : Bool := (a && b) || (c && d)
end Go.Vm
/- Pieces: lent, compared, still as they were. -/
namespace Go.Vm
variable {P : Program} {Y : Fns} {I : Ids}
structure Pc where
  fr : Int
  to : Int
  items : List (List Int)
  steps : List (List Int)
  deriving DecidableEq
/-- A piece's cells. -/
structure PcC (h : Hp) (cs : List V) (p : Pc) : Prop where
  is : ∃ ia ic sa sc, cs = [.int .i64 p.fr, .int .i64 p.to, .slice ia p.items.length ic, .slice sa p.steps.length sc] ∧ Rw h 4 ia p.items ∧ Rw h 3 sa p.steps
theorem PcC.grow {h h' : Hp} {cs : List V} {p : Pc} (s : PcC h cs p) (g : Grow h h') : PcC h' cs p := by
  obtain ⟨ia, ic, sa, sc, h1, h2, h3⟩ := s
  exact ⟨ia, ic, sa, sc, h1, h2.grow g, h3.grow g⟩
/-- A piece that was lent. -/
structure PcL (n : Nat) (I : Ids) (h : Hp) (cs : List V) (p : Pc) : Prop where
  is : ∃ v1 v2, cs = [.int .i64 p.fr, .int .i64 p.to, v1, v2] ∧ Lent n h v1 p.items (rv [-71, 0, 0, 0]) (I.t 197) ∧ Lent n h v2 p.steps (rv [-71, 0, 0]) (I.t 163)
theorem PcL.grow {n : Nat} {h h' : Hp} {cs : List V} {p : Pc} (s : PcL n I h cs p) (g : Grow h h') : PcL n I h' cs p := by
  obtain ⟨v1, v2, h1, h2, h3⟩ := s
  exact ⟨v1, v2, h1, h2.grow g, h3.grow g⟩
abbrev RI (P : Program) (I : Ids) : Prop := RowT P 4 (I.t 197) 32 [iv 0, iv 0, iv 0, iv 0] [0, 0, 0]
abbrev RS (P : Program) (I : Ids) : Prop := RowT P 3 (I.t 163) 24 [iv 0, iv 0, iv 0] [0, 0]
structure PcT (P : Program) (I : Ids) : Prop where
  agg : isAggT P (I.t 177) = true
  size : sizeT P (I.t 177) = 4
  ri : RI P I
  rs : RS P I
end Go.Vm
