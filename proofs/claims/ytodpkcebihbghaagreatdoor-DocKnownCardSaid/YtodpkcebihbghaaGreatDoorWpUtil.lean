/- What lies in the virtual heap: cells, slices, and what stays of them. -/
import Derived.Test.YtodpkcebihbghaaGreatDoorWpCode
set_option linter.unusedVariables false
set_option linter.unusedSimpArgs false
namespace Go.Vm
variable {P : Program} {Y : Fns}

/-- The numbers of functions, types, variables. -/
structure Ids where
  f : Nat → Nat
  t : Nat → Nat
  g : Nat → Nat
  e : Nat → Nat

/-- Nothing that was there was turned. -/
structure Grow (h h' : Hp) : Prop where
  next : h.next ≤ h'.next
  get : ∀ b, b < h.next → h'.get b = h.get b
theorem Grow.refl (h : Hp) : Grow h h := ⟨Nat.le_refl _, fun _ _ => rfl⟩
theorem Grow.trans {a b c : Hp} (x : Grow a b) (y : Grow b c) : Grow a c := ⟨Nat.le_trans x.next y.next, fun i hi => (y.get i (Nat.lt_of_lt_of_le hi x.next)).trans (x.get i hi)⟩
theorem Grow.new (h : Hp) (ob : Ob) : Grow h (h.new ob) := ⟨Nat.le_succ _, fun b hb => get_new ob hb⟩
theorem get_new_same (h : Hp) (ob : Ob) : (h.new ob).get h.next = some ob := by unfold Hp.get Hp.new; exact T.get_set_same _ _ _
theorem get_put_same (h : Hp) (b : Nat) (ob : Ob) : (h.put b ob).get b = some ob := by unfold Hp.get Hp.put; exact T.get_set_same _ _ _
theorem get_put_ne {h : Hp} {b c : Nat} (ob : Ob) (hbc : b ≠ c) : (h.put b ob).get c = h.get c := by unfold Hp.get Hp.put; exact T.get_set_ne (fun e => hbc (Pos.of_inj e)) _ _
theorem next_new (h : Hp) (ob : Ob) : (h.new ob).next = h.next + 1 := rfl
theorem next_put (h : Hp) (b : Nat) (ob : Ob) : (h.put b ob).next = h.next := rfl
theorem Grow.put {h h' : Hp} {b : Nat} (g : Grow h h') (hb : h.next ≤ b) (ob : Ob) : Grow h (h'.put b ob) := ⟨g.next, fun c hc => (get_put_ne ob (by omega)).trans (g.get c hc)⟩
/-- Of what was there below n nothing was turned. -/
structure Keep (n : Nat) (h h' : Hp) : Prop where
  next : h.next ≤ h'.next
  get : ∀ b, b < n → h'.get b = h.get b
theorem Keep.refl (n : Nat) (h : Hp) : Keep n h h := ⟨Nat.le_refl _, fun _ _ => rfl⟩
theorem Keep.trans {n : Nat} {a b c : Hp} (x : Keep n a b) (y : Keep n b c) : Keep n a c := ⟨Nat.le_trans x.next y.next, fun i hi => (y.get i hi).trans (x.get i hi)⟩
theorem Grow.keep {n : Nat} {h h' : Hp} (g : Grow h h') (hn : n ≤ h.next) : Keep n h h' := ⟨g.next, fun b hb => g.get b (Nat.lt_of_lt_of_le hb hn)⟩
theorem Keep.grow {h h' : Hp} (k : Keep h.next h h') : Grow h h' := ⟨k.next, k.get⟩
theorem Keep.new {n : Nat} {h h' : Hp} (k : Keep n h h') (hn : n ≤ h'.next) (ob : Ob) : Keep n h (h'.new ob) := k.trans ((Grow.new h' ob).keep hn)
theorem Keep.put {n b : Nat} {h h' : Hp} (k : Keep n h h') (hb : n ≤ b) (ob : Ob) : Keep n h (h'.put b ob) := ⟨k.next, fun c hc => (get_put_ne ob (by omega)).trans (k.get c hc)⟩

/-- Cells that lie at a place. -/
structure At (h : Hp) (b o : Nat) (l : List V) : Prop where
  is : ∃ x, h.get b = some (.cells x) ∧ o + l.length ≤ x.l.length ∧ (x.l.drop o).take l.length = l
  low : b < h.next
theorem At.grow {h h' : Hp} {b o : Nat} {l : List V} (a : At h b o l) (g : Grow h h') : At h' b o l := by
  obtain ⟨⟨x, h1, h2⟩, h3⟩ := a
  exact ⟨⟨x, (g.get b h3).trans h1, h2⟩, Nat.lt_of_lt_of_le h3 g.next⟩
theorem At.keep {n : Nat} {h h' : Hp} {b o : Nat} {l : List V} (a : At h b o l) (hb : b < n) (g : Keep n h h') : At h' b o l := by
  obtain ⟨⟨x, h1, h2⟩, h3⟩ := a
  exact ⟨⟨x, (g.get b hb).trans h1, h2⟩, Nat.lt_of_lt_of_le h3 g.next⟩
theorem At.loadL {h : Hp} {b o : Nat} {l : List V} (a : At h b o l) : loadL h b o l.length = some l := by
  obtain ⟨⟨x, h1, h2, h3⟩, _⟩ := a
  unfold Vm.loadL
  rw [h1]
  dsimp only
  rw [if_pos h2, h3]
theorem At.load1 {h : Hp} {b o i : Nat} {l : List V} (a : At h b o l) (hi : i < l.length) : load1 h b (o + i) = some l[i] := by
  obtain ⟨⟨x, h1, h2, h3⟩, _⟩ := a
  unfold Vm.load1
  rw [h1]
  dsimp only
  have := congrArg (fun m => m[i]?) h3
  simp only [List.getElem?_take, List.getElem?_drop, hi, if_true] at this
  rw [this, List.getElem?_eq_getElem hi]
theorem At.sub {h : Hp} {b o : Nat} {l m r : List V} (a : At h b o (l ++ (m ++ r))) : At h b (o + l.length) m := by
  obtain ⟨⟨x, h1, h2, h3⟩, h4⟩ := a
  simp only [List.length_append] at h2
  refine ⟨⟨x, h1, by omega, ?_⟩, h4⟩
  have e : x.l.drop o = (l ++ (m ++ r)) ++ x.l.drop (o + (l ++ (m ++ r)).length) := by
    have := (List.take_append_drop (l ++ (m ++ r)).length (x.l.drop o)).symm
    rw [h3, List.drop_drop] at this
    exact this
  rw [← List.drop_drop, e]
  simp
theorem At.of_new (h : Hp) (l : List V) (e : TypeId) : At (h.new (newBlk l e)) h.next 0 l := by
  refine ⟨⟨_, get_new_same _ _, ?_, ?_⟩, Nat.lt_succ_self _⟩ <;> simp

/-- A slice's cells, element by element, each w cells long. -/
structure Sl (h : Hp) (w : Nat) (a : Option (Nat × Nat)) (rs : List (List V)) : Prop where
  wid : ∀ r ∈ rs, r.length = w
  pl : rs = [] ∨ ∃ b o, a = some (b, o) ∧ At h b o rs.flatten
theorem Sl.grow {h h' : Hp} {w : Nat} {a : Option (Nat × Nat)} {rs : List (List V)} (s : Sl h w a rs) (g : Grow h h') : Sl h' w a rs := by
  obtain ⟨h1, h2⟩ := s
  exact ⟨h1, h2.imp id fun ⟨b, o, e, k⟩ => ⟨b, o, e, k.grow g⟩⟩
theorem flat_split {w : Nat} : ∀ {rs : List (List V)} {i : Nat} (hw : ∀ r ∈ rs, r.length = w) (hi : i < rs.length), rs.flatten = (rs.take i).flatten ++ (rs[i] ++ (rs.drop (i + 1)).flatten) ∧ (rs.take i).flatten.length = i * w
  | r :: rs, 0, hw, hi => ⟨by simp, by simp⟩
  | r :: rs, i + 1, hw, hi => by
    obtain ⟨h1, h2⟩ := flat_split (rs := rs) (i := i) (fun r hr => hw r (List.mem_cons_of_mem _ hr)) (by simpa using hi)
    refine ⟨?_, ?_⟩
    · simp only [List.flatten_cons, List.take_succ_cons, List.drop_succ_cons, List.getElem_cons_succ, List.append_assoc]
      rw [h1]
    · simp only [List.take_succ_cons, List.flatten_cons, List.length_append, h2, hw r (List.mem_cons_self ..), Nat.succ_mul]
      omega
/-- An element's cells. -/
theorem Sl.at {h : Hp} {w : Nat} {a : Option (Nat × Nat)} {rs : List (List V)} (s : Sl h w a rs) {i : Nat} (hi : i < rs.length) : ∃ b o, a = some (b, o) ∧ At h b (o + i * w) rs[i] := by
  obtain ⟨h1, h2⟩ := s
  rcases h2 with h2 | ⟨b, o, rfl, h2⟩
  · subst h2; simp at hi
  · obtain ⟨e, k⟩ := flat_split h1 hi
    rw [e] at h2
    have := h2.sub
    rw [k] at this
    exact ⟨b, o, rfl, this⟩
theorem Sl.sub {h : Hp} {w : Nat} {a : Option (Nat × Nat)} {rs : List (List V)} (s : Sl h w a rs) (l r : Nat) (hl : l ≤ r) (hr : r ≤ rs.length) : Sl h w (a.map fun (b, o) => (b, o + l * w)) ((rs.drop l).take (r - l)) := by
  obtain ⟨h1, h2⟩ := s
  refine ⟨fun x hx => h1 x (List.mem_of_mem_drop (List.mem_of_mem_take hx)), ?_⟩
  rcases h2 with h2 | ⟨b, o, rfl, h2⟩
  · subst h2; left; simp
  · right
    refine ⟨b, o + l * w, rfl, ?_⟩
    have e : rs = rs.take l ++ ((rs.drop l).take (r - l) ++ (rs.drop l).drop (r - l)) := by rw [List.take_append_drop, List.take_append_drop]
    have k : ∀ l, l ≤ rs.length → (rs.take l).flatten.length = l * w := fun l hl => by
      rcases Nat.lt_or_ge l rs.length with h | h
      · exact (flat_split h1 h).2
      · obtain rfl : l = rs.length := by omega
        rw [List.take_length]
        clear h2 e hl hr h
        induction rs with
        | nil => simp
        | cons r rs ih => simp only [List.flatten_cons, List.length_append, List.length_cons, h1 r (List.mem_cons_self ..), ih (fun x hx => h1 x (List.mem_cons_of_mem _ hx)), Nat.succ_mul]; omega
    rw [e, List.flatten_append, List.flatten_append] at h2
    have := h2.sub
    rw [k l (by omega)] at this
    exact this

/-! ### Plain lists -/
abbrev iv (n : Int) : V := .int .i64 n
def Ints (h : Hp) (a : Option (Nat × Nat)) (l : List Int) : Prop := Sl h 1 a (l.map fun n => [iv n])
def Strs (h : Hp) (a : Option (Nat × Nat)) (l : List (List UInt8)) : Prop := Sl h 1 a (l.map fun s => [V.str s])
theorem Ints.grow {h h' : Hp} {a : Option (Nat × Nat)} {l : List Int} (s : Ints h a l) (g : Grow h h') : Ints h' a l := Sl.grow s g
theorem Strs.grow {h h' : Hp} {a : Option (Nat × Nat)} {l : List (List UInt8)} (s : Strs h a l) (g : Grow h h') : Strs h' a l := Sl.grow s g
theorem Ints.get {h : Hp} {a : Option (Nat × Nat)} {l : List Int} (s : Ints h a l) {i : Nat} (hi : i < l.length) : ∃ b o, a = some (b, o) ∧ load1 h b (o + i) = some (iv l[i]) ∧ b < h.next := by
  obtain ⟨b, o, h1, h2⟩ := Sl.at s (i := i) (by simpa using hi)
  refine ⟨b, o, h1, ?_, h2.low⟩
  have := h2.load1 (i := 0) (by simp)
  simpa using this
theorem Strs.get {h : Hp} {a : Option (Nat × Nat)} {l : List (List UInt8)} (s : Strs h a l) {i : Nat} (hi : i < l.length) : ∃ b o, a = some (b, o) ∧ load1 h b (o + i) = some (.str l[i]) ∧ b < h.next := by
  obtain ⟨b, o, h1, h2⟩ := Sl.at s (i := i) (by simpa using hi)
  refine ⟨b, o, h1, ?_, h2.low⟩
  have := h2.load1 (i := 0) (by simp)
  simpa using this
theorem Ints.sub {h : Hp} {a : Option (Nat × Nat)} {l : List Int} (s : Ints h a l) (i j : Nat) (hi : i ≤ j) (hj : j ≤ l.length) : Ints h (a.map fun (b, o) => (b, o + i)) ((l.drop i).take (j - i)) := by
  have := Sl.sub s i j hi (by simpa using hj)
  unfold Ints
  simpa [List.map_take, List.map_drop] using this
theorem Strs.sub {h : Hp} {a : Option (Nat × Nat)} {l : List (List UInt8)} (s : Strs h a l) (i j : Nat) (hi : i ≤ j) (hj : j ≤ l.length) : Strs h (a.map fun (b, o) => (b, o + i)) ((l.drop i).take (j - i)) := by
  have := Sl.sub s i j hi (by simpa using hj)
  unfold Strs
  simpa [List.map_take, List.map_drop] using this

/-! ### Rules, grammars -/
structure GRule where
  left : Int
  right : List Int
  deriving DecidableEq, Inhabited
structure Gram where
  terms : List (List UInt8)
  nonterms : List (List UInt8)
  axi : Int
  rules : List GRule
  deriving Inhabited
/-- A rule's cells. -/
def RuleC (h : Hp) (row : List V) (r : GRule) : Prop := ∃ a c, row = [iv r.left, .slice a r.right.length c] ∧ Ints h a r.right
structure Rules (h : Hp) (a : Option (Nat × Nat)) (l : List GRule) : Prop where
  is : ∃ rows, Sl h 2 a rows ∧ rows.length = l.length ∧ ∀ (i : Nat) (row : List V) (r : GRule), rows[i]? = some row → l[i]? = some r → RuleC h row r
theorem RuleC.grow {h h' : Hp} {row : List V} {r : GRule} (s : RuleC h row r) (g : Grow h h') : RuleC h' row r := by
  obtain ⟨a, c, h1, h2⟩ := s; exact ⟨a, c, h1, h2.grow g⟩
theorem Rules.grow {h h' : Hp} {a : Option (Nat × Nat)} {l : List GRule} (s : Rules h a l) (g : Grow h h') : Rules h' a l := by
  obtain ⟨rows, h1, h2, h3⟩ := s
  exact ⟨rows, h1.grow g, h2, fun i row r e1 e2 => (h3 i row r e1 e2).grow g⟩
theorem Rules.get {h : Hp} {a : Option (Nat × Nat)} {l : List GRule} (s : Rules h a l) {i : Nat} (hi : i < l.length) : ∃ b o a' c', a = some (b, o) ∧ At h b (o + i * 2) [iv l[i].left, .slice a' l[i].right.length c'] ∧ Ints h a' l[i].right := by
  obtain ⟨rows, h1, h2, h3⟩ := s
  obtain ⟨b, o, k1, k2⟩ := h1.at (i := i) (by omega)
  obtain ⟨a', c', k3, k4⟩ := h3 i rows[i] l[i] (List.getElem?_eq_getElem _) (List.getElem?_eq_getElem _)
  rw [k3] at k2
  exact ⟨b, o, a', c', k1, k2, k4⟩
/-- A grammar's cells. -/
structure GramC (h : Hp) (cs : List V) (g : Gram) : Prop where
  is : ∃ ta tc na nc ra rc, cs = [.slice ta g.terms.length tc, .slice na g.nonterms.length nc, iv g.axi, .slice ra g.rules.length rc] ∧ Strs h ta g.terms ∧ Strs h na g.nonterms ∧ Rules h ra g.rules
theorem GramC.grow {h h' : Hp} {cs : List V} {g : Gram} (s : GramC h cs g) (k : Grow h h') : GramC h' cs g := by
  obtain ⟨ta, tc, na, nc, ra, rc, h1, h2, h3, h4⟩ := s
  exact ⟨ta, tc, na, nc, ra, rc, h1, h2.grow k, h3.grow k, h4.grow k⟩

/-! ### Numbers -/
theorem wrap_i64 {n : Int} (h1 : -9223372036854775808 ≤ n) (h2 : n ≤ 9223372036854775807) : IntKind.i64.wrap n = n := by
  unfold IntKind.wrap
  simp only [IntKind.bits, IntKind.signed, Bool.true_and, decide_eq_true_eq, show ((2 : Int) ^ (64 - 1 : Nat)) = 9223372036854775808 from rfl, show ((2 : Int) ^ (64 : Nat)) = 18446744073709551616 from rfl]
  split <;> omega
end Go.Vm
/- Small laws by which a walk over looked-up code goes on. -/
namespace Go.Vm
variable {P : Program} {Y : Fns}
theorem zbn (n : Int) : iv n = V.int .i64 n := id rfl
theorem zbo (l : List V) : (V.agg l).cells = l := id rfl
theorem zbp (k : IntKind) (n : Int) : (V.int k n).cells = [.int k n] := id rfl
theorem zbs (a : Option (Nat × Nat)) : (V.ptr a).cells = [.ptr a] := id rfl
theorem zbt (a : Option (Nat × Nat)) (n : Nat) (c : Cap) : (V.slice a n c).cells = [.slice a n c] := id rfl
theorem zbv : V.nilIface.cells = [.nilIface] := id rfl
theorem zby (k : IntKind) (n : Int) : (V.int k n).isCell = true := id rfl
theorem zcb (a : Option (Nat × Nat)) : (V.ptr a).isCell = true := id rfl
theorem zcc (a : Option (Nat × Nat)) (n : Nat) (c : Cap) : (V.slice a n c).isCell = true := id rfl
theorem zce : V.nilIface.isCell = true := id rfl
theorem zch (t : TypeId) (c : Bool) (a b : Int) : binV P .add t c (V.int .i64 a) (V.int .i64 b) = some (V.int .i64 (IntKind.i64.wrap (a + b))) := id rfl
theorem zci (t : TypeId) (c : Bool) (a b : Int) : binV P .sub t c (V.int .i64 a) (V.int .i64 b) = some (V.int .i64 (IntKind.i64.wrap (a - b))) := id rfl
theorem zck (t : TypeId) (c : Bool) (a b : Int) : binV P .lss t c (V.int .i64 a) (V.int .i64 b) = some (.bool (decide (a < b))) := id rfl
theorem zcl (t : TypeId) (c : Bool) (a b : Int) : binV P .leq t c (V.int .i64 a) (V.int .i64 b) = some (.bool (decide (a ≤ b))) := id rfl
theorem zcm (t : TypeId) (c : Bool) (a b : Int) : binV P .gtr t c (V.int .i64 a) (V.int .i64 b) = some (.bool (decide (a > b))) := id rfl
theorem zcn (t : TypeId) (c : Bool) (a b : Int) : binV P .geq t c (V.int .i64 a) (V.int .i64 b) = some (.bool (decide (a ≥ b))) := id rfl
theorem zcp (b : Bool) : unV .not (.bool b) = some (.bool !b) := id rfl
theorem zcq (a b : Int) : eqK 1 (V.int .i64 a) (V.int .i64 b) = some (a == b) := id rfl
theorem zct (b : Bool) : negIf true b = !b := id rfl
theorem zcu (b : Bool) : negIf false b = b := id rfl
theorem zcv : isNilV 1 .nilIface = some true := id rfl
theorem zcy (a : Nat × Nat) : isNilV 0 (.ptr (some a)) = some false := id rfl
theorem zdh (n : Nat) : decide ((0 : Int) ≤ (n : Int)) = true := by simp
theorem zdi : decide ((0 : Int) ≤ 0) = true := id rfl
theorem zdj (k : IntKind) (i : Nat) : natBound (.int k (i : Int)) = some i := by simp [natBound]
theorem zdk (k : IntKind) : natBound (.int k 0) = some 0 := id rfl
theorem zdl (k : IntKind) : natBound (.int k 1) = some 1 := id rfl
theorem zdm (c : Cap) : capOff c 0 = c := by cases c <;> rfl
theorem bq_ne {a b : Int} (h : a ≠ b) : (a == b) = false := by simp [h]
def wantV : V → Bool → Bool
  | .bool b, w => b == w
  | _, _ => false
theorem zdb (F : Frm) (t : Nat) (w : Bool) : wantI F (some (t, w)) = wantV (gt F t) w := by
  show (match gt F t with | .bool b => b == w | _ => false) = _
  cases gt F t <;> rfl
theorem zdc (b w : Bool) : wantV (.bool b) w = (b == w) := id rfl
theorem zdd : (false == false) = true := id rfl
theorem zde : (false == true) = false := id rfl
theorem zdf : (true == false) = false := id rfl
theorem zdg : (true == true) = true := id rfl
section
variable {omd md : Option Md} {Q : CR → Prop} {F : Frm} {h : Hp}
theorem r_0 : qCall P [] omd Q .ret { F := F, ds := [], md := md, h := h } = Q (.ret (.tuple []) md h) := by simp [qCall, resultsV, retV]
theorem r_1 (a : Nat) : qCall P [.tmp a] omd Q .ret { F := F, ds := [], md := md, h := h } = Q (.ret (gt F a) md h) := by simp [qCall, resultsV, retV, gt]
theorem r_2 (a b : Nat) : qCall P [.tmp a, .tmp b] omd Q .ret { F := F, ds := [], md := md, h := h } = Q (.ret (.tuple [gt F a, gt F b]) md h) := by simp [qCall, resultsV, retV, gt]
theorem n_0 : qCall P [] omd Q .normal { F := F, ds := [], md := md, h := h } = Q (.ret (.tuple []) md h) := by simp [qCall, resultsV, retV]
end
section ops
variable {F : Frm} {h : Hp}
theorem a_t (n : Nat) : ia F (.t n) = gt F n := id rfl
theorem a_v (x : V) : ia F (.v x) = x := id rfl
theorem zdo (v : V) : orVal h (some v) = .val v h := id rfl
theorem zdp (x : IA) : iV P F h (.mov x) = .val (ia F x) h := id rfl
def pickV (h : Hp) (c a b : V) : OR := match c with | .bool t => .val (if t then a else b) h | _ => .bad ""
theorem zdq (c a b : IA) : iV P F h (.pick c a b) = pickV h (ia F c) (ia F a) (ia F b) := id rfl
theorem zdr (a b : V) : pickV h (.bool true) a b = .val a h := id rfl
theorem zds (a b : V) : pickV h (.bool false) a b = .val b h := id rfl
theorem zdt (op : BinOp) (x y : IA) : iV P F h (.bin op x y) = orVal h (binV P op 0 false (ia F x) (ia F y)) := id rfl
theorem zdu (k : Nat) (n : Bool) (x y : IA) : iV P F h (.eqT k n x y) = orVal h ((eqK k (ia F x) (ia F y)).map fun b => .bool (negIf n b)) := id rfl
theorem zdv (k : Nat) (n : Bool) (x : IA) : iV P F h (.isN k n x) = orVal h ((isNilV k (ia F x)).map fun b => .bool (negIf n b)) := id rfl
theorem zdw (op : UnOp) (x : IA) : iV P F h (.un op x) = orVal h (unV op (ia F x)) := id rfl
def cvV (h : Hp) (k : IntKind) (v : V) : OR := match v with | .int _ n => .val (.int k (k.wrap n)) h | _ => .bad ""
theorem zdx (k : IntKind) (x : IA) : iV P F h (.cvI k x) = cvV h k (ia F x) := id rfl
theorem zdy (k j : IntKind) (n : Int) : cvV h k (.int j n) = .val (.int k (k.wrap n)) h := id rfl
theorem zea (f : FuncId) (a b : List IA) : iV P F h (.mkF f a b) = .val (.func f (a.map (ia F)) (b.map (ia F))) h := id rfl
def fadV (h : Hp) (off : Nat) (v : V) : OR := match v with | .ptr (some (b, o)) => .val (.ptr (some (b, o + off))) h | _ => .bad ""
theorem zeb (off : Nat) (x : IA) : iV P F h (.fad off x) = fadV h off (ia F x) := id rfl
theorem zec (off b o : Nat) : fadV h off (.ptr (some (b, o))) = .val (.ptr (some (b, o + off))) h := id rfl
def ixLV (h : Hp) (sz : Nat) (x i : V) : OR := match x, i with
  | .slice (some (b, o)) len _, .int _ n => if (decide (0 ≤ n) && decide (n < len)) = true then .val (.ptr (some (b, o + n.toNat * sz))) h else .bad ""
  | _, _ => .bad ""
theorem zed (sz : Nat) (x i : IA) : iV P F h (.ixL sz x i) = ixLV h sz (ia F x) (ia F i) := id rfl
theorem zee (sz b o len : Nat) (c : Cap) (k : IntKind) (n : Int) : ixLV h sz (.slice (some (b, o)) len c) (.int k n) = (if (decide (0 ≤ n) && decide (n < len)) = true then .val (.ptr (some (b, o + n.toNat * sz))) h else .bad "") := id rfl
def ld1V (h : Hp) (v : V) : OR := match v with | .ptr (some (b, i)) => orVal h (load1 h b i) | _ => .bad ""
theorem zef (x : IA) : iV P F h (.ld1 x) = ld1V h (ia F x) := id rfl
theorem zeg (b i : Nat) : ld1V h (.ptr (some (b, i))) = orVal h (load1 h b i) := id rfl
def ldNV (h : Hp) (n : Nat) (v : V) : OR := match v with | .ptr (some (b, i)) => orVal h ((loadL h b i n).map .agg) | _ => .bad ""
theorem zeh (n : Nat) (x : IA) : iV P F h (.ldN n x) = ldNV h n (ia F x) := id rfl
theorem zei (n b i : Nat) : ldNV h n (.ptr (some (b, i))) = orVal h ((loadL h b i n).map .agg) := id rfl
def stoV (h : Hp) (n : Nat) (a x : V) : OR := match a with
  | .ptr (some (b, i)) => if x.cells.length = n then (match storeL h b i x.cells with | some h' => .skip h' | none => .bad "") else .bad ""
  | _ => .bad ""
def okSt : Option Hp → OR
  | some h' => .skip h'
  | none => .bad ""
theorem zej (n : Nat) (a x : IA) : iV P F h (.sto n a x) = stoV h n (ia F a) (ia F x) := id rfl
theorem zek (n b i : Nat) (x : V) : stoV h n (.ptr (some (b, i))) x = (if x.cells.length = n then okSt (storeL h b i x.cells) else .bad "") := by
  unfold stoV okSt
  dsimp only
theorem zel (h' : Hp) : okSt (some h') = .skip h' := id rfl
theorem zem (ob : Ob) : iV P F h (.alc ob) = .val (.ptr (some (h.next, 0))) (h.new ob) := id rfl
theorem zen (e : TypeId) (x : IA) : iV P F h (.box e x) = (if (ia F x).cells.all V.isCell = true then .val (.ptr (some (h.next, 0))) (h.new (newBlk (ia F x).cells e)) else .bad "") := id rfl
def lenLV (h : Hp) (v : V) : OR := match v with | .slice _ n _ => .val (.int .i64 n) h | _ => .bad ""
theorem zeo (x : IA) : iV P F h (.lenL x) = lenLV h (ia F x) := id rfl
theorem zep (a : Option (Nat × Nat)) (n : Nat) (c : Cap) : lenLV h (.slice a n c) = .val (.int .i64 n) h := id rfl
theorem zet (f : FuncId) (a : List IA) : iV P F h (.call f a) = .enter f (a.map (ia F)) := id rfl
def callvV (P : Program) (h : Hp) (f : V) (args : List V) : OR := match f with
  | .func f first caps => callV P h f (first ++ args ++ caps)
  | .yield l => .round l args
  | _ => .bad ""
theorem zeu (f : IA) (a : List IA) : iV P F h (.callv f a) = callvV P h (ia F f) (a.map (ia F)) := id rfl
theorem zev (f : FuncId) (a b args : List V) : callvV P h (.func f a b) args = callV P h f (a ++ args ++ b) := id rfl
theorem zew (l : Nat) (args : List V) : callvV P h (.yield l) args = .round l args := id rfl
def extV (h : Hp) (i : Nat) (v : V) : OR := match v with | .tuple l => orVal h (l[i]?) | _ => .bad ""
theorem zex (x : IA) (i : Nat) : iV P F h (.ext x i) = extV h i (ia F x) := id rfl
theorem zey (i : Nat) (l : List V) : extV h i (.tuple l) = orVal h (l[i]?) := id rfl
theorem zez (z : List V) (ps : List (Nat × Nat × IA)) : iV P F h (.bld z ps) = orVal h ((fillV z (ps.map fun (o, n, x) => (o, n, ia F x))).map .agg) := id rfl
def slLV (h : Hp) (e sz : Nat) (x : V) (lo hi mx : Option (Option Nat)) : OR := match x, lo, hi, mx with
  | .slice a len c, some l, some r, some m =>
    (match m with
     | none => if (decide (l.getD 0 ≤ r.getD len) && (decide (r.getD len ≤ len) || (r.isSome && decide (r.getD len ≤ capI h a e sz c)))) = true then
         .val (.slice (a.map fun (b, o) => (b, o + l.getD 0 * sz)) (r.getD len - l.getD 0) (capOff c (l.getD 0))) h else .bad ""
     | some m => if (r.isSome && decide (l.getD 0 ≤ r.getD len) && decide (r.getD len ≤ m) && decide (m ≤ len)) = true then .val (.slice (a.map fun (b, o) => (b, o + l.getD 0 * sz)) (r.getD len - l.getD 0) (.ex (m - l.getD 0))) h else .bad "")
  | _, _, _, _ => .bad ""
theorem zfa (e sz : Nat) (x : IA) (lo hi mx : Option IA) : iV P F h (.slL e sz x lo hi mx) = slLV h e sz (ia F x) (bnd F lo) (bnd F hi) (bnd F mx) := id rfl
theorem zfb (e sz : Nat) (a : Option (Nat × Nat)) (len : Nat) (c : Cap) (l r : Option Nat) : slLV h e sz (.slice a len c) (some l) (some r) (some none) =
    (if (decide (l.getD 0 ≤ r.getD len) && (decide (r.getD len ≤ len) || (r.isSome && decide (r.getD len ≤ capI h a e sz c)))) = true then
         .val (.slice (a.map fun (b, o) => (b, o + l.getD 0 * sz)) (r.getD len - l.getD 0) (capOff c (l.getD 0))) h else .bad "") := id rfl
theorem zfc (e sz : Nat) (a : Option (Nat × Nat)) (len : Nat) (c : Cap) (l r : Option Nat) (m : Nat) : slLV h e sz (.slice a len c) (some l) (some r) (some (some m)) =
    (if (r.isSome && decide (l.getD 0 ≤ r.getD len) && decide (r.getD len ≤ m) && decide (m ≤ len)) = true then .val (.slice (a.map fun (b, o) => (b, o + l.getD 0 * sz)) (r.getD len - l.getD 0) (.ex (m - l.getD 0))) h else .bad "") := id rfl
theorem zfd : bnd F none = some none := id rfl
theorem zfe (x : IA) : bnd F (some x) = (natBound (ia F x)).map some := id rfl
def appV (P : Program) (h : Hp) (e sz : Nat) (x y : V) : OR := match x with
  | .slice a len c => (match srcCells h sz y with | some (n, new) => appendV P h e a len c new n | none => .bad "")
  | _ => .bad ""
theorem zfh (e sz : Nat) (x y : IA) : iV P F h (.app e sz x y) = appV P h e sz (ia F x) (ia F y) := id rfl
theorem zfi (e sz n : Nat) (z : List V) (ps : List (Nat × IA)) : iV P F h (.bSl e sz n z ps) = (match fillV (reps n z) (ps.map fun (i, x) => (i * sz, sz, ia F x)) with
    | some l => .val (.slice (some (h.next, 0)) n (.ex n)) (h.new (newBlk l e))
    | none => .bad "") := id rfl
end ops
/-- A block of one's own. -/
structure Own (h : Hp) (b : Nat) (l : List V) (e : Nat) : Prop where
  is : h.get b = some (newBlk l e)
  low : b < h.next
theorem Own.of_new (h : Hp) (l : List V) (e : Nat) : Own (h.new (newBlk l e)) h.next l e := ⟨get_new_same _ _, Nat.lt_succ_self _⟩
theorem Own.grow {h h' : Hp} {b : Nat} {l : List V} {e : Nat} (o : Own h b l e) (g : Grow h h') : Own h' b l e := ⟨(g.get b o.low).trans o.is, Nat.lt_of_lt_of_le o.low g.next⟩
theorem Own.keep {n : Nat} {h h' : Hp} {b : Nat} {l : List V} {e : Nat} (o : Own h b l e) (hb : b < n) (g : Keep n h h') : Own h' b l e := ⟨(g.get b hb).trans o.is, Nat.lt_of_lt_of_le o.low g.next⟩
theorem Own.load1 {h : Hp} {b : Nat} {l : List V} {e : Nat} (o : Own h b l e) (i : Nat) : load1 h b i = l[i]? := by unfold Vm.load1; rw [o.is]; rfl
theorem Own.loadL {h : Hp} {b : Nat} {l : List V} {e : Nat} (w : Own h b l e) (o n : Nat) : loadL h b o n = if o + n ≤ l.length then some ((l.drop o).take n) else none := by unfold Vm.loadL; rw [w.is]; rfl
theorem Own.storeL {h : Hp} {b : Nat} {l : List V} {e : Nat} (w : Own h b l e) (o : Nat) (vs : List V) (hv : vs ≠ []) (ho : o + vs.length ≤ l.length) (hc : vs.all V.isCell = true) : storeL h b o vs = some (h.put b (newBlk (splice l o vs) e)) := by
  unfold Vm.storeL
  cases vs with
  | nil => exact absurd rfl hv
  | cons v vs =>
    dsimp only
    rw [w.is]
    simp only [newBlk]
    rw [if_pos (by simp only [List.length_cons] at ho; simp [ho, hc])]
theorem Own.put {h : Hp} {b : Nat} {l : List V} {e : Nat} (w : Own h b l e) (m : List V) : Own (h.put b (newBlk m e)) b m e := ⟨get_put_same _ _ _, w.low⟩
theorem Own.put_ne {h : Hp} {b c : Nat} {l : List V} {e : Nat} (w : Own h c l e) (ob : Ob) (hne : b ≠ c) : Own (h.put b ob) c l e := ⟨(get_put_ne ob hne).trans w.is, w.low⟩
theorem Own.at {h : Hp} {b : Nat} {l : List V} {e : Nat} (w : Own h b l e) : At h b 0 l := ⟨⟨_, w.is, by simp, by simp⟩, w.low⟩
end Go.Vm
/- Drawn regions in which reads are looked at again, step by step. -/
namespace Go.Vm
variable {P : Program} {Y : Fns}
def nckV (h : Hp) (v : V) : OR := match v with | .ptr none | .nilIface | .nilFunc => .bad "" | v => .val v h
theorem zgm {F : Frm} {h : Hp} (x : IA) : iV P F h (.nilCheck x) = nckV h (ia F x) := _root_.id rfl
theorem zgn {h : Hp} (a : Nat × Nat) : nckV h (.ptr (some a)) = .val (.ptr (some a)) h := _root_.id rfl
theorem r_cell {F : Frm} {h : Hp} {a : Nat} {t : TypeId} {l : List ResultVar} {b o n : Nat} {r : List V} (hs : isAggT P t = true) (hn : sizeT P t = n) (ha : gt F a = .ptr (some (b, o))) (hl : loadL h b o n = some r) :
    resultsV P F h (.cell a t :: l) = (resultsV P F h l).map (.agg r :: ·) := by
  unfold gt at ha
  cases hg : F.get (Pos.of a) with
  | none => rw [hg] at ha; cases ha
  | some v =>
    rw [hg] at ha
    simp only [Option.getD_some] at ha
    subst ha
    rw [resultsV]
    simp only [hg, hs, hn, hl, if_true, Option.map_some]
    cases resultsV P F h l <;> rfl
theorem r_tmp {F : Frm} {h : Hp} {a : Nat} {l : List ResultVar} : resultsV P F h (.tmp a :: l) = (resultsV P F h l).map (gt F a :: ·) := by
  rw [resultsV]
  unfold gt
  cases resultsV P F h l <;> rfl
theorem r_ret {F : Frm} {h : Hp} {res : List ResultVar} {omd md : Option Md} {Q : CR → Prop} {l : List V} (hr : resultsV P F h res = some l) (hq : Q (.ret (retV l) md h)) : qCall P res omd Q .ret { F := F, ds := [], md := md, h := h } := by
  show ([] : List Dfr) = [] ∧ _
  refine ⟨rfl, ?_⟩
  dsimp only
  rw [hr]
  exact hq
def thenD (P : Program) (Y : Fns) (l : List DIns) (t : Nat) (Q : X → S → Prop) : List (Nat × Hp) → RdI → S → Prop := fun E R s => DW P Y l (t + 1) s E R Q
def stepD (P : Program) (Y : Fns) (b : Bool) (o : DIns) (l : List DIns) (t : Nat) (s : S) (E : List (Nat × Hp)) (R : RdI) (Q : X → S → Prop) : Prop :=
  match b with
  | true => OStep P Y (some 0) o.i.d s (fun _ _ => False) (dcK P o.c t o s E R (thenD P Y l t Q)) (iV P s.F s.h o.i.op)
  | false => DW P Y l (t + 1) { s with F := setO o.i.d vundef s.F } E R Q
def latC (P : Program) (F : Frm) (op : IOp) (low : List IA) (rd : Bool) (v : V) : Option Hp → Prop
  | some h => (rd = true → sameO (iV P F h op) v = true) ∧ (low.all fun x => V.low h.next (ia F x)) = true
  | none => True
def earC (P : Program) (h : Hp) : Option (Frm × IOp × V) → Prop
  | some (F, op, u) => sameO (iV P F h op) u = true
  | none => True
def lkC {α : Type} (t : Bool) (c : α) (r : Option α) : Option α := match t with | true => some c | false => r
section
variable {s s' : S} {Q : X → S → Prop} {E : List (Nat × Hp)} {R : RdI} {t : Nat} {K : List (Nat × Hp) → RdI → S → Prop}
theorem zfm : DW P Y [] t s E R Q = Q .normal s := _root_.id rfl
theorem zfn (o : DIns) (l : List DIns) : DW P Y (o :: l) t s E R Q = stepD P Y (wantI s.F o.i.g) o l t s E R Q := _root_.id rfl
theorem zfo (o : DIns) (l : List DIns) : stepD P Y true o l t s E R Q = OStep P Y (some 0) o.i.d s (fun _ _ => False) (dcK P o.c t o s E R (thenD P Y l t Q)) (iV P s.F s.h o.i.op) := _root_.id rfl
theorem zfq (l : List DIns) : thenD P Y l t Q E R s = DW P Y l (t + 1) s E R Q := _root_.id rfl
theorem zfr (o : DIns) : dcK P 0 t o s E R K s' = K E R s' := _root_.id rfl
theorem zfs (o : DIns) : dcK P 1 t o s E R K s' = (lateP P s.F o.i.op o.low true (dv s'.F o.i.d) E o.late ∧ K E ((t, s.F, o.i.op, dv s'.F o.i.d) :: R) s') := _root_.id rfl
theorem zft (o : DIns) : dcK P 2 t o s E R K s' = (lateP P s.F o.i.op o.low false .nilFunc E o.late ∧ K E R s') := _root_.id rfl
theorem zfu (o : DIns) : dcK P 3 t o s E R K s' = (earlyP P s'.h R o.early ∧ K ((t, s.h) :: E) R s') := _root_.id rfl
theorem zfv (F : Frm) (d : Nat) : dv F (some d) = gt F d := _root_.id rfl
theorem zfw {F : Frm} {op : IOp} {low : List IA} {rd : Bool} {v : V} : lateP P F op low rd v E [] = True := _root_.id rfl
theorem zfx {F : Frm} {op : IOp} {low : List IA} {rd : Bool} {v : V} (e : Nat) (l : List Nat) : lateP P F op low rd v E (e :: l) = (latC P F op low rd v (E.lookup e) ∧ lateP P F op low rd v E l) := by
  show ((match E.lookup e with | some h => (rd = true → sameO (iV P F h op) v = true) ∧ (low.all fun x => V.low h.next (ia F x)) = true | none => True) ∧ lateP P F op low rd v E l) = _
  unfold latC
  cases E.lookup e <;> rfl
theorem zfy {h : Hp} : earlyP P h R [] = True := _root_.id rfl
theorem zfz {h : Hp} (r : Nat) (l : List Nat) : earlyP P h R (r :: l) = (earC P h (R.lookup r) ∧ earlyP P h R l) := by
  show ((match R.lookup r with | some (F, op, u) => sameO (iV P F h op) u = true | none => True) ∧ earlyP P h R l) = _
  unfold earC
  cases R.lookup r <;> rfl
theorem zgb {F : Frm} {op : IOp} {low : List IA} {v : V} (h : Hp) : latC P F op low true v (some h) = (sameO (iV P F h op) v = true ∧ (low.all fun x => V.low h.next (ia F x)) = true) := by
  simp [latC]
theorem zgc {F : Frm} {op : IOp} {low : List IA} {v : V} (h : Hp) : latC P F op low false v (some h) = ((low.all fun x => V.low h.next (ia F x)) = true) := by
  simp [latC]
theorem zge {h : Hp} (F : Frm) (op : IOp) (u : V) : earC P h (some (F, op, u)) = (sameO (iV P F h op) u = true) := _root_.id rfl
theorem zgf (v u : V) (h : Hp) : sameO (.val v h) u = V.beq v u := _root_.id rfl
theorem zgg {α : Type} (a b : Nat) (c : α) (l : List (Nat × α)) : List.lookup a ((b, c) :: l) = lkC (a == b) c (l.lookup a) := by
  unfold lkC
  simp only [List.lookup]
  cases a == b <;> rfl
theorem zgh {α : Type} (c : α) (r : Option α) : lkC true c r = some c := _root_.id rfl
theorem zgi {α : Type} (c : α) (r : Option α) : lkC false c r = r := _root_.id rfl
theorem zgj {α : Type} (a : Nat) : List.lookup a ([] : List (Nat × α)) = none := _root_.id rfl
theorem zgk (n b o : Nat) : V.low n (.ptr (some (b, o))) = decide (b < n) := by unfold V.low; rfl
end
end Go.Vm
/- Small things that many walks use: calls, errors, what stays. -/
namespace Go.Vm
variable {P : Program} {Y : Fns} {I : Ids}
theorem callV_is {f nt : Nat} {res : List ResultVar} {ic : IC} (H : FnIs P Y f nt res ic) (h : Hp) (args : List V) : callV P h f args = .enter f args := by
  obtain ⟨fn, c, h1, h2, _⟩ := H.is
  unfold callV
  rw [h1]
  simp [h2]
/-- A call that turns nothing that was there, and returns a value. -/
def Gives (P : Program) (Y : Fns) (f : FuncId) (args : List V) (h : Hp) (v : V) : Prop := CW P Y f args none h fun q => ∃ h', Grow h h' ∧ q = .ret v none h'
def sentV (I : Ids) (k : Nat) : V := .iface (I.t 1000) (.ptr (some (I.e k, 0)))
/-- The errors' variables. -/
structure Glob (I : Ids) (h : Hp) : Prop where
  sent : ∀ k, k < 16 → load1 h (I.g k) 0 = some (sentV I k)
  low : ∀ k, k < 16 → I.g k < h.next
theorem load1_grow {h h' : Hp} {b o : Nat} (g : Grow h h') (hb : b < h.next) : load1 h' b o = load1 h b o := by unfold load1; rw [g.get b hb]
theorem loadL_grow {h h' : Hp} {b o n : Nat} (g : Grow h h') (hb : b < h.next) : loadL h' b o n = loadL h b o n := by unfold loadL; rw [g.get b hb]
theorem Glob.grow {h h' : Hp} (G : Glob I h) (g : Grow h h') : Glob I h' := ⟨fun k hk => (load1_grow g (G.low k hk)).trans (G.sent k hk), fun k hk => Nat.lt_of_lt_of_le (G.low k hk) g.next⟩
theorem w_und (w : Bool) : wantV vundef w = false := id rfl
end Go.Vm
