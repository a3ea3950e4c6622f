/- Operations whose types have been looked up: what they come to, and that this is what the virtual machine does. -/
import Derived.Test.YtodpkcebihbghaaGreatDoorWpRules
set_option linter.unusedVariables false
set_option linter.unusedSimpArgs false
namespace Go.Vm
variable {P : Program} {Y : Fns}

inductive IA where
  | t (n : Nat)
  | v (x : V)
  deriving Inhabited
def ia (F : Frm) : IA → V
  | .t n => gt F n
  | .v x => x
def compA : Operand → IA
  | .tmp t => .t t
  | .const c => .v ((toV c).getD vundef)
  | .global g => .v (.ptr (some (g, 0)))
  | .func f => .v (.func f [] [])
theorem ia_compA (F : Frm) (x : Operand) : ia F (compA x) = opr F x := by cases x <;> rfl

inductive IOp where
  | mov (x : IA)
  | pick (c a b : IA)
  | bld (z : List V) (ps : List (Nat × Nat × IA))
  | nilCheck (x : IA)
  | bin (op : BinOp) (x y : IA)
  | eqT (k : Nat) (neg : Bool) (x y : IA)
  | isN (k : Nat) (neg : Bool) (x : IA)
  | eqA (ks : List Nat) (neg : Bool) (x y : IA)
  | un (op : UnOp) (x : IA)
  | cvI (k : IntKind) (x : IA)
  | ifc (t : TypeId) (x : IA)
  | mkF (f : FuncId) (first caps : List IA)
  | slS (x : IA) (lo hi : Option IA)
  | slL (e : TypeId) (sz : Nat) (x : IA) (lo hi mx : Option IA)
  | slA (n sz : Nat) (x : IA) (lo hi : Option IA)
  | fad (off : Nat) (x : IA)
  | fld (agg : Bool) (off n : Nat) (x : IA)
  | ixL (sz : Nat) (x i : IA)
  | ixA (n sz : Nat) (x i : IA)
  | ixS (x i : IA)
  | asC (t : TypeId) (z : Option V) (x : IA)
  | ext (x : IA) (i : Nat)
  | ld1 (x : IA)
  | ldN (n : Nat) (x : IA)
  | sto (n : Nat) (a x : IA)
  | alc (ob : Ob)
  | box (e : TypeId) (x : IA)
  | bSl (e sz n : Nat) (z : List V) (ps : List (Nat × IA))
  | mkM
  | mkS (e : TypeId) (sz bytes : Nat) (z : List V) (l c : IA)
  | lenS (x : IA)
  | lenL (x : IA)
  | app (e sz : Nat) (x y : IA)
  | call (f : FuncId) (args : List IA)
  | callv (f : IA) (args : List IA)
  | pan (x : IA)
  | mx (b : Bool) (xs : List IA)
  | raw (op : Op)
  deriving Inhabited
def bareO (op : Op) : Oper := ⟨none, op, 0, "", #[], none⟩

def bnd (F : Frm) : Option IA → Option (Option Nat)
  | none => some none
  | some x => (natBound (ia F x)).map some
theorem bnd_comp (F : Frm) (x : Option Operand) : bnd F (x.map compA) = optBound F x := by
  cases x <;> simp [bnd, optBound, ia_compA]

def isNilV : Nat → V → Option Bool
  | 0, .ptr a => some a.isNone
  | 1, .nilIface => some true
  | 1, .iface _ _ => some false
  | 2, .slice a _ _ => some a.isNone
  | 3, .map a => some a.isNone
  | 4, .nilFunc => some true
  | 4, .func _ _ _ => some false
  | _, _ => none
def eqK : Nat → V → V → Option Bool
  | 0, .bool a, .bool b => some (a == b)
  | 1, .int k a, .int k' b => if k = k' then some (a == b) else none
  | 2, .str a, .str b => some (a == b)
  | _, _, _ => none
/-- '==' of structs of plain fields. -/
def eqKs : List Nat → List V → List V → Option Bool
  | [], [], [] => some true
  | k :: ks, a :: l, b :: m => (match eqK k a b, eqKs ks l m with | some p, some q => some (p && q) | _, _ => none)
  | _, _, _ => none
def eqA (ks : List Nat) : V → V → Option Bool
  | .agg l, .agg m => eqKs ks l m
  | _, _ => none
def negIf (neg : Bool) (b : Bool) : Bool := if neg then !b else b
def orVal (h : Hp) : Option V → OR
  | some v => .val v h
  | none => .bad ""
def capI (h : Hp) (a : Option (Nat × Nat)) (e : TypeId) (sz : Nat) : Cap → Nat
  | .ex n => n
  | .tl k => (match a with
    | some (b, o) => (match h.get b with | some (.cells x) => if sz ≠ 0 ∧ x.exact = false ∧ x.rw = true ∧ x.elem = e ∧ o = k * sz then (x.l.length - o) / sz else 0 | _ => 0)
    | none => 0)
def capOff : Cap → Nat → Cap
  | .ex m, l => .ex (m - l)
  | .tl k, l => .tl (k + l)

def iV (P : Program) (F : Frm) (h : Hp) : IOp → OR
  | .mov x => .val (ia F x) h
  | .pick c a b => (match ia F c with | .bool t => .val (if t then ia F a else ia F b) h | _ => .bad "")
  | .bld z ps => orVal h ((fillV z (ps.map fun (o, n, x) => (o, n, ia F x))).map .agg)
  | .nilCheck x => (match ia F x with | .ptr none | .nilIface | .nilFunc => .bad "" | v => .val v h)
  | .bin op x y => orVal h (binV P op 0 false (ia F x) (ia F y))
  | .eqT k neg x y => orVal h ((eqK k (ia F x) (ia F y)).map fun b => .bool (negIf neg b))
  | .isN k neg x => orVal h ((isNilV k (ia F x)).map fun b => .bool (negIf neg b))
  | .eqA ks neg x y => orVal h ((eqA ks (ia F x) (ia F y)).map fun b => .bool (negIf neg b))
  | .un op x => orVal h (unV op (ia F x))
  | .cvI k x => (match ia F x with | .int _ n => .val (.int k (k.wrap n)) h | _ => .bad "")
  | .ifc t x => .val (.iface t (ia F x)) h
  | .mkF f first caps => .val (.func f (first.map (ia F)) (caps.map (ia F))) h
  | .slS x lo hi => (match ia F x, bnd F lo, bnd F hi with
    | .str s, some l, some r => if l.getD 0 ≤ r.getD s.length && r.getD s.length ≤ s.length then .val (.str ((s.drop (l.getD 0)).take (r.getD s.length - l.getD 0))) h else .bad ""
    | _, _, _ => .bad "")
  | .slL e sz x lo hi mx => (match ia F x, bnd F lo, bnd F hi, bnd F mx with
    | .slice a len c, some l, some r, some m =>
      (match m with
       | none => if l.getD 0 ≤ r.getD len && (r.getD len ≤ len || (r.isSome && r.getD len ≤ capI h a e sz c)) then
           .val (.slice (a.map fun (b, o) => (b, o + l.getD 0 * sz)) (r.getD len - l.getD 0) (capOff c (l.getD 0))) h else .bad ""
       | some m => if r.isSome && l.getD 0 ≤ r.getD len && r.getD len ≤ m && m ≤ len then .val (.slice (a.map fun (b, o) => (b, o + l.getD 0 * sz)) (r.getD len - l.getD 0) (.ex (m - l.getD 0))) h else .bad "")
    | _, _, _, _ => .bad "")
  | .slA n sz x lo hi => (match ia F x, bnd F lo, bnd F hi with
    | .ptr (some (b, o)), some l, some r => if l.getD 0 ≤ r.getD n && r.getD n ≤ n then .val (.slice (some (b, o + l.getD 0 * sz)) (r.getD n - l.getD 0) (.ex (n - l.getD 0))) h else .bad ""
    | _, _, _ => .bad "")
  | .fad off x => (match ia F x with | .ptr (some (b, o)) => .val (.ptr (some (b, o + off))) h | _ => .bad "")
  | .fld true off n x => (match ia F x with | .agg l => .val (.agg ((l.drop off).take n)) h | _ => .bad "")
  | .fld false off _ x => (match ia F x with | .agg l => orVal h (l[off]?) | _ => .bad "")
  | .ixL sz x i => (match ia F x, ia F i with
    | .slice (some (b, o)) len _, .int _ n => if 0 ≤ n && n < len then .val (.ptr (some (b, o + n.toNat * sz))) h else .bad ""
    | _, _ => .bad "")
  | .ixA len sz x i => (match ia F x, ia F i with
    | .ptr (some (b, o)), .int _ n => if 0 ≤ n && n < len then .val (.ptr (some (b, o + n.toNat * sz))) h else .bad ""
    | _, _ => .bad "")
  | .ixS x i => (match ia F x, ia F i with
    | .str s, .int _ n => if 0 ≤ n then orVal h ((s[n.toNat]?).map fun b => .int .u8 (b.toNat : Int)) else .bad ""
    | _, _ => .bad "")
  | .asC t z x => (match ia F x, z with
    | .nilIface, some z => .val (.tuple [z, .bool false]) h
    | .iface d v, some z => if d = t then .val (.tuple [v, .bool true]) h else .val (.tuple [z, .bool false]) h
    | .iface d v, none => if d = t then .val v h else .bad ""
    | _, _ => .bad "")
  | .ext x i => (match ia F x with | .tuple l => orVal h (l[i]?) | _ => .bad "")
  | .ld1 x => (match ia F x with | .ptr (some (b, i)) => orVal h (load1 h b i) | _ => .bad "")
  | .ldN n x => (match ia F x with | .ptr (some (b, i)) => orVal h ((loadL h b i n).map .agg) | _ => .bad "")
  | .sto n a x => (match ia F a with
    | .ptr (some (b, i)) => if (ia F x).cells.length = n then (match storeL h b i (ia F x).cells with | some h' => .skip h' | none => .bad "") else .bad ""
    | _ => .bad "")
  | .alc ob => .val (.ptr (some (h.next, 0))) (h.new ob)
  | .box e x => if (ia F x).cells.all V.isCell then .val (.ptr (some (h.next, 0))) (h.new (newBlk (ia F x).cells e)) else .bad ""
  | .bSl e sz n z ps => (match fillV (reps n z) (ps.map fun (i, x) => (i * sz, sz, ia F x)) with
    | some l => .val (.slice (some (h.next, 0)) n (.ex n)) (h.new (newBlk l e))
    | none => .bad "")
  | .mkM => .val (.map (some h.next)) (h.new (.map [] 0))
  | .mkS e sz bytes z l c => (match ia F l, ia F c with
    | .int .i64 l, .int .i64 c => if 0 ≤ l && l ≤ c && c ≤ 2 ^ 40 && bytes * c ≤ 2 ^ 40 then .val (.slice (some (h.next, 0)) l.toNat (.ex c.toNat)) (h.new (newBlk (reps c.toNat z) e)) else .bad ""
    | _, _ => .bad "")
  | .lenS x => (match ia F x with | .str s => .val (.int .i64 s.length) h | _ => .bad "")
  | .lenL x => (match ia F x with | .slice _ n _ => .val (.int .i64 n) h | _ => .bad "")
  | .app e sz x y => (match ia F x with
    | .slice a len c => (match srcCells h sz (ia F y) with | some (n, new) => appendV P h e a len c new n | none => .bad "")
    | _ => .bad "")
  | .call f args => .enter f (args.map (ia F))
  | .callv f args => (match ia F f with
    | .func f first caps => callV P h f (first ++ args.map (ia F) ++ caps)
    | .yield l => .round l (args.map (ia F))
    | _ => .bad "")
  | .pan x => (match ia F x with | .iface t v => .panic (.iface t v) | _ => .bad "")
  | .mx b xs => orVal h (maxV b (xs.map (ia F)))
  | .raw op => opV P F h (bareO op)

/-! ### The look-up -/
def compL (l : Array Operand) : List IA := l.toList.map compA
theorem compL_ia (F : Frm) (l : Array Operand) : (compL l).map (ia F) = oprs F l := by
  unfold compL oprs
  rw [List.map_map]
  exact List.map_congr_left fun x _ => ia_compA F x
def placesC (P : Program) (t : TypeId) : List (Nat × Operand) → Option (List (Nat × Nat × IA))
  | [] => some []
  | (i, x) :: l => match placeOf P t i, placesC P t l with | some (o, n), some r => some ((o, n, compA x) :: r) | _, _ => none
theorem placesC_ok (t : TypeId) (F : Frm) : ∀ (l : List (Nat × Operand)) (r : List (Nat × Nat × IA)), placesC P t l = some r → places P t F l = some (r.map fun (o, n, x) => (o, n, ia F x))
  | [], r, h => by cases h; rfl
  | (i, x) :: l, r, h => by
    unfold placesC at h
    split at h
    · rename_i o n r' h1 h2
      cases h
      unfold places
      rw [h1, placesC_ok t F l r' h2]
      simp [ia_compA]
    · cases h
theorem placesE_map (s : Nat) (F : Frm) : ∀ l : List (Nat × Operand), placesE s F l = (l.map fun (i, x) => (i, compA x)).map fun (i, x) => (i * s, s, ia F x)
  | [] => rfl
  | (i, x) :: l => by
    unfold placesE
    rw [placesE_map s F l]
    simp [ia_compA]
def nilK (d : TypeDesc) (y : Operand) : Option Nat := match d, y with
  | .pointer _, .const (.pointer none) => some 0
  | .interface _, .const .nilIface => some 1
  | .slice _, .const (.slice none 0 0) => some 2
  | .map _ _, .const (.map none) => some 3
  | .func _ _ _, .const .nilFunc => some 4
  | _, _ => none
def kindsOf (P : Program) : List Field → Nat → Option (List Nat)
  | [], _ => some []
  | f :: fs, i => if f.name != "_" && f.offset == i then (match P.underlying f.type with
      | some .bool => (kindsOf P fs (i + 1)).map (0 :: ·)
      | some (.int _) => (kindsOf P fs (i + 1)).map (1 :: ·)
      | some .string => (kindsOf P fs (i + 1)).map (2 :: ·)
      | _ => none) else none
def compEq (P : Program) (neg : Bool) (t : TypeId) (x y : Operand) (o : Oper) : IOp :=
  match P.underlying t with
  | some .bool => .eqT 0 neg (compA x) (compA y)
  | some (.int _) => .eqT 1 neg (compA x) (compA y)
  | some .string => .eqT 2 neg (compA x) (compA y)
  | some (.struct fs) => (match kindsOf P fs.toList 0 with | some ks => if !P.stoodInHeld t && decide (3 ≤ P.depth) then .eqA ks neg (compA x) (compA y) else .raw o.op | none => .raw o.op)
  | some d => (match nilK d y with | some k => .isN k neg (compA x) | none => .raw o.op)
  | none => .raw o.op
def okApp (P : Program) : Option TypeId → Bool
  | none => true
  | some u => (match P.underlying u with | none | some (.int _) => false | _ => true)
def compO (P : Program) (o : Oper) : IOp :=
  match o.op with
  | .move x | .assign x => .mov (compA x)
  | .pick c a b => .pick (compA c) (compA a) (compA b)
  | .build t ps => if isAggT P t then (match zeroT P t, placesC P t ps.toList with | some z, some q => .bld z q | _, _ => .raw o.op) else .raw o.op
  | .nilCheck x => .nilCheck (compA x)
  | .binOp .eql t x y _ => compEq P false t x y o
  | .binOp .neq t x y _ => compEq P true t x y o
  | .binOp op t x y _ => .bin op (compA x) (compA y)
  | .unOp op _ x => .un op (compA x)
  | .convert s d x => (match P.underlying s, P.underlying d with | some _, some (.int k) => .cvI k (compA x) | _, _ => .raw o.op)
  | .makeInterface t x => (match P.underlying t with | some (.interface _) => .raw o.op | some _ => .ifc t (compA x) | none => .raw o.op)
  | .makeFunc (.func f) a b => .mkF f (compL a) (compL b)
  | .slice t x lo hi mx => (match P.underlying t with
    | some .string => if mx.isNone then .slS (compA x) (lo.map compA) (hi.map compA) else .raw o.op
    | some (.slice e) => .slL e (sizeT P e) (compA x) (lo.map compA) (hi.map compA) (mx.map compA)
    | some (.array n e) => if mx.isNone then .slA n (sizeT P e) (compA x) (lo.map compA) (hi.map compA) else .raw o.op
    | _ => .raw o.op)
  | .fieldAddr s x i => (match fieldsOf P s with
    | some fs => (match fs[i]? with | some f => if sizeT P f.type = 0 then .raw o.op else .fad f.offset (compA x) | none => .raw o.op)
    | none => .raw o.op)
  | .field t x i => (match fieldsOf P t with
    | some fs => (match fs[i]? with | some f => .fld (isAggT P f.type) f.offset (sizeT P f.type) (compA x) | none => .raw o.op)
    | none => .raw o.op)
  | .indexAddr t x i => (match P.underlying t with
    | some (.slice e) => .ixL (sizeT P e) (compA x) (compA i)
    | some (.array n e) => .ixA n (sizeT P e) (compA x) (compA i)
    | _ => .raw o.op)
  | .index t x i => (match P.underlying t with
    | some .string => .ixS (compA x) (compA i)
    | _ => .raw o.op)
  | .typeAssert x _ t ok => (match P.underlying t with
    | some (.interface _) => .raw o.op
    | some _ => if ok then (match zeroV P t with | some z => .asC t (some z) (compA x) | none => .raw o.op) else .asC t none (compA x)
    | none => .raw o.op)
  | .extract t i => .ext (compA t) i
  | .load t a => if isAggT P t then .ldN (sizeT P t) (compA a) else .ld1 (compA a)
  | .store t a x => .sto (sizeT P t) (compA a) (compA x)
  | .alloc t => (match zeroT P t with | some z => .alc (newBlk z t) | none => .raw o.op)
  | .box t x => .box t (compA x)
  | .buildSlice t n ps => (match P.underlying t with
    | some (.slice e) => if n * sizeT P e > 2 ^ 24 then .raw o.op else (match (if n * sizeT P e = 0 then some [] else zeroT P e) with
      | some z => if n * sizeT P e = 0 || z.length = sizeT P e then .bSl e (sizeT P e) n z (ps.toList.map fun (i, x) => (i, compA x)) else .raw o.op
      | none => .raw o.op)
    | _ => .raw o.op)
  | .makeMap t none => (match P.underlying t with | some (.map _ _) => .mkM | _ => .raw o.op)
  | .makeSlice t l c => (match P.underlying t with
    | some (.slice e) => (match zeroT P e with
      | some z => if sizeT P e ≠ 0 && z.length = sizeT P e then .mkS e (sizeT P e) (((P.info? e).map (·.bytes)).getD (2 ^ 50)) z (compA l) (compA c) else .raw o.op
      | none => .raw o.op)
    | _ => .raw o.op)
  | .call c => (match c.callee with
    | .builtin .len => (match (c.argTypes[0]?).bind P.underlying, c.args.toList with
      | some .string, [x] => .lenS (compA x)
      | some (.slice _), [x] => .lenL (compA x)
      | _, _ => .raw o.op)
    | .builtin .append => (match (c.argTypes[0]?).bind P.underlying, c.args.toList with
      | some (.slice e), [x, y] => if okApp P c.argTypes[1]? then .app e (sizeT P e) (compA x) (compA y) else .raw o.op
      | _, _ => .raw o.op)
    | .builtin .max => .mx true (compL c.args)
    | .builtin .min => .mx false (compL c.args)
    | .value (.func f) => (match P.funcs[f]? with
      | some fn => if fn.body.isNone then .raw o.op else .call f (compL c.args)
      | none => .raw o.op)
    | .value f => .callv (compA f) (compL c.args)
    | _ => .raw o.op)
  | .panic x => .pan (compA x)
  | _ => .raw o.op

theorem opV_pure {o : Oper} {F : Frm} {h : Hp} {v : V} (hk : kindO o = .pr) (hp : pureV P F o = some v) : opV P F h o = .val v h := by unfold opV; rw [hk]; dsimp only; rw [hp]
theorem opV_read {o : Oper} {F : Frm} {h : Hp} {v : V} (hk : kindO o = .pr) (hp : pureV P F o = none) (hr : readV P F h o = some v) : opV P F h o = .val v h := by unfold opV; rw [hk]; dsimp only; rw [hp]; dsimp only; rw [hr]
theorem opV_ef {o : Oper} {F : Frm} {h : Hp} (hk : kindO o = .ef) : opV P F h o = effV P F h o := by unfold opV; rw [hk]
theorem opV_al {o : Oper} {F : Frm} {h : Hp} {ob : Ob} {f : Nat → V} (hk : kindO o = .al) (ha : allocV P F o = some (ob, f)) : opV P F h o = .val (f h.next) (h.new ob) := by unfold opV; rw [hk]; dsimp only; rw [ha]
def OR.good : OR → Bool
  | .bad _ => false
  | _ => true
theorem orVal_good {h : Hp} {v : Option V} (hg : (orVal h v).good = true) : ∃ x, v = some x ∧ orVal h v = .val x h := by
  cases v with
  | none => cases hg
  | some x => exact ⟨x, rfl, rfl⟩
theorem kinds_eq : ∀ {fs : List Field} {i : Nat} {ks : List Nat} {l m : List V} {b : Bool}, kindsOf P fs i = some ks → eqKs ks l m = some b → eqFs P fs i l m = some b
  | [], i, ks, l, m, b, h1, h2 => by
    cases h1
    match l, m with
    | [], [] => exact h2
  | f :: fs, i, ks, l, m, b, h1, h2 => by
    unfold kindsOf at h1
    split at h1
    · rename_i hc
      have step : ∀ (k : Nat) (d : TypeDesc), P.underlying f.type = some d → (∀ x y c, eqK k x y = some c → eqD d x y = some c) → (kindsOf P fs (i + 1)).map (k :: ·) = some ks → eqFs P (f :: fs) i l m = some b := fun k d hd hk h1 => by
        cases hq : kindsOf P fs (i + 1) with
        | none => rw [hq] at h1; cases h1
        | some ks' =>
          rw [hq] at h1
          simp only [Option.map_some, Option.some.injEq] at h1
          subst h1
          match l, m with
          | x :: l, y :: m =>
            unfold eqKs at h2
            cases e1 : eqK k x y with
            | none => rw [e1] at h2; cases h2
            | some p =>
              cases e2 : eqKs ks' l m with
              | none => rw [e1, e2] at h2; cases h2
              | some q =>
                rw [e1, e2] at h2
                unfold eqFs
                rw [if_pos hc, hd]
                dsimp only
                rw [hk _ _ _ e1, kinds_eq hq e2]
                exact h2
          | [], [] => cases h2
          | [], _ :: _ => cases h2
          | _ :: _, [] => cases h2
      split at h1
      · rename_i hd
        exact step 0 _ hd (fun x y c h => by match x, y with | .bool a, .bool b => exact h) h1
      · rename_i hd
        exact step 1 _ hd (fun x y c h => by match x, y with | .int _ a, .int _ b => exact h) h1
      · rename_i hd
        exact step 2 _ hd (fun x y c h => by match x, y with | .str a, .str b => exact h) h1
      · cases h1
    · cases h1
theorem eq_ok {neg : Bool} {d : Option Tmp} {t ty u : TypeId} {x y : Operand} {pos : String} {aft : Array Edge} {g : Option (Nat × Bool)} (F : Frm) (h : Hp)
    (hg : (iV P F h (compEq P neg t x y ⟨d, .binOp (if neg then .neq else .eql) t x y u, ty, pos, aft, g⟩)).good = true) :
    opV P F h ⟨d, .binOp (if neg then .neq else .eql) t x y u, ty, pos, aft, g⟩ = iV P F h (compEq P neg t x y ⟨d, .binOp (if neg then .neq else .eql) t x y u, ty, pos, aft, g⟩) := by
  have key : ∀ b : Bool, eqV P (isConstO x || isConstO y) 50 t (opr F x) (opr F y) = some b → opV P F h ⟨d, .binOp (if neg then .neq else .eql) t x y u, ty, pos, aft, g⟩ = .val (.bool (negIf neg b)) h := fun b hb => by
    cases neg
    · exact opV_pure rfl (by simp [pureV, binV, hb, negIf])
    · exact opV_pure rfl (by simp [pureV, binV, hb, negIf])
  unfold compEq at hg ⊢
  cases ht : P.underlying t with
  | none => rfl
  | some td =>
    rw [ht] at hg
    have plain : ∀ k, (match k with | 0 => td = .bool | 1 => ∃ i, td = .int i | _ => td = .string) → (iV P F h (.eqT k neg (compA x) (compA y))).good = true →
        opV P F h ⟨d, .binOp (if neg then .neq else .eql) t x y u, ty, pos, aft, g⟩ = iV P F h (.eqT k neg (compA x) (compA y)) := fun k hk hg => by
      simp only [iV, ia_compA] at hg ⊢
      obtain ⟨v, h1, h2⟩ := orVal_good hg
      rw [h2]
      cases he : eqK k (opr F x) (opr F y) with
      | none => rw [he] at h1; cases h1
      | some b =>
        rw [he] at h1
        simp only [Option.map_some, Option.some.injEq] at h1
        subst h1
        refine key b ?_
        unfold eqV
        rw [ht]
        generalize opr F x = vx at he ⊢
        generalize opr F y = vy at he ⊢
        match k, vx, vy with
        | 0, .bool a, .bool b => (try dsimp only at hk); subst hk; exact he
        | 1, .int _ a, .int _ b => obtain ⟨i, hk⟩ := hk; subst hk; exact he
        | 2, .str a, .str b => (try dsimp only at hk); subst hk; exact he
    have isn : ∀ k, nilK td y = some k → (iV P F h (.isN k neg (compA x))).good = true →
        opV P F h ⟨d, .binOp (if neg then .neq else .eql) t x y u, ty, pos, aft, g⟩ = iV P F h (.isN k neg (compA x)) := fun k hk hg => by
      simp only [iV, ia_compA] at hg ⊢
      obtain ⟨v, h1, h2⟩ := orVal_good hg
      rw [h2]
      cases he : isNilV k (opr F x) with
      | none => rw [he] at h1; cases h1
      | some b =>
        rw [he] at h1
        simp only [Option.map_some, Option.some.injEq] at h1
        subst h1
        refine key b ?_
        unfold eqV
        rw [ht]
        unfold nilK at hk
        split at hk <;> cases hk
        · rw [show opr F (.const (.pointer none)) = .ptr none from rfl]
          generalize opr F x = vx at he ⊢
          cases vx with
          | ptr a => cases a <;> exact he
          | _ => cases he
        · rw [show opr F (.const .nilIface) = .nilIface from rfl]
          simp only [isConstO, Bool.or_true]
          generalize opr F x = vx at he ⊢
          cases vx <;> first | exact he | cases he
        · rw [show opr F (.const (.slice none 0 0)) = .slice none 0 (.ex 0) from rfl]
          generalize opr F x = vx at he ⊢
          cases vx with
          | slice a n c => cases a <;> exact he
          | _ => cases he
        · rw [show opr F (.const (.map none)) = .map none from rfl]
          generalize opr F x = vx at he ⊢
          cases vx with
          | map a => cases a <;> exact he
          | _ => cases he
        · rw [show opr F (.const .nilFunc) = .nilFunc from rfl]
          generalize opr F x = vx at he ⊢
          cases vx <;> first | exact he | cases he
    have str : ∀ fs ks, td = .struct fs → kindsOf P fs.toList 0 = some ks → (!P.stoodInHeld t && decide (3 ≤ P.depth)) = true → (iV P F h (.eqA ks neg (compA x) (compA y))).good = true →
        opV P F h ⟨d, .binOp (if neg then .neq else .eql) t x y u, ty, pos, aft, g⟩ = iV P F h (.eqA ks neg (compA x) (compA y)) := fun fs ks htd hks hc hq => by
      subst htd
      simp only [iV, ia_compA] at hq ⊢
      obtain ⟨v, h1, h2⟩ := orVal_good hq
      rw [h2]
      cases he : eqA ks (opr F x) (opr F y) with
      | none => rw [he] at h1; cases h1
      | some b =>
        rw [he] at h1
        simp only [Option.map_some, Option.some.injEq] at h1
        subst h1
        refine key b ?_
        simp only [Bool.and_eq_true, Bool.not_eq_true', decide_eq_true_eq] at hc
        unfold eqV
        rw [ht]
        generalize opr F x = vx at he ⊢
        generalize opr F y = vy at he ⊢
        match vx, vy with
        | .agg l, .agg m =>
          dsimp only
          rw [if_pos hc.2]
          unfold eqAgg
          rw [ht]
          dsimp only
          rw [hc.1]
          exact kinds_eq hks he
    by_cases hst : ∃ fs, td = .struct fs
    · obtain ⟨fs, rfl⟩ := hst
      revert hg
      show (iV P F h (match kindsOf P fs.toList 0 with | some ks => if (!P.stoodInHeld t && decide (3 ≤ P.depth)) = true then .eqA ks neg (compA x) (compA y) else .raw (.binOp (if neg then .neq else .eql) t x y u) | none => .raw (.binOp (if neg then .neq else .eql) t x y u))).good = true →
        _ = iV P F h (match kindsOf P fs.toList 0 with | some ks => if (!P.stoodInHeld t && decide (3 ≤ P.depth)) = true then .eqA ks neg (compA x) (compA y) else .raw (.binOp (if neg then .neq else .eql) t x y u) | none => .raw (.binOp (if neg then .neq else .eql) t x y u))
      cases hks : kindsOf P fs.toList 0 with
      | none => exact fun _ => rfl
      | some ks =>
        by_cases hc : (!P.stoodInHeld t && decide (3 ≤ P.depth)) = true
        · dsimp only
          rw [if_pos hc]
          exact fun hg => str fs ks rfl hks hc hg
        · dsimp only
          rw [if_neg hc]
          exact fun _ => rfl
    cases td <;> dsimp only at hg ⊢ <;> first
      | exact plain 0 rfl hg
      | exact plain 1 ⟨_, rfl⟩ hg
      | exact plain 2 rfl hg
      | exact (hst ⟨_, rfl⟩).elim
      | (split at hg <;> first | (rename_i k hk; exact isn k hk hg) | rfl)

theorem iV_ok (o : Oper) (F : Frm) (h : Hp) (hg : (iV P F h (compO P o)).good = true) : opV P F h o = iV P F h (compO P o) := by
  obtain ⟨d, op, ty, pos, aft, g⟩ := o
  cases op with
  | move x => simp only [compO, iV, ia_compA]; exact opV_pure rfl rfl
  | assign x => simp only [compO, iV, ia_compA]; exact opV_pure rfl rfl
  | pick c a b =>
    simp only [compO, iV, ia_compA] at hg ⊢
    cases hc : opr F c with
    | bool t => exact opV_pure rfl (by simp only [pureV, hc])
    | _ => rw [hc] at hg; cases hg
  | build t ps =>
    simp only [compO] at hg ⊢
    by_cases hA : isAggT P t = true
    · rw [if_pos hA] at hg ⊢
      cases hz : zeroT P t with
      | none => rfl
      | some z =>
        cases hp : placesC P t ps.toList with
        | none => rfl
        | some q =>
          rw [hz, hp] at hg
          dsimp only [iV] at hg ⊢
          obtain ⟨v, h1, h2⟩ := orVal_good hg
          rw [h2]
          exact opV_pure rfl (by simp only [pureV, hA, if_true, hz, placesC_ok t F _ _ hp]; exact h1)
    · rw [if_neg hA]; rfl
  | nilCheck x =>
    simp only [compO, iV, ia_compA] at hg ⊢
    split at hg <;> rename_i he
    · cases hg
    · cases hg
    · cases hg
    · rename_i h1 h2 h3
      refine opV_pure rfl ?_
      simp only [pureV]
  | binOp op t x y u =>
    cases op
    case eql => exact eq_ok (neg := false) F h hg
    case neq => exact eq_ok (neg := true) F h hg
    all_goals
      simp only [compO, iV, ia_compA] at hg ⊢
      obtain ⟨v, h1, h2⟩ := orVal_good hg
      rw [h2]
      exact opV_pure rfl (by
        simp only [pureV]
        rw [← h1]
        unfold binV
        generalize opr F x = vx
        generalize opr F y = vy
        cases vx <;> first | rfl | (cases vy <;> rfl))
  | unOp op t x =>
    simp only [compO, iV, ia_compA] at hg ⊢
    obtain ⟨v, h1, h2⟩ := orVal_good hg
    rw [h2]
    exact opV_pure rfl h1
  | convert s t x =>
    simp only [compO] at hg ⊢
    split at hg <;> rename_i h1 h2 <;> try rfl
    rename_i sd k
    simp only [iV, ia_compA] at hg ⊢
    cases hx : opr F x with
    | int k' n => exact opV_pure rfl (by simp only [pureV, h1, h2, hx])
    | _ => rw [hx] at hg; cases hg
  | makeInterface t x =>
    simp only [compO] at hg ⊢
    split at hg <;> rename_i h1 <;> try rfl
    rename_i td h2
    simp only [iV, ia_compA]
    refine opV_pure rfl ?_
    simp only [pureV, h1]
  | makeFunc fn a b =>
    cases fn with
    | func f => simp only [compO, iV, compL_ia]; exact opV_pure rfl rfl
    | _ => rfl
  | slice t x lo hi mx =>
    simp only [compO] at hg ⊢
    cases ht : P.underlying t with
    | none => rfl
    | some td =>
      cases td with
      | string =>
        rw [ht] at hg
        dsimp only at hg ⊢
        cases mx with
        | some m => rfl
        | none =>
          simp only [Option.isNone_none, if_true, iV, ia_compA, bnd_comp] at hg ⊢
          split at hg
          · rename_i s l r hx hl hr
            split at hg
            · rename_i hc
              rw [if_pos hc]
              simp only [Bool.and_eq_true, decide_eq_true_eq] at hc
              refine opV_pure rfl ?_
              simp only [pureV, slicePure, hl, hr, show optBound F none = some none from rfl, ht, hx]
              simp [hc.1, hc.2]
            · cases hg
          · cases hg
      | slice e =>
        rw [ht] at hg
        simp only [iV, ia_compA, bnd_comp] at hg ⊢
        split at hg
        · rename_i a len c l r m hx hl hr hm
          split at hg
          · rename_i hmn
            split at hg
            · rename_i hc
              rw [if_pos hc]
              simp only [Bool.and_eq_true, Bool.or_eq_true, decide_eq_true_eq] at hc
              obtain ⟨hc1, hc2⟩ := hc
              by_cases hle : r.getD len ≤ len
              · refine opV_pure rfl ?_
                simp only [pureV, slicePure, hl, hr, hm, ht, hx]
                simp only [hc1, hle, decide_true, Bool.and_self, if_true]
                cases c <;> rfl
              · have hc3 := hc2.resolve_left hle
                cases r with
                | none => cases hc3.1
                | some r =>
                  simp only [Option.getD_some] at hc1 hle hc3 ⊢
                  have hmx : mx = none := by
                    cases mx with
                    | none => rfl
                    | some m0 => simp only [optBound, Option.map_eq_some_iff] at hm; obtain ⟨q, _, hq⟩ := hm; cases hq
                  subst hmx
                  refine opV_read rfl ?_ ?_
                  · simp only [pureV, slicePure, hl, hr, hm, ht, hx, Option.getD_some, hle, decide_false, Bool.and_false, Bool.false_eq_true, if_false]
                  · have hcap : capGe P h a e c = capI h a e (sizeT P e) c := by cases c <;> cases a <;> rfl
                    simp only [readV, sliceRead, hl, hr, ht, hx, hc1, hcap, hc3.2, decide_true, Bool.and_self, if_true]
                    cases c <;> rfl
            · cases hg
          · rename_i m' hmn
            split at hg
            · rename_i hc
              rw [if_pos hc]
              simp only [Bool.and_eq_true, decide_eq_true_eq] at hc
              refine opV_pure rfl ?_
              simp only [pureV, slicePure, hl, hr, hm, ht, hx]
              simp only [hc.1.1.1, hc.1.1.2, hc.1.2, hc.2, decide_true, Bool.and_self, if_true]
            · cases hg
        · cases hg
      | array n e =>
        rw [ht] at hg
        dsimp only at hg ⊢
        cases mx with
        | some m => rfl
        | none =>
          simp only [Option.isNone_none, if_true, iV, ia_compA, bnd_comp] at hg ⊢
          split at hg
          · rename_i b o l r hx hl hr
            split at hg
            · rename_i hc
              rw [if_pos hc]
              simp only [Bool.and_eq_true, decide_eq_true_eq] at hc
              refine opV_pure rfl ?_
              simp only [pureV, slicePure, hl, hr, show optBound F none = some none from rfl, ht, hx]
              simp [hc.1, hc.2]
            · cases hg
          · cases hg
      | _ => rfl
  | fieldAddr s x i =>
    simp only [compO] at hg ⊢
    cases hf : fieldsOf P s with
    | none => rfl
    | some fs =>
      cases hi : fs[i]? with
      | none => simp only [hi]; rfl
      | some f =>
        rw [hf] at hg
        simp only [hi] at hg ⊢
        by_cases hz : sizeT P f.type = 0
        · rw [if_pos hz]; rfl
        · rw [if_neg hz] at hg ⊢
          simp only [iV, ia_compA] at hg ⊢
          split at hg
          · rename_i b o hx
            exact opV_pure rfl (by simp only [pureV, hx, hf, hi]; rw [if_neg hz])
          · cases hg
  | field t x i =>
    simp only [compO] at hg ⊢
    cases hf : fieldsOf P t with
    | none => rfl
    | some fs =>
      cases hi : fs[i]? with
      | none => simp only [hi]; rfl
      | some f =>
        rw [hf] at hg
        simp only [hi] at hg ⊢
        cases hA : isAggT P f.type
        · rw [hA] at hg
          simp only [iV, ia_compA] at hg ⊢
          split at hg
          · rename_i l hx
            obtain ⟨v, h1, h2⟩ := orVal_good hg
            rw [h2]
            exact opV_pure rfl (by simp only [pureV, hx, hf, hi, hA, h1]; simp)
          · cases hg
        · rw [hA] at hg
          simp only [iV, ia_compA] at hg ⊢
          split at hg
          · rename_i l hx
            exact opV_pure rfl (by simp only [pureV, hx, hf, hi, hA]; simp)
          · cases hg
  | indexAddr t x i =>
    simp only [compO] at hg ⊢
    cases ht : P.underlying t with
    | none => rfl
    | some td =>
      cases td with
      | slice e =>
        rw [ht] at hg
        simp only [iV, ia_compA] at hg ⊢
        split at hg
        · rename_i b o len c k n hx hi
          split at hg
          · rename_i hc
            rw [if_pos hc]
            exact opV_pure rfl (by simp only [pureV, indexAddrP, ht, hx, hi]; rw [if_pos hc])
          · cases hg
        · cases hg
      | array len e =>
        rw [ht] at hg
        simp only [iV, ia_compA] at hg ⊢
        split at hg
        · rename_i b o k n hx hi
          split at hg
          · rename_i hc
            rw [if_pos hc]
            exact opV_pure rfl (by simp only [pureV, indexAddrP, ht, hx, hi]; rw [if_pos hc])
          · cases hg
        · cases hg
      | _ => rfl
  | index t x i =>
    simp only [compO] at hg ⊢
    cases ht : P.underlying t with
    | none => rfl
    | some td =>
      cases td with
      | string =>
        rw [ht] at hg
        simp only [iV, ia_compA] at hg ⊢
        split at hg
        · rename_i s k n hx hi
          split at hg
          · rename_i hc
            rw [if_pos hc]
            obtain ⟨v, h1, h2⟩ := orVal_good hg
            rw [h2]
            exact opV_pure rfl (by simp only [pureV, indexP, ht, hx, hi]; rw [if_pos hc]; exact h1)
          · cases hg
        · cases hg
      | _ => rfl
  | typeAssert x s t ok =>
    simp only [compO] at hg ⊢
    have main : ∀ td, P.underlying t = some td → (∀ m, td ≠ .interface m) → ∀ z, (if ok = true then zeroV P t = z ∧ z.isSome = true else z = none) → (iV P F h (.asC t z (compA x))).good = true → opV P F h ⟨d, .typeAssert x s t ok, ty, pos, aft, g⟩ = iV P F h (.asC t z (compA x)) := fun td ht hni z hz hg => by
      simp only [iV, ia_compA] at hg ⊢
      have hP : pureV P F ⟨d, .typeAssert x s t ok, ty, pos, aft, g⟩ = assertP P (opr F x) t ok := rfl
      unfold assertP at hP
      rw [ht] at hP
      cases ok with
      | true =>
        obtain ⟨hz1, hz2⟩ := hz
        cases z with
        | none => cases hz2
        | some z =>
          split at hg
          · rename_i z' hx hz'
            cases hz'
            refine opV_pure rfl (hP.trans ?_)
            rw [hx]
            cases td <;> first | exact absurd rfl (hni _) | simp [hz1]
          · rename_i dd v z' hx hz'
            cases hz'
            have hP2 : pureV P F ⟨d, .typeAssert x s t true, ty, pos, aft, g⟩ = (if dd = t then some (.tuple [v, .bool true]) else some (.tuple [z, .bool false])) := by
              refine hP.trans ?_
              rw [hx]
              cases td <;> first | exact absurd rfl (hni _) | simp [hz1]
            split
            · rename_i e; rw [if_pos e] at hP2; exact opV_pure rfl hP2
            · rename_i e; rw [if_neg e] at hP2; exact opV_pure rfl hP2
          · rename_i hz'; cases hz'
          · cases hg
      | false =>
        have hz : z = none := hz
        subst hz
        split at hg
        · rename_i hz'; cases hz'
        · rename_i hz'; cases hz'
        · rename_i dd v hx _
          split at hg
          · rename_i e
            rw [if_pos e]
            refine opV_pure rfl (hP.trans ?_)
            rw [hx]
            cases td <;> first | exact absurd rfl (hni _) | simp [e]
          · cases hg
        · cases hg
    split at hg <;> rename_i h1 <;> try rfl
    rename_i td h2
    split at hg <;> rename_i h3
    · rw [if_pos h3]
      split at hg <;> rename_i h4 <;> try rfl
      exact main td h1 (fun m e => h2 m e) _ (by rw [if_pos h3]; exact ⟨h4, rfl⟩) hg
    · rw [if_neg h3]
      exact main td h1 (fun m e => h2 m e) none (by rw [if_neg h3]) hg
  | extract t i =>
    simp only [compO, iV, ia_compA] at hg ⊢
    split at hg
    · rename_i l hx
      obtain ⟨v, h1, h2⟩ := orVal_good hg
      rw [h2]
      exact opV_pure rfl (by simp only [pureV, hx]; exact h1)
    · cases hg
  | load t a =>
    simp only [compO] at hg ⊢
    cases hA : isAggT P t
    · rw [hA] at hg
      simp only [Bool.false_eq_true, if_false, iV, ia_compA] at hg ⊢
      split at hg
      · rename_i b i hx
        obtain ⟨v, h1, h2⟩ := orVal_good hg
        rw [h2]
        exact opV_read rfl rfl (by simp only [readV, hx, hA, Bool.false_eq_true, if_false]; exact h1)
      · cases hg
    · rw [hA] at hg
      simp only [if_true, iV, ia_compA] at hg ⊢
      split at hg
      · rename_i b i hx
        obtain ⟨v, h1, h2⟩ := orVal_good hg
        rw [h2]
        exact opV_read rfl rfl (by simp only [readV, hx, hA, if_true]; exact h1)
      · cases hg
  | store t a x =>
    simp only [compO, iV, ia_compA] at hg ⊢
    rw [opV_ef rfl]
    simp only [effV]
    split at hg
    · rename_i b i hx
      split at hg
      · rename_i hc
        rw [if_pos hc]
        cases hs : storeL h b i (opr F x).cells with
        | none => rw [hs] at hg; cases hg
        | some h' => rw [hx]; dsimp only; rw [if_pos hc, hs]; rfl
      · cases hg
    · cases hg
  | alloc t =>
    simp only [compO] at hg ⊢
    cases hz : zeroT P t with
    | none => rfl
    | some z => exact opV_al (o := ⟨d, .alloc t, ty, pos, aft, g⟩) (f := fun n => .ptr (some (n, 0))) rfl (by simp only [allocV, hz, Option.map_some])
  | box t x =>
    simp only [compO, iV, ia_compA] at hg ⊢
    split at hg
    · rename_i hc
      rw [if_pos hc]
      exact opV_al (o := ⟨d, .box t x, ty, pos, aft, g⟩) (f := fun n => .ptr (some (n, 0))) rfl (by simp only [allocV]; rw [if_pos hc])
    · cases hg
  | buildSlice t n ps =>
    simp only [compO] at hg ⊢
    cases ht : P.underlying t with
    | none => rfl
    | some td =>
      cases td with
      | slice e =>
        rw [ht] at hg
        dsimp only at hg ⊢
        by_cases hb : n * sizeT P e > 2 ^ 24
        · rw [if_pos hb]; rfl
        · rw [if_neg hb] at hg ⊢
          cases hz : (if n * sizeT P e = 0 then some [] else zeroT P e) with
          | none => rfl
          | some z =>
            rw [hz] at hg
            dsimp only at hg ⊢
            by_cases hc : (n * sizeT P e = 0 || z.length = sizeT P e : Bool) = true
            · rw [if_pos hc] at hg ⊢
              simp only [iV] at hg ⊢
              split at hg
              · rename_i l hl
                exact opV_al (o := ⟨d, .buildSlice t n ps, ty, pos, aft, g⟩) (f := fun m => .slice (some (m, 0)) n (.ex n)) rfl (by
                  simp only [allocV, ht, hb, if_false, hz]
                  rw [if_pos hc, placesE_map, hl]
                  rfl)
              · cases hg
            · rw [if_neg hc]; rfl
      | _ => rfl
  | makeMap t r =>
    cases r with
    | some r => rfl
    | none =>
      simp only [compO] at hg ⊢
      cases ht : P.underlying t with
      | none => rfl
      | some td =>
        cases td with
        | map k e => exact opV_al (o := ⟨d, .makeMap t none, ty, pos, aft, g⟩) (f := fun n => .map (some n)) rfl (by simp only [allocV, ht])
        | _ => rfl
  | makeSlice t l c =>
    simp only [compO] at hg ⊢
    cases ht : P.underlying t with
    | none => rfl
    | some td =>
      cases td with
      | slice e =>
        rw [ht] at hg
        cases hz : zeroT P e with
        | none => simp only [hz]; rfl
        | some z =>
          simp only [hz] at hg ⊢
          by_cases hc : (sizeT P e ≠ 0 && z.length = sizeT P e : Bool) = true
          · rw [if_pos hc] at hg ⊢
            simp only [Bool.and_eq_true, decide_eq_true_eq] at hc
            simp only [iV, ia_compA] at hg ⊢
            split at hg
            · rename_i a b hl hr
              split at hg
              · rename_i hq
                rw [if_pos hq]
                refine opV_al (o := ⟨d, .makeSlice t l c, ty, pos, aft, g⟩) (f := fun n => .slice (some (n, 0)) a.toNat (.ex b.toNat)) rfl ?_
                simp only [allocV, ht, hl, hr]
                rw [if_pos hq]
                by_cases h0 : b.toNat * sizeT P e = 0
                · rw [if_pos h0]
                  have : b.toNat = 0 := (Nat.mul_eq_zero.1 h0).resolve_right hc.1
                  simp [h0, this, reps]
                · rw [if_neg h0, hz]
                  simp [hc.2]
              · cases hg
            · cases hg
          · rw [if_neg hc]; rfl
      | _ => rfl
  | call c =>
    obtain ⟨cal, args, ats⟩ := c
    cases cal with
    | builtin b =>
      cases b <;> try rfl
      case max =>
        simp only [compO, iV, compL_ia] at hg ⊢
        obtain ⟨v, h1, h2⟩ := orVal_good hg
        rw [h2]
        exact opV_pure rfl h1
      case min =>
        simp only [compO, iV, compL_ia] at hg ⊢
        obtain ⟨v, h1, h2⟩ := orVal_good hg
        rw [h2]
        exact opV_pure rfl h1
      case len =>
        simp only [compO] at hg ⊢
        split at hg <;> rename_i h1 h2 <;> try rfl
        · simp only [iV, ia_compA] at hg ⊢
          split at hg
          · rename_i s hx
            exact opV_pure rfl (by simp only [pureV, oprs, h2, List.map_cons, List.map_nil, lenP, h1, hx])
          · cases hg
        · simp only [iV, ia_compA] at hg ⊢
          split at hg
          · rename_i a n c hx
            exact opV_pure rfl (by simp only [pureV, oprs, h2, List.map_cons, List.map_nil, lenP, h1, hx])
          · cases hg
      case append =>
        simp only [compO] at hg ⊢
        split at hg <;> rename_i h1 h2 <;> try rfl
        rename_i e x y
        by_cases h3 : okApp P ats[1]? = true
        · rw [if_pos h3] at hg ⊢
          simp only [iV, ia_compA] at hg ⊢
          rw [opV_ef rfl]
          simp only [effV, builtinV, oprs, h2, List.map_cons, List.map_nil]
          cases hx : opr F x with
          | slice a len c =>
            rw [hx] at hg
            dsimp only at hg ⊢
            rw [h1]
            dsimp only
            refine (if_pos ?_).trans ?_
            · exact h3
            · cases hs : srcCells h (sizeT P e) (opr F y) with
              | none => rw [hs] at hg; cases hg
              | some p => obtain ⟨n, new⟩ := p; rfl
          | _ => rw [hx] at hg; cases hg
        · rw [if_neg h3]; rfl
    | invoke r m => rfl
    | value f =>
      cases f with
      | func f =>
        simp only [compO] at hg ⊢
        cases hf : P.funcs[f]? with
        | none => rfl
        | some fn =>
          rw [hf] at hg
          dsimp only at hg ⊢
          by_cases hb : fn.body.isNone = true
          · rw [if_pos hb]; rfl
          · rw [if_neg hb] at hg ⊢
            simp only [iV, compL_ia]
            rw [opV_ef rfl]
            simp only [effV, invokeV, opr, callV, hf]
            rw [if_neg hb]
            simp
      | _ =>
        simp only [compO, iV, compL_ia, ia_compA] at hg ⊢
        rw [opV_ef rfl]
        simp only [effV, invokeV]
        split at hg <;> rename_i hx
        · rw [hx]
        · rw [hx]
        · cases hg
  | panic x =>
    simp only [compO, iV, ia_compA] at hg ⊢
    rw [opV_ef rfl]
    simp only [effV]
    split at hg <;> rename_i hx
    · rw [hx]
    · cases hg
  | _ => rfl
end Go.Vm
/- Code whose operations have been looked up: what must hold ahead of it. -/
namespace Go.Vm
variable {P : Program} {Y : Fns}

/-- An instruction: where it goes, whether it is wanted. -/
structure Ins where
  op : IOp
  d : Option Nat
  g : Option (Nat × Bool)
  deriving Inhabited
def wantI (F : Frm) : Option (Nat × Bool) → Bool
  | none => true
  | some (t, w) => (match gt F t with | .bool b => b == w | _ => false)
def compG (ops : Array Oper) : Option (Nat × Bool) → Option (Option (Nat × Bool))
  | none => some none
  | some (j, w) => (match (ops[j]?).bind (·.dst) with | some t => some (some (t, w)) | none => none)
def compI (P : Program) (ops : Array Oper) (o : Oper) : Option Ins := (compG ops o.guard).map fun g => ⟨compO P o, o.dst, g⟩
def compIs (P : Program) (ops : Array Oper) : List Oper → Option (List Ins)
  | [] => some []
  | o :: l => (match compI P ops o, compIs P ops l with | some a, some b => some (a :: b) | _, _ => none)
theorem wantI_ok {ops : Array Oper} {F : Frm} {o : Oper} {g : Option (Nat × Bool)} (h : compG ops o.guard = some g) : wantI F g = wantedV ops F o := by
  unfold wantedV
  unfold compG at h
  cases hg : o.guard with
  | none => rw [hg] at h; cases h; rfl
  | some p =>
    obtain ⟨j, w⟩ := p
    rw [hg] at h
    dsimp only at h ⊢
    cases ho : (ops[j]?).bind (·.dst) with
    | none => rw [ho] at h; cases h
    | some t =>
      rw [ho] at h
      cases h
      simp only [wantI, Option.map_some]
      unfold gt
      cases hf : F.get (Pos.of t) with
      | none => rfl
      | some v => simp only [Option.getD_some]; cases v <;> rfl

/-- Instructions, one behind the other. -/
def IW (P : Program) (Y : Fns) (rnd : Option Nat) : List Ins → S → (X → S → Prop) → Prop
  | [], s, Q => Q .normal s
  | o :: l, s, Q => (match wantI s.F o.g with
    | true => OStep P Y rnd o.d s Q (fun s' => IW P Y rnd l s' Q) (iV P s.F s.h o.op)
    | false => IW P Y rnd l { s with F := setO o.d vundef s.F } Q)
theorem OStep.good {rnd : Option Nat} {d : Option Tmp} {s : S} {Q : X → S → Prop} {K : S → Prop} {r : OR} (h : OStep P Y rnd d s Q K r) : r.good = true := by
  cases r <;> first | rfl | exact h.elim
theorem OStep.weak {rnd : Option Nat} {d : Option Tmp} {s : S} {Q : X → S → Prop} {K L : S → Prop} {r : OR} (h : OStep P Y rnd d s Q K r) (k : ∀ s, K s → L s) : OStep P Y rnd d s Q L r := by
  cases r with
  | bad w => exact h
  | val v h' => exact k _ h
  | skip h' => exact k _ h
  | enter f a => exact CW.mono h fun r q => by cases r <;> first | exact q | exact k _ q
  | round l a => exact RW.mono h fun r q => by cases r <;> first | exact q | exact k _ q
  | panic v => exact h
  | defer df => exact ⟨h.1, k _ h.2⟩
  | recover =>
    refine ⟨h.1, ?_⟩
    have h2 := h.2
    split at h2
    · exact k _ h2
    · exact k _ h2
    · exact h2
theorem IW_sound {rnd : Option Nat} {ops : Array Oper} : ∀ (os : List Oper) (l : List Ins) (s : S) (Q : X → S → Prop), compIs P ops os = some l → IW P Y rnd l s Q → OW P Y rnd ops os s Q
  | [], l, s, Q, hc, h => by cases hc; exact OW_nil.2 h
  | o :: os, l, s, Q, hc, h => by
    unfold compIs at hc
    split at hc
    · rename_i a b ha hb
      cases hc
      unfold compI at ha
      obtain ⟨g, hg, rfl⟩ := Option.map_eq_some_iff.1 ha
      have hw := wantI_ok (F := s.F) hg
      unfold IW at h
      rw [OW_cons]
      rw [hw] at h
      cases hwv : wantedV ops s.F o with
      | true =>
        rw [hwv] at h
        simp only [if_true]
        dsimp only at h
        rw [iV_ok o s.F s.h h.good]
        exact h.weak fun s' h' => IW_sound os b s' Q hb h'
      | false =>
        rw [hwv] at h
        simp only [Bool.false_eq_true, if_false]
        exact IW_sound os b _ Q hb h
    · cases hc

/-! ### Drawn regions in which reads are looked at again -/
structure DIns where
  i : Ins
  c : Nat
  late : List Nat
  early : List Nat
  low : List IA
  deriving Inhabited
def clsD (P : Program) (o : Oper) : Nat := if isEff P o then 3 else if isAl o then 2 else if mayRead P o then 1 else 0
def compDI (P : Program) (ops : Array Oper) (bf : Array Nat) (o : Oper) (t : Nat) (a : Ins) : Option DIns :=
  match clsD P o with
  | 0 => some ⟨a, 0, [], [], []⟩
  | 1 => if o.dst.isNone then none else some ⟨a, 1, lateD P ops bf t, [], if (lateD P ops bf t).isEmpty then [] else o.op.operands.toList.map compA⟩
  | 2 => some ⟨a, 2, lateD P ops bf t, [], if (lateD P ops bf t).isEmpty then [] else o.op.operands.toList.map compA⟩
  | _ => if mayRead P o then none else some ⟨a, 3, [], earlyD P ops bf t, []⟩
def compDs (P : Program) (ops : Array Oper) (bf : Array Nat) : List Oper → Nat → Option (List DIns)
  | [], _ => some []
  | o :: l, t => (match compI P ops o, compDs P ops bf l (t + 1) with
    | some a, some b => (match compDI P ops bf o t a with | some x => some (x :: b) | none => none)
    | _, _ => none)
abbrev RdI := List (Nat × Frm × IOp × V)
def lateP (P : Program) (F : Frm) (op : IOp) (low : List IA) (rd : Bool) (v : V) (E : List (Nat × Hp)) : List Nat → Prop
  | [] => True
  | e :: l => (match E.lookup e with | some h => (rd = true → sameO (iV P F h op) v = true) ∧ (low.all fun x => V.low h.next (ia F x)) = true | none => True) ∧ lateP P F op low rd v E l
def earlyP (P : Program) (h : Hp) (R : RdI) : List Nat → Prop
  | [] => True
  | r :: l => (match R.lookup r with | some (F, op, u) => sameO (iV P F h op) u = true | none => True) ∧ earlyP P h R l
def dv (F : Frm) : Option Nat → V
  | some d => gt F d
  | none => vundef
/-- What must hold behind an operation of such a region. -/
def dcK (P : Program) (c t : Nat) (o : DIns) (s : S) (E : List (Nat × Hp)) (R : RdI) (K : List (Nat × Hp) → RdI → S → Prop) : S → Prop := fun s' =>
  match c with
  | 0 => K E R s'
  | 1 => lateP P s.F o.i.op o.low true (dv s'.F o.i.d) E o.late ∧ K E ((t, s.F, o.i.op, dv s'.F o.i.d) :: R) s'
  | 2 => lateP P s.F o.i.op o.low false .nilFunc E o.late ∧ K E R s'
  | _ => earlyP P s'.h R o.early ∧ K ((t, s.h) :: E) R s'
def DW (P : Program) (Y : Fns) : List DIns → Nat → S → List (Nat × Hp) → RdI → (X → S → Prop) → Prop
  | [], _, s, _, _, Q => Q .normal s
  | o :: l, t, s, E, R, Q => (match wantI s.F o.i.g with
    | true => OStep P Y (some 0) o.i.d s (fun _ _ => False) (dcK P o.c t o s E R (fun E R s' => DW P Y l (t + 1) s' E R Q)) (iV P s.F s.h o.i.op)
    | false => DW P Y l (t + 1) { s with F := setO o.i.d vundef s.F } E R Q)
theorem OStep_out {d : Option Tmp} {s : S} {K : S → Prop} {r : OR} (h : OStep P Y (some 0) d s (fun _ _ => False) K r) : ∃ n v h', outT (evM P Y n) s.h r = some (v, h') ∧ K { s with F := setO d v s.F, h := h' } := by
  cases r with
  | bad w => exact h.elim
  | val v h' => exact ⟨0, v, h', rfl, h⟩
  | skip h' => exact ⟨0, vundef, h', rfl, h⟩
  | enter f a =>
    obtain ⟨n, r, h1, h2, h3⟩ := h
    cases r with
    | bad w => exact h3.elim
    | ret v m h' => exact ⟨n, v, h', by simp only [outT, h1], h3⟩
    | pan c m h' => exact h3.elim
  | round l a =>
    obtain ⟨n, r, h1, h2, h3⟩ := h
    cases r with
    | bad w => exact h3.elim
    | ret v m h' => exact ⟨n, v, h', by simp only [outT, h1], h3⟩
    | pan c m h' => exact h3.elim
  | panic v => exact h.elim
  | defer df => exact absurd h.1 (by simp)
  | recover => exact absurd h.1 (by simp)
theorem lookup_map {α β : Type} (f : α → β) (r : Nat) : ∀ l : List (Nat × α), (l.map fun p => (p.1, f p.2)).lookup r = (l.lookup r).map f
  | [] => rfl
  | (k, x) :: l => by
    simp only [List.map_cons, List.lookup]
    split
    · rfl
    · exact lookup_map f r l
def gI (P : Program) (p : Frm × Oper × V) : Frm × IOp × V := (p.1, compO P p.2.1, p.2.2)
theorem sameO_iV {o : Oper} {F : Frm} {h : Hp} {v : V} (hs : sameO (iV P F h (compO P o)) v = true) : sameO (opV P F h o) v = true := by
  rw [iV_ok o F h ?_]
  · exact hs
  · cases he : iV P F h (compO P o) <;> first | rfl | (rw [he] at hs; cases hs)
theorem al_noread {o : Oper} (h : isAl o = true) : mayRead P o = false := by
  unfold isAl at h
  cases hk : kindO o with
  | al =>
    obtain ⟨dd, op, ty, pos, aft, g⟩ := o
    cases op <;> first | rfl | (cases hk; done) | skip
    rename_i c
    obtain ⟨cal, args, ats⟩ := c
    cases cal with
    | builtin b => cases b <;> cases hk
    | _ => cases hk
  | _ => rw [hk] at h; cases h
theorem lateP_all {o : Oper} {F : Frm} {v : V} {E : List (Nat × Hp)} {rd : Bool} (hrd : mayRead P o = true → rd = true) {low : List IA} :
    ∀ (l : List Nat), (l ≠ [] → low = o.op.operands.toList.map compA) → lateP P F (compO P o) low rd v E l → (l.all fun e => (match E.lookup e with | some he => (!mayRead P o || sameO (opV P F he o) v) && lowO o F he.next | none => true)) = true
  | [], _, _ => rfl
  | e :: l, hl, h => by
    obtain ⟨h1, h2⟩ := h
    have hle := hl (by simp)
    rw [List.all_cons, lateP_all hrd l (fun _ => hle) h2, Bool.and_true]
    cases hE : E.lookup e with
    | none => rfl
    | some he =>
      rw [hE] at h1
      dsimp only at h1 ⊢
      obtain ⟨h3, h4⟩ := h1
      rw [hle] at h4
      simp only [List.all_map] at h4
      rw [Bool.and_eq_true, Bool.or_eq_true]
      refine ⟨?_, ?_⟩
      · cases hm : mayRead P o with
        | false => exact .inl rfl
        | true => exact .inr (sameO_iV (h3 (hrd hm)))
      · unfold lowO
        rw [List.all_eq_true] at h4 ⊢
        intro x hx
        have := h4 x hx
        simpa [ia_compA] using this
theorem earlyP_all {h : Hp} {R : RdL} : ∀ (l : List Nat), earlyP P h (R.map fun p => (p.1, gI P p.2)) l → (l.all fun r => (match R.lookup r with | some (F, q, u) => sameO (opV P F h q) u | none => true)) = true
  | [], _ => rfl
  | r :: l, hh => by
    obtain ⟨h1, h2⟩ := hh
    rw [List.all_cons, earlyP_all l h2, Bool.and_true]
    rw [lookup_map] at h1
    cases hR : R.lookup r with
    | none => rfl
    | some p =>
      obtain ⟨F, q, u⟩ := p
      rw [hR] at h1
      exact sameO_iV h1
theorem gt_setO (d : Nat) (v : V) (F : Frm) : gt (setO (some d) v F) d = v := by
  show ((F.set (Pos.of d) v).get (Pos.of d)).getD vundef = v
  rw [T.get_set_same]; rfl
theorem DW_sound {ops : Array Oper} {bf : Array Nat} : ∀ (os : List Oper) (l : List DIns) (t : Nat) (s : S) (E : List (Nat × Hp)) (R : RdL) (Q : X → S → Prop), compDs P ops bf os t = some l → DW P Y l t s E (R.map fun p => (p.1, gI P p.2)) Q →
    ∃ n s', drawT P (evM P Y n) ops bf os t s E R = .x .normal s' ∧ Q .normal s'
  | [], l, t, s, E, R, Q, hc, h => by cases hc; exact ⟨0, s, rfl, h⟩
  | o :: os, l, t, s, E, R, Q, hc, h => by
    unfold compDs at hc
    split at hc
    · rename_i a b ha hb
      split at hc
      · rename_i x hx
        cases hc
        unfold compI at ha
        obtain ⟨g, hg, rfl⟩ := Option.map_eq_some_iff.1 ha
        have hw := wantI_ok (F := s.F) hg
        have hxi : x.i = ⟨compO P o, o.dst, g⟩ := by
          unfold compDI at hx
          split at hx
          · cases hx; rfl
          · split at hx
            · cases hx
            · cases hx; rfl
          · cases hx; rfl
          · split at hx
            · cases hx
            · cases hx; rfl
        unfold DW at h
        rw [hxi] at h
        dsimp only at h
        rw [hw] at h
        unfold drawT
        cases hwv : wantedV ops s.F o with
        | false =>
          rw [hwv] at h
          simp only [Bool.false_eq_true, if_false]
          exact DW_sound os b (t + 1) _ E R Q hb h
        | true =>
          rw [hwv] at h
          simp only [if_true]
          dsimp only at h
          have hgd := h.good
          rw [← iV_ok o s.F s.h hgd] at h
          obtain ⟨n, v, h', h1, h2⟩ := OStep_out h
          -- what is looked at, and the rest
          have key : chkT P ops bf t o s.F h' v E R = true ∧ DW P Y b (t + 1) { s with F := setO o.dst v s.F, h := h' } (if isEff P o then (t, s.h) :: E else E) ((if mayRead P o then (t, s.F, o, v) :: R else R).map fun p => (p.1, gI P p.2)) Q := by
            unfold compDI clsD at hx
            unfold chkT looks
            cases he : isEff P o with
            | true =>
              rw [he] at hx
              simp only [if_true] at hx
              cases hm : mayRead P o with
              | true => rw [hm] at hx; simp at hx
              | false =>
                rw [hm] at hx
                simp only [Bool.false_eq_true, if_false, Option.some.injEq] at hx
                subst hx
                simp only [if_true, Bool.false_eq_true, if_false]
                obtain ⟨k1, k2⟩ := h2
                exact ⟨earlyP_all _ k1, k2⟩
            | false =>
              rw [he] at hx
              simp only [Bool.false_eq_true, if_false] at hx ⊢
              cases hA : isAl o with
              | true =>
                have hm := al_noread (P := P) hA
                rw [hA] at hx
                simp only [if_true, Option.some.injEq] at hx
                subst hx
                rw [hm]
                simp only [Bool.or_true, if_true, Bool.false_eq_true, if_false]
                obtain ⟨k1, k2⟩ := h2
                refine ⟨?_, k2⟩
                have := lateP_all (P := P) (o := o) (rd := false) (fun h => by rw [hm] at h; cases h) _ (fun hne => by
                  rw [if_neg (by simpa using hne)]) k1
                rw [List.all_eq_true] at this ⊢
                intro e hE
                have h5 := this e hE
                split <;> rename_i h6
                · rw [h6] at h5
                  simp only [hm, Bool.not_false, Bool.true_or, Bool.true_and] at h5 ⊢
                  exact h5
                · rfl
              | false =>
                rw [hA] at hx
                simp only [Bool.false_eq_true, if_false] at hx
                cases hm : mayRead P o with
                | false =>
                  rw [hm] at hx
                  simp only [Bool.false_eq_true, if_false, Option.some.injEq] at hx
                  subst hx
                  simp only [Bool.or_false, Bool.false_eq_true, if_false]
                  exact ⟨trivial, h2⟩
                | true =>
                  rw [hm] at hx
                  simp only [if_true] at hx
                  cases hd : o.dst with
                  | none => rw [hd] at hx; simp at hx
                  | some d =>
                    rw [hd] at hx
                    simp only [Option.isNone_some, Bool.false_eq_true, if_false, Option.some.injEq] at hx
                    subst hx
                    simp only [Bool.true_or, if_true]
                    rw [hd] at h2
                    obtain ⟨k1, k2⟩ := h2
                    simp only [dv, gt_setO] at k1 k2
                    refine ⟨?_, k2⟩
                    have := lateP_all (P := P) (o := o) (rd := true) (fun _ => rfl) _ (fun hne => by
                      rw [if_neg (by simpa using hne)]) k1
                    rw [List.all_eq_true] at this ⊢
                    intro e hE
                    have h5 := this e hE
                    split <;> rename_i h6
                    · rw [h6] at h5
                      simp only [hm] at h5 ⊢
                      exact h5
                    · rfl
          obtain ⟨m, s', k1, k2⟩ := DW_sound os b (t + 1) _ _ _ Q hb key.2
          refine ⟨n + m, s', ?_, k2⟩
          rw [(evN_le (Nat.le_add_right n m)).outT h1]
          dsimp only
          rw [key.1]
          simp only [if_true]
          exact (evN_le (Nat.le_add_left m n)).drawT _ _ _ _ _ _ _ _ _ k1
      · cases hc
    · cases hc

/-! ### Code -/
inductive IC where
  | skip
  | reg (l : List Ins)
  | drw (l : List Ins)
  | drv (l : List DIns)
  | seq (a b : IC)
  | cond (c : IA) (a b : IC)
  | block (id : Nat) (b : IC)
  | loop (b : IC)
  | exit (id : Nat)
  | ret
  | rng (f : IA) (ps : List Tmp) (a b : IC)
  | raw (c : Code)
  deriving Inhabited
def compC (P : Program) : Code → Option IC
  | .skip | .label _ => some .skip
  | .region id ops draw => if draw then (if dsafe P ops then (compIs P ops ops.toList).map .drw else if statD P ops (Region.before ops) then (match compDs P ops (Region.before ops) ops.toList 0 with | some l => some (.drv l) | none => some (.raw (.region id ops true))) else some (.raw (.region id ops true))) else (compIs P ops ops.toList).map .reg
  | .seq a b => (match compC P a, compC P b with | some x, some y => some (.seq x y) | _, _ => none)
  | .cond c a b => (match compC P a, compC P b with | some x, some y => some (.cond (compA c) x y) | _, _ => none)
  | .block id b => (compC P b).map (.block id)
  | .loop b => (compC P b).map .loop
  | .scope b => compC P b
  | .exit id => some (.exit id)
  | .ret => some .ret
  | .rangeFunc f ps a b => (match compC P a, compC P b with | some x, some y => some (.rng (compA f) ps.toList x y) | _, _ => some (.raw (.rangeFunc f ps a b)))
  | c => some (.raw c)

def qSeq (K : S → Prop) (Q : X → S → Prop) : X → S → Prop
  | .normal, s => K s
  | e, s => Q e s
def qBlk (id : Nat) (Q : X → S → Prop) : X → S → Prop
  | .exit i, s => if i = id then Q .normal s else Q (.exit i) s
  | e, s => Q e s
def qNorm (K : S → Prop) : X → S → Prop
  | .normal, s => K s
  | _, _ => False
theorem zay (K : S → Prop) (Q : X → S → Prop) (s : S) : qSeq K Q .normal s = K s := _root_.id rfl
theorem zaz (K : S → Prop) (Q : X → S → Prop) (s : S) : qSeq K Q .ret s = Q .ret s := _root_.id rfl
theorem zba (K : S → Prop) (Q : X → S → Prop) (s : S) (i : Nat) : qSeq K Q (.exit i) s = Q (.exit i) s := _root_.id rfl
theorem zbc (id : Nat) (Q : X → S → Prop) (s : S) : qBlk id Q .normal s = Q .normal s := _root_.id rfl
theorem zbd (id : Nat) (Q : X → S → Prop) (s : S) : qBlk id Q .ret s = Q .ret s := _root_.id rfl
theorem zbe (id : Nat) (Q : X → S → Prop) (s : S) (i : Nat) : qBlk id Q (.exit i) s = (if i = id then Q .normal s else Q (.exit i) s) := _root_.id rfl
theorem zbg (K : S → Prop) (s : S) : qNorm K .normal s = K s := _root_.id rfl
/-- What must hold ahead of code, so that it comes to an end of which Q holds. -/
def IXW (P : Program) (Y : Fns) (ctx : Ctx) : IC → S → (X → S → Prop) → Prop
  | .skip, s, Q => Q .normal s
  | .reg l, s, Q => IW P Y ctx.rnd l s Q
  | .drw l, s, Q => IW P Y (some 0) l s (qNorm fun s' => Q .normal s')
  | .drv l, s, Q => DW P Y l 0 s [] [] Q
  | .seq a b, s, Q => IXW P Y ctx a s (qSeq (fun s' => IXW P Y ctx b s' Q) Q)
  | .cond c a b, s, Q => (match ia s.F c with | .bool true => IXW P Y ctx a s Q | .bool false => IXW P Y ctx b s Q | _ => False)
  | .block id b, s, Q => IXW P Y ctx b s (qBlk id Q)
  | .loop b, s, Q => ∃ (I : Nat → S → Prop) (k : Nat), I k s ∧ ∀ k s, I k s → IXW P Y ctx b s (qSeq (fun s' => ∃ j, j < k ∧ I j s') Q)
  | .exit id, s, Q => Q (.exit id) s
  | .ret, s, Q => Q .ret s
  | .rng f ps a b, s, Q => ∀ ca cb, compC P ca = some a → compC P cb = some b → rngCall P Y ctx ps ca cb s Q (ia s.F f) (rngStart ctx.rnd s)
  | .raw c, s, Q => XW P Y ctx c s Q
theorem IXW_sound {ctx : Ctx} : ∀ (c : Code) (ic : IC) (s : S) (Q : X → S → Prop), compC P c = some ic → IXW P Y ctx ic s Q → XW P Y ctx c s Q
  | .skip, ic, s, Q, hc, h => by cases hc; exact XW_skip.2 h
  | .label l, ic, s, Q, hc, h => by cases hc; exact XW_label.2 h
  | .region id ops draw, ic, s, Q, hc, h => by
    unfold compC at hc
    cases draw with
    | false =>
      simp only [Bool.false_eq_true, if_false] at hc
      obtain ⟨l, hl, rfl⟩ := Option.map_eq_some_iff.1 hc
      exact XW_region.2 (IW_sound _ _ _ _ hl h)
    | true =>
      simp only [if_true] at hc
      split at hc
      · rename_i hd
        obtain ⟨l, hl, rfl⟩ := Option.map_eq_some_iff.1 hc
        refine XW_draw hd ((IW_sound _ _ _ _ hl h).mono fun e s' q => ?_)
        cases e <;> exact q
      · rename_i hd
        split at hc
        · rename_i hst
          split at hc
          · rename_i l hl
            cases hc
            exact XW_drawT (by simpa using hd) hst (DW_sound _ _ _ _ _ [] _ hl h)
          · cases hc; exact h
        · cases hc; exact h
  | .seq a b, ic, s, Q, hc, h => by
    unfold compC at hc
    split at hc
    · rename_i x y hx hy
      cases hc
      refine XW_seq.2 ((IXW_sound a x s _ hx h).mono fun e s' q => ?_)
      cases e with
      | normal => exact IXW_sound b y s' Q hy q
      | _ => exact q
    · cases hc
  | .cond c a b, ic, s, Q, hc, h => by
    unfold compC at hc
    split at hc
    · rename_i x y hx hy
      cases hc
      rw [XW_cond]
      simp only [IXW, ia_compA] at h
      cases ho : opr s.F c with
      | bool t =>
        rw [ho] at h
        cases t
        · exact IXW_sound b y s Q hy h
        · exact IXW_sound a x s Q hx h
      | _ => rw [ho] at h; exact h.elim
    · cases hc
  | .block id b, ic, s, Q, hc, h => by
    unfold compC at hc
    obtain ⟨x, hx, rfl⟩ := Option.map_eq_some_iff.1 hc
    refine XW_block.2 ((IXW_sound b x s _ hx h).mono fun e s' q => ?_)
    cases e <;> exact q
  | .loop b, ic, s, Q, hc, h => by
    unfold compC at hc
    obtain ⟨x, hx, rfl⟩ := Option.map_eq_some_iff.1 hc
    obtain ⟨I, k, h0, hI⟩ := h
    refine XW_loop_inv I (fun k s hs => (IXW_sound b x s _ hx (hI k s hs)).mono fun e s' q => ?_) k s h0
    cases e <;> exact q
  | .scope b, ic, s, Q, hc, h => by
    unfold compC at hc
    exact XW_scope.2 (IXW_sound b ic s Q hc h)
  | .exit id, ic, s, Q, hc, h => by cases hc; exact XW_exit.2 h
  | .ret, ic, s, Q, hc, h => by cases hc; exact XW_ret.2 h
  | .rangeFunc f ps a b, ic, s, Q, hc, h => by
    unfold compC at hc
    split at hc
    · rename_i x y hx hy
      cases hc
      have h1 := h a b hx hy
      rw [ia_compA] at h1
      exact XW_range h1
    · cases hc; exact h
  | .goto l, ic, s, Q, hc, h => by cases hc; exact h
  | .refuse w, ic, s, Q, hc, h => by cases hc; exact h

/-- A function as it was looked up. -/
structure FnIs (P : Program) (Y : Fns) (f nt : Nat) (res : List ResultVar) (ic : IC) : Prop where
  is : ∃ fn c, P.funcs[f]? = some fn ∧ fn.body = some c ∧ fn.ntmps = nt ∧ fn.results.toList = res ∧ compC P c = some ic
  ins : Y.ins f = false
  ok : Y.ok f = true
  sum : ∀ args md h, Y.sum f args md h = none
def retV : List V → V
  | [v] => v
  | l => .tuple l
/-- What must hold behind a body that defers nothing, so that Q holds of what it returns. -/
def qCall (P : Program) (res : List ResultVar) (omd : Option Md) (Q : CR → Prop) : X → S → Prop
  | .normal, s | .ret, s => s.ds = [] ∧ (match resultsV P s.F s.h res with | some l => Q (.ret (retV l) s.md s.h) | none => False)
  | .panic c, s => s.ds = [] ∧ Q (.pan c s.md s.h)
  | .exit _, _ => False
theorem CW_ic {f nt : Nat} {res : List ResultVar} {ic : IC} (H : FnIs P Y f nt res ic) {args : List V} {md : Option Md} {h : Hp} {Q : CR → Prop} (ha : args.length ≤ nt)
    (hx : IXW P Y { fn := f, rnd := none } ic { F := setArgs args 0 .nil, ds := [], md, h } (qCall P res md Q)) : CW P Y f args md h Q := by
  obtain ⟨⟨fn, c, h1, h2, rfl, rfl, h5⟩, hi, hk, hs⟩ := H
  refine CW_of h1 h2 (hs _ _ _) hi hk ha ((IXW_sound c ic _ _ h5 hx).mono fun e s q => ?_)
  have ret : (s.ds = [] ∧ (match resultsV P s.F s.h fn.results.toList with | some l => Q (.ret (retV l) s.md s.h) | none => False)) → LW P Y fn s.F s.md s.ds .returning s.h Q := fun q => by
    rw [q.1, LW_nil_ret]
    have q := q.2
    generalize resultsV P s.F s.h fn.results.toList = r at q ⊢
    rcases r with _ | _ | ⟨v, _ | ⟨x, l⟩⟩ <;> exact q
  cases e with
  | normal => exact ret q
  | ret => exact ret q
  | panic c => rw [q.1]; exact LW_nil_pan.2 q.2
  | exit i => exact q.elim
/-- As CW_ic, where the body defers. -/
theorem CW_icd {f nt : Nat} {res : List ResultVar} {ic : IC} (H : FnIs P Y f nt res ic) {args : List V} {md : Option Md} {h : Hp} {Q : CR → Prop} (ha : args.length ≤ nt)
    (hx : ∀ fn : Func, fn.results.toList = res → IXW P Y { fn := f, rnd := none } ic { F := setArgs args 0 .nil, ds := [], md, h } (fun e s => match e with
      | .normal | .ret => LW P Y fn s.F s.md s.ds .returning s.h Q
      | .panic c => LW P Y fn s.F s.md s.ds (.panicking c) s.h Q
      | .exit _ => False)) : CW P Y f args md h Q := by
  obtain ⟨⟨fn, c, h1, h2, rfl, rfl, h5⟩, hi, hk, hs⟩ := H
  exact CW_of h1 h2 (hs _ _ _) hi hk ha (IXW_sound c ic _ _ h5 (hx fn rfl))
/-- One round of a loop over a function, its code looked up. -/
theorem RW_ic {l : Nat} {args : List V} {h : Hp} {Q : CR → Prop} {L : Lp} {a b : IC} (hl : h.get l = some (.loop L)) (hp : args.length = L.params.length) (ha : compC P L.assign = some a) (hb : compC P L.body = some b)
    (hx : IXW P Y { fn := L.fn, rnd := some l } a { F := setPs L.params args L.F, ds := [], md := none, h } (fun e s => e = .normal ∧ s.ds = [] ∧ ∃ L', s.h.get l = some (.loop L') ∧ L'.state = .ready ∧
      IXW P Y { fn := L.fn, rnd := some l } b { s with h := s.h.put l (.loop { L' with state := .busy }) } (rndBody P Y l Q))) : RW P Y l args h Q :=
  RW_of hl hp ((IXW_sound _ a _ _ ha hx).mono fun e s ⟨h1, h2, L', h3, h4, h5⟩ => ⟨h1, h2, L', h3, h4, IXW_sound _ b _ _ hb h5⟩)
/-! ### Step by step -/
def thenK (P : Program) (Y : Fns) (ctx : Ctx) (b : IC) (Q : X → S → Prop) : S → Prop := fun s => IXW P Y ctx b s Q
def thenI (P : Program) (Y : Fns) (rnd : Option Nat) (l : List Ins) (Q : X → S → Prop) : S → Prop := fun s => IW P Y rnd l s Q
def stepI (P : Program) (Y : Fns) (rnd : Option Nat) (b : Bool) (o : Ins) (l : List Ins) (s : S) (Q : X → S → Prop) : Prop :=
  match b with
  | true => OStep P Y rnd o.d s Q (thenI P Y rnd l Q) (iV P s.F s.h o.op)
  | false => IW P Y rnd l { s with F := setO o.d vundef s.F } Q
def condK (P : Program) (Y : Fns) (ctx : Ctx) (v : V) (a b : IC) (s : S) (Q : X → S → Prop) : Prop :=
  match v with | .bool true => IXW P Y ctx a s Q | .bool false => IXW P Y ctx b s Q | _ => False
def callK (d : Option Tmp) (s : S) (Q : X → S → Prop) (K : S → Prop) : CR → Prop
  | .ret v _ h => K { s with F := setO d v s.F, h }
  | .pan c _ h => Q (.panic c) { s with h }
  | .bad _ => False
section steps
variable {ctx : Ctx} {s : S} {Q : X → S → Prop} {rnd : Option Nat} {K : S → Prop}
theorem zaa (a b : IC) : IXW P Y ctx (.seq a b) s Q = IXW P Y ctx a s (qSeq (thenK P Y ctx b Q) Q) := _root_.id rfl
theorem zab : IXW P Y ctx .skip s Q = Q .normal s := _root_.id rfl
theorem zac (l : List Ins) : IXW P Y ctx (.reg l) s Q = IW P Y ctx.rnd l s Q := _root_.id rfl
theorem zad (l : List Ins) : IXW P Y ctx (.drw l) s Q = IW P Y (some 0) l s (qNorm (Q .normal)) := _root_.id rfl
theorem zfl (l : List DIns) : IXW P Y ctx (.drv l) s Q = DW P Y l 0 s [] [] Q := _root_.id rfl
theorem zae (c : IA) (a b : IC) : IXW P Y ctx (.cond c a b) s Q = condK P Y ctx (ia s.F c) a b s Q := _root_.id rfl
theorem zaf (id : Nat) (b : IC) : IXW P Y ctx (.block id b) s Q = IXW P Y ctx b s (qBlk id Q) := _root_.id rfl
theorem zag (id : Nat) : IXW P Y ctx (.exit id) s Q = Q (.exit id) s := _root_.id rfl
theorem zah : IXW P Y ctx .ret s Q = Q .ret s := _root_.id rfl
theorem zai (b : IC) : thenK P Y ctx b Q s = IXW P Y ctx b s Q := _root_.id rfl
theorem zaj (l : List Ins) : thenI P Y rnd l Q s = IW P Y rnd l s Q := _root_.id rfl
theorem zak : IW P Y rnd [] s Q = Q .normal s := _root_.id rfl
theorem zal (o : Ins) (l : List Ins) : IW P Y rnd (o :: l) s Q = stepI P Y rnd (wantI s.F o.g) o l s Q := _root_.id rfl
theorem zam (o : Ins) (l : List Ins) : stepI P Y rnd true o l s Q = OStep P Y rnd o.d s Q (thenI P Y rnd l Q) (iV P s.F s.h o.op) := _root_.id rfl
theorem zan (o : Ins) (l : List Ins) : stepI P Y rnd false o l s Q = IW P Y rnd l { s with F := setO o.d vundef s.F } Q := _root_.id rfl
theorem zao (a b : IC) : condK P Y ctx (.bool true) a b s Q = IXW P Y ctx a s Q := _root_.id rfl
theorem zap (a b : IC) : condK P Y ctx (.bool false) a b s Q = IXW P Y ctx b s Q := _root_.id rfl
theorem zaq (d : Option Tmp) (v : V) (h : Hp) : OStep P Y rnd d s Q K (.val v h) = K { s with F := setO d v s.F, h := h } := _root_.id rfl
theorem zar (d : Option Tmp) (h : Hp) : OStep P Y rnd d s Q K (.skip h) = K { s with F := setO d vundef s.F, h := h } := _root_.id rfl
theorem zas (d : Option Tmp) (f : FuncId) (args : List V) : OStep P Y rnd d s Q K (.enter f args) = CW P Y f args none s.h (callK d s Q K) := by
  unfold OStep callK; rfl
theorem zat (d : Option Tmp) (l : Nat) (args : List V) : OStep P Y rnd d s Q K (.round l args) = RW P Y l args s.h (callK d s Q K) := by
  unfold OStep callK; rfl
theorem zav (d : Option Tmp) (v : V) (m : Option Md) (h : Hp) : callK d s Q K (.ret v m h) = K { s with F := setO d v s.F, h := h } := _root_.id rfl
theorem zax (F : Frm) : wantI F none = true := _root_.id rfl
/-- A loop, by what holds ahead of each round and how much is left. -/
theorem s_loop {b : IC} (I : Nat → S → Prop) (k : Nat) (h0 : I k s) (h : ∀ k s, I k s → IXW P Y ctx b s (qSeq (fun s' => ∃ j, j < k ∧ I j s') Q)) : IXW P Y ctx (.loop b) s Q := ⟨I, k, h0, h⟩
end steps
end Go.Vm
