/- The virtual machine's stores: paths and tries. Plain definitions and their laws. -/
import Derived.CallsIn
import Derived.Orders
set_option linter.unusedVariables false
set_option linter.unusedSimpArgs false
namespace Go.Vm

/-- A path in a trie: a number, in binary. -/
inductive Pos where
  | h
  | l (p : Pos)
  | r (p : Pos)
  deriving DecidableEq, Inhabited

def Pos.ofF : Nat → Nat → Pos
  | 0, _ => .h
  | f + 1, n => if n = 0 then .h else if n % 2 = 1 then .l (Pos.ofF f (n / 2)) else .r (Pos.ofF f (n / 2 - 1))
def Pos.of (n : Nat) : Pos := Pos.ofF (n + 1) n

/-- A trie. -/
inductive T (α : Type) where
  | nil
  | node (l : T α) (v : Option α) (r : T α)
  deriving Inhabited

namespace T
variable {α : Type}
def get (t : T α) (p : Pos) : Option α :=
  match p, t with
  | _, .nil => none
  | .h, .node _ v _ => v
  | .l p, .node l _ _ => get l p
  | .r p, .node _ _ r => get r p
def set (p : Pos) (x : α) (t : T α) : T α :=
  match p, t with
  | .h, .nil => .node .nil (some x) .nil
  | .h, .node l _ r => .node l (some x) r
  | .l p, .nil => .node (set p x .nil) none .nil
  | .l p, .node l v r => .node (set p x l) v r
  | .r p, .nil => .node .nil none (set p x .nil)
  | .r p, .node l v r => .node l v (set p x r)
theorem get_nil (p : Pos) : get (.nil : T α) p = none := by cases p <;> rfl
theorem get_set_same (p : Pos) (x : α) (t : T α) : (t.set p x).get p = some x := by
  induction p generalizing t with
  | h => cases t <;> rfl
  | l p ih => cases t <;> simp only [set, get] <;> exact ih _
  | r p ih => cases t <;> simp only [set, get] <;> exact ih _
theorem get_set_ne {p q : Pos} (h : p ≠ q) (x : α) (t : T α) : (t.set p x).get q = t.get q := by
  induction p generalizing t q with
  | h => cases q <;> first | exact absurd rfl h | (cases t <;> simp only [set, get, get_nil])
  | l p ih =>
    cases q with
    | l q => cases t <;> simp only [set, get] <;> first | exact ih (fun e => h (by rw [e])) _ | (rw [ih (fun e => h (by rw [e])), get_nil])
    | _ => cases t <;> simp only [set, get, get_nil]
  | r p ih =>
    cases q with
    | r q => cases t <;> simp only [set, get] <;> first | exact ih (fun e => h (by rw [e])) _ | (rw [ih (fun e => h (by rw [e])), get_nil])
    | _ => cases t <;> simp only [set, get, get_nil]
end T

/-- The number of a path. -/
def Pos.num : Pos → Nat
  | .h => 0
  | .l p => 2 * p.num + 1
  | .r p => 2 * p.num + 2
theorem Pos.num_ofF : ∀ (f n : Nat), n < f → (Pos.ofF f n).num = n
  | 0, n, hn => by omega
  | f + 1, n, hn => by
    unfold Pos.ofF
    split
    · rename_i e; subst e; rfl
    · split
      · simp only [Pos.num]; rw [Pos.num_ofF f (n / 2) (by omega)]; omega
      · simp only [Pos.num]; rw [Pos.num_ofF f (n / 2 - 1) (by omega)]; omega
theorem Pos.of_inj {m n : Nat} (h : Pos.of m = Pos.of n) : m = n := by
  have := congrArg Pos.num h
  unfold Pos.of at this
  rwa [Pos.num_ofF _ _ (by omega), Pos.num_ofF _ _ (by omega)] at this
end Go.Vm
/- The virtual machine: values, heap, operations, runs. Definitions alone. -/
namespace Go.Vm

inductive Cap where
  | ex (c : Nat)
  | tl (k : Nat)
  deriving DecidableEq, Inhabited

/-- Virtual values: blocks are virtual numbers. -/
inductive V where
  | bool (b : Bool)
  | int (k : IntKind) (n : Int)
  | str (s : List UInt8)
  | ptr (a : Option (Nat × Nat))
  | slice (a : Option (Nat × Nat)) (len : Nat) (c : Cap)
  | map (r : Option Nat)
  | func (f : FuncId) (first caps : List V)
  | yield (l : Nat)
  | nilFunc
  | iface (t : TypeId) (v : V)
  | nilIface
  | agg (l : List V)
  | tuple (l : List V)
  deriving Inhabited

def V.cells : V → List V
  | .agg l => l
  | v => [v]
def V.isCell : V → Bool
  | .agg _ | .tuple _ => false
  | _ => true
def vundef : V := .tuple []

abbrev Frm := T V

inductive Dfr where
  | fn (f : FuncId) (args : List V)
  | mark (b : Nat)
  deriving Inhabited

structure Blk where
  l : List V
  elem : TypeId
  exact : Bool
  rw : Bool
  frz : Nat × Nat
  deriving Inhabited

structure Lp where
  state : LoopState
  pending : Option Code
  fn : FuncId
  F : Frm
  params : List Pos
  assign : Code
  body : Code
  defers : Nat
  deriving Inhabited

inductive Ob where
  | cells (b : Blk)
  | map (es : List (V × V × Nat)) (clock : Nat)
  | loop (l : Lp)
  | deferred (opn : Bool)
  | dead
  deriving Inhabited

structure Hp where
  t : T Ob
  next : Nat
  deriving Inhabited

def Hp.get (h : Hp) (b : Nat) : Option Ob := h.t.get (Pos.of b)
def Hp.put (h : Hp) (b : Nat) (o : Ob) : Hp := { h with t := h.t.set (Pos.of b) o }
def Hp.new (h : Hp) (o : Ob) : Hp := { t := h.t.set (Pos.of h.next) o, next := h.next + 1 }

def newBlk (l : List V) (elem : TypeId) : Ob := .cells { l, elem, exact := true, rw := true, frz := (0, 0) }

/-! ### Constants -/
mutual
def toV : Value → Option V
  | .bool b => some (.bool b)
  | .int k n => some (.int k n)
  | .string s => some (.str s.data.toList)
  | .pointer none => some (.ptr none)
  | .slice none 0 0 => some (.slice none 0 (.ex 0))
  | .map none => some (.map none)
  | .nilFunc => some .nilFunc
  | .nilIface => some .nilIface
  | .agg ⟨l⟩ => (toVs l).map .agg
  | _ => none
def toVs : List Value → Option (List V)
  | [] => some []
  | v :: l => match toV v, toVs l with | some a, some b => some (a :: b) | _, _ => none
end

structure Env where
  P : Program

def opr (F : Frm) : Operand → V
  | .tmp t => (F.get (Pos.of t)).getD vundef
  | .const v => (toV v).getD vundef
  | .global g => .ptr (some (g, 0))
  | .func f => .func f [] []

/-! ### Types -/
def isAggT (P : Program) (t : TypeId) : Bool := match P.underlying t with | some (.struct _) | some (.array _ _) => true | _ => false
def sizeT (P : Program) (t : TypeId) : Nat := P.cellsOf t
def zeroT (P : Program) (t : TypeId) : Option (List V) := ((P.info? t).bind (·.zero)).bind fun z => (toV z).map V.cells
def zeroV (P : Program) (t : TypeId) : Option V := ((P.info? t).bind (·.zero)).bind toV

/-- What a type is made of is known. -/
def wfT (P : Program) (t : TypeId) : Bool :=
  match P.underlying t with
  | some (.slice e) | some (.array _ e) | some (.pointer e) => (P.underlying e).isSome
  | some (.map k e) => (P.underlying k).isSome && (P.underlying e).isSome
  | some (.struct fs) => fs.toList.all fun f => (P.underlying f.type).isSome
  | some _ => true
  | none => false

/-! ### Heap operations -/
def loadL (h : Hp) (b o n : Nat) : Option (List V) :=
  match h.get b with
  | some (.cells x) => if o + n ≤ x.l.length then some ((x.l.drop o).take n) else none
  | _ => none
def load1 (h : Hp) (b o : Nat) : Option V :=
  match h.get b with
  | some (.cells x) => x.l[o]?
  | _ => none
def splice (l : List V) (o : Nat) (vs : List V) : List V := l.take o ++ (vs ++ l.drop (o + vs.length))
def storeL (h : Hp) (b o : Nat) (vs : List V) : Option Hp :=
  match vs with
  | [] => some h
  | _ =>
    match h.get b with
    | some (.cells x) =>
      if x.rw && o + vs.length ≤ x.l.length && vs.all V.isCell && (x.frz.2 ≤ o || o + vs.length ≤ x.frz.1) then
        some (h.put b (.cells { x with l := splice x.l o vs }))
      else none
    | _ => none

/-- What an operation comes to. -/
inductive OR where
  | bad (why : String)
  | val (v : V) (h : Hp)
  | skip (h : Hp)
  | enter (f : FuncId) (args : List V)
  | round (l : Nat) (args : List V)
  | panic (v : V)
  | defer (d : Dfr)
  | recover
  deriving Inhabited

def orBad {α : Type} (o : Option α) (why : String) (k : α → OR) : OR := match o with | some x => k x | none => .bad why

/-- '==' of two plain values of a type's form. -/
def eqD (d : TypeDesc) (x y : V) : Option Bool :=
  match d, x, y with
  | .bool, .bool a, .bool b => some (a == b)
  | .int _, .int k a, .int k' b => if k = k' then some (a == b) else none
  | .string, .str a, .str b => some (a == b)
  | _, _, _ => none
/-- '==' of two structs whose fields are plain, a cell each: the fields from number i on. -/
def eqFs (P : Program) : List Field → Nat → List V → List V → Option Bool
  | [], _, _, _ => some true
  | f :: fs, i, x :: l, y :: m =>
    if f.name != "_" && f.offset == i then
      (match P.underlying f.type with
       | some d => (match eqD d x y, eqFs P fs (i + 1) l m with | some a, some b => some (a && b) | _, _ => none)
       | none => none)
    else none
  | _, _, _, _ => none
/-- '==' of two arrays of plain elements. -/
def eqIs (d : TypeDesc) : Nat → List V → List V → Option Bool
  | 0, _, _ => some true
  | n + 1, x :: l, y :: m => (match eqD d x y, eqIs d n l m with | some a, some b => some (a && b) | _, _ => none)
  | _, _, _ => none
def eqAgg (P : Program) (t : TypeId) (l m : List V) : Option Bool :=
  match P.underlying t with
  | some (.struct fs) => if P.stoodInHeld t then none else eqFs P fs.toList 0 l m
  | some (.array n e) => if sizeT P e = 1 ∧ n ≠ 0 then (match P.underlying e with | some d => eqIs d n l m | none => none) else none
  | _ => none
def famFree (h : Hp) (b o : Nat) : Bool := match h.get b with | some (.cells x) => (x.exact || !x.rw) && x.frz.1 == x.frz.2 && decide (o < x.l.length) | _ => false
/-- '==' of two values of a type, no memory being looked at. -/
def eqV (P : Program) (cst : Bool) : Nat → TypeId → V → V → Option Bool
  | 0, _, _, _ => none
  | d + 1, t, x, y => match P.underlying t, x, y with
    | some .bool, .bool a, .bool b => some (a == b)
    | some (.int _), .int k a, .int k' b => if k = k' then some (a == b) else none
    | some .string, .str a, .str b => some (a == b)
    | some (.pointer _), .ptr none, .ptr b => some b.isNone
    | some (.pointer _), .ptr (some _), .ptr none => some false
    | some (.pointer e), .ptr (some (a, o)), .ptr (some (b, o')) => if a = b && sizeT P e ≠ 0 then some (o == o') else none
    | some (.interface _), .nilIface, .nilIface => if cst then some true else none
    | some (.interface _), .nilIface, .iface _ _ | some (.interface _), .iface _ _, .nilIface => some false
    | some (.interface _), .iface tx vx, .iface ty vy => if tx ≠ ty then some false else if ((P.info? tx).map (·.comparable)).getD false then eqV P false d tx vx vy else none
    | some (.slice _), .slice none _ _, .slice b _ _ => some b.isNone
    | some (.slice _), .slice (some _) _ _, .slice none _ _ => some false
    | some (.map _ _), .map none, .map b => some b.isNone
    | some (.map _ _), .map (some _), .map none => some false
    | some (.func _ _ _), .nilFunc, .nilFunc => some true
    | some (.func _ _ _), .nilFunc, .func _ _ _ | some (.func _ _ _), .func _ _ _, .nilFunc => some false
    | some (.struct _), .agg l, .agg m | some (.array _ _), .agg l, .agg m => if 3 ≤ P.depth then eqAgg P t l m else none
    | _, _, _ => none

def bytesLess : List UInt8 → List UInt8 → Bool
  | _, [] => false
  | [], _ :: _ => true
  | a :: x, b :: y => a < b || (a == b && bytesLess x y)

def intBits (op : BinOp) (k : IntKind) (x y : Int) : Option Int :=
  let a := BitVec.ofInt k.bits x
  let b := BitVec.ofInt k.bits y
  match op with
  | .and => some (k.wrap (a &&& b).toNat)
  | .or => some (k.wrap (a ||| b).toNat)
  | .xor => some (k.wrap (a ^^^ b).toNat)
  | .andNot => some (k.wrap (a &&& ~~~b).toNat)
  | _ => none

def binV (P : Program) (op : BinOp) (t : TypeId) (cst : Bool) (x y : V) : Option V :=
  match op, x, y with
  | .eql, x, y => (eqV P cst 50 t x y).map .bool
  | .neq, x, y => (eqV P cst 50 t x y).map fun b => .bool (!b)
  | .shl, .int k a, .int _ b => if b < 0 then none else some (.int k (k.wrap (a * 2 ^ (min b.toNat k.bits))))
  | .shr, .int k a, .int _ b => if b < 0 then none else some (.int k (a.fdiv (2 ^ (min b.toNat k.bits))))
  | op, .int k a, .int k' b => if k = k' then (match op with
    | .add => some (.int k (k.wrap (a + b)))
    | .sub => some (.int k (k.wrap (a - b)))
    | .mul => some (.int k (k.wrap (a * b)))
    | .quo => if b = 0 then none else some (.int k (k.wrap (a.tdiv b)))
    | .rem => if b = 0 then none else some (.int k (a.tmod b))
    | .lss => some (.bool (a < b))
    | .leq => some (.bool (a ≤ b))
    | .gtr => some (.bool (a > b))
    | .geq => some (.bool (a ≥ b))
    | op => (intBits op k a b).map (.int k)) else none
  | .add, .str a, .str b => if a.length + b.length ≤ 2 ^ 62 then some (.str (a ++ b)) else none
  | .lss, .str a, .str b => some (.bool (bytesLess a b))
  | .leq, .str a, .str b => some (.bool (bytesLess a b || a == b))
  | .gtr, .str a, .str b => some (.bool (!(bytesLess a b || a == b)))
  | .geq, .str a, .str b => some (.bool (!bytesLess a b))
  | _, _, _ => none

def unV (op : UnOp) (x : V) : Option V :=
  match op, x with
  | .neg, .int k n => some (.int k (k.wrap (0 - n)))
  | .xor, .int k n => (intBits .xor k (if k.signed then -1 else k.max) n).map (.int k)
  | .not, .bool b => some (.bool !b)
  | _, _ => none

def bytesOf : List V → Option (List UInt8)
  | [] => some []
  | .int .u8 n :: l => (bytesOf l).map (UInt8.ofNat n.toNat :: ·)
  | _ => none
def ofBytes (s : List UInt8) : List V := s.map fun b => .int .u8 (b.toNat : Int)

/-- A block whose capacity is not known. -/
def newAmb (h : Hp) (l : List V) (elem : TypeId) (len : Nat) : OR :=
  .val (.slice (some (h.next, 0)) len (.tl 0)) (h.new (.cells { l, elem, exact := false, rw := true, frz := (0, 0) }))

def fillV (l : List V) : List (Nat × Nat × V) → Option (List V)
  | [] => some l
  | (o, n, v) :: rest => let cs := v.cells; if cs.length = n && o + n ≤ l.length && cs.all V.isCell then fillV (splice l o cs) rest else none

def fieldsOf (P : Program) (t : TypeId) : Option (List Field) := match P.underlying t with | some (.struct fs) => some fs.toList | _ => none
def placeOf (P : Program) (t : TypeId) (i : Nat) : Option (Nat × Nat) :=
  match P.underlying t with
  | some (.struct fs) => (fs[i]?).map fun f => (f.offset, sizeT P f.type)
  | some (.array _ e) => some (i * sizeT P e, sizeT P e)
  | _ => none
def places (P : Program) (t : TypeId) (F : Frm) : List (Nat × Operand) → Option (List (Nat × Nat × V))
  | [] => some []
  | (i, x) :: l => match placeOf P t i, places P t F l with | some (o, n), some r => some ((o, n, opr F x) :: r) | _, _ => none
def placesE (s : Nat) (F : Frm) : List (Nat × Operand) → List (Nat × Nat × V)
  | [] => []
  | (i, x) :: l => (i * s, s, opr F x) :: placesE s F l

def reps (n : Nat) (z : List V) : List V := match n with | 0 => [] | n + 1 => z ++ reps n z

def capGe (P : Program) (h : Hp) (a : Option (Nat × Nat)) (e : TypeId) (c : Cap) : Nat :=   -- a capacity that there is for sure
  match c, a with
  | .ex n, _ => n
  | .tl k, some (b, o) => (match h.get b with | some (.cells x) => if sizeT P e ≠ 0 ∧ x.exact = false ∧ x.rw = true ∧ x.elem = e ∧ o = k * sizeT P e then (x.l.length - o) / sizeT P e else 0 | _ => 0)
  | .tl _, none => 0

/-- append: the elements' cells are at hand. -/
def appendV (P : Program) (h : Hp) (elem : TypeId) (a : Option (Nat × Nat)) (len : Nat) (c : Cap) (new : List V) (n : Nat) : OR :=
  let sz := sizeT P elem
  let need := len + n
  if 2 * need * ((P.info? elem).map (·.bytes)).getD 0 > 2 ^ 48 || need > 2 ^ 62 || !((zeroT P elem).any fun z => decide (z.length = sz)) then .bad "append: too great" else
  match c, a with
  | .ex m, a =>
    if need ≤ m then
      (match a with
       | some (b, o) => orBad (storeL h b (o + len * sz) new) "append in place" fun h' => .val (.slice a need c) h'
       | none => .val (.slice a need c) h)
    else
      (match a with
       | some (b, o) => orBad (loadL h b o (len * sz)) "append: old" fun old => if new.all V.isCell then newAmb h (old ++ new) elem need else .bad "append: cells"
       | none => if len = 0 && new.all V.isCell then newAmb h new elem need else .bad "append: nil")
  | .tl k, some (b, o) =>
    if n = 0 then .val (.slice a len c) h else
    match h.get b with
    | some (.cells x) =>
      if !(!x.exact && x.rw && x.elem == elem && o == k * sz && sz != 0) then .bad "append: another kind of block"
      else if o + need * sz ≤ x.l.length then orBad (storeL h b (o + len * sz) new) "append within" fun h' => .val (.slice a need c) h'
      else if o + len * sz ≤ x.l.length && x.rw && new.all V.isCell && x.frz.2 ≤ o + len * sz then
        let h1 := h.put b .dead
        .val (.slice (some (h.next, 0)) need (.tl 0)) (h1.new (.cells { l := (x.l.drop o).take (len * sz) ++ new, elem, exact := false, rw := true, frz := (x.frz.1 - o, x.frz.2 - o) }))
      else .bad "append: an elder slice"
    | _ => .bad "append: dead"
  | .tl _, none => .bad "append: tl nil"

def srcCells (h : Hp) (sz : Nat) : V → Option (Nat × List V)
  | .slice (some (b, o)) n _ => if n * sz = 0 then some (n, []) else (loadL h b o (n * sz)).map fun l => (n, l)
  | .slice none 0 _ => some (0, [])
  | .str s => if sz = 1 then some (s.length, ofBytes s) else none
  | _ => none

def natBound (v : V) : Option Nat := match v with | .int _ n => if 0 ≤ n then some n.toNat else none | _ => none
def optBound (F : Frm) : Option Operand → Option (Option Nat)
  | none => some none
  | some x => (natBound (opr F x)).map some

def keyEq (P : Program) (t : TypeId) (x y : V) : Option Bool :=
  match P.underlying t, x, y with
  | some (.struct _), .agg l, .agg m | some (.array _ _), .agg l, .agg m => eqAgg P t l m
  | some d, x, y => eqD d x y
  | none, _, _ => none
/-- A key that is looked at, and can be. -/
def keyOk (P : Program) (t : TypeId) (k : V) : Bool :=
  match P.underlying t, k with
  | some .bool, _ | some (.int _), _ | some .string, _ => true
  | some (.struct fs), .agg l => (eqFs P fs.toList 0 l l).isSome && !P.stoodInHeld t
  | _, _ => false
def findK (P : Program) (t : TypeId) (k : V) : List (V × V × Nat) → Nat → Option (Option (Nat × V × V))
  | [], _ => some none
  | (k', v, _) :: es, i => match keyEq P t k k' with
    | some true => some (some (i, k', v))
    | some false => findK P t k es (i + 1)
    | none => none

def lookupV (P : Program) (h : Hp) (t : TypeId) (m k : V) (ok : Bool) : OR :=
  match P.underlying t with
  | some (.map kt et) =>
    if !keyOk P kt k then .bad "map key" else
    (match m with
     | .map none => orBad (zeroV P et) "zero" fun z => .val (if ok then .tuple [z, .bool false] else z) h
     | .map (some r) => (match h.get r with
       | some (.map es _) => (match findK P kt k es 0 with
         | some (some (_, _, v)) => .val (if ok then .tuple [v, .bool true] else v) h
         | some none => orBad (zeroV P et) "zero" fun z => .val (if ok then .tuple [z, .bool false] else z) h
         | none => .bad "map key")
       | _ => .bad "map")
     | _ => .bad "lookup")
  | _ => .bad "lookup type"

def setNth (l : List (V × V × Nat)) (i : Nat) (k v : V) : List (V × V × Nat) :=
  match l, i with
  | [], _ => []
  | (_, _, c) :: l, 0 => (k, v, c) :: l
  | e :: l, i + 1 => e :: setNth l i k v

def plainEq : V → V → Bool
  | .bool a, .bool b => a == b
  | .int j a, .int k b => decide (j = k) && a == b
  | .str a, .str b => a == b
  | _, _ => false
def plainEqs : List V → List V → Bool
  | [], [] => true
  | x :: l, y :: m => plainEq x y && plainEqs l m
  | _, _ => false
/-- An elder key and a new one are the same, bit by bit. -/
def keyStays : V → V → Bool
  | .agg l, .agg m => plainEqs l m
  | x, y => plainEq x y
def updateV (P : Program) (h : Hp) (t : TypeId) (m k v : V) : OR :=
  match P.underlying t, m with
  | some (.map kt _), .map (some r) => if !keyOk P kt k then .bad "map key" else (match h.get r with
    | some (.map es c) => (match findK P kt k es 0 with
      | some (some (i, k', _)) => if keyStays k' k then .skip (h.put r (.map (setNth es i k v) c)) else .bad "map key"
      | some none => .skip (h.put r (.map (es ++ [(k, v, c)]) (c + 1)))
      | none => .bad "map key")
    | _ => .bad "map")
  | _, _ => .bad "mapUpdate"

def leastMissing (want : Array (String × TypeId)) (got : Array Method) : Bool :=
  want.toList.all fun (name, sig) => got.any fun m => m.name == name && m.sig == sig

def maxV (mx : Bool) : List V → Option V
  | [] => none
  | x :: l => l.foldl (fun a y => match a, y with
    | some (.int k a), .int _ b => some (.int k (if mx then (if b > a then b else a) else (if b < a then b else a)))
    | _, _ => none) (some x)

def followV (P : Program) : List FieldStep → TypeId → V → Option (TypeId × V)
  | [], t, v => some (t, v)
  | s :: rest, _, v => if s.deref then none else
    match fieldsOf P s.struct, v with
    | some fs, .agg l => (match fs[s.index]? with
      | some f => if (P.underlying f.type).isSome then (match (if isAggT P f.type then some (.agg ((l.drop f.offset).take (sizeT P f.type))) else l[f.offset]?) with
        | some x => followV P rest f.type x
        | none => none) else none
      | none => none)
    | _, _ => none
def methodV (P : Program) (t : TypeId) (v : V) (name : String) : Option (FuncId × V) :=
  match (P.info? t).bind fun i => i.methods.find? (·.name == name) with
  | some m =>
    (match followV P m.path.toList t v, m.func with
    | some (xt, x), some (f, ptr) => (match P.underlying xt with
      | some (.pointer _) => if ptr then some (f, x) else none
      | some _ => if ptr then none else some (f, x)
      | none => none)
    | _, _ => none)
  | none => none

/-! ### Functions without a body -/
def handleV (P : Program) (t : TypeId) : V := .ptr (some (P.globals.size, t))
def rtypeT (P : Program) : Option TypeId := (P.cutTypes.find? (·.1 == "internal/reflectlite.rtype")).map (·.2)
def typeV (P : Program) (t : TypeId) : Option V := (rtypeT P).map fun r => .iface r (.agg [handleV P t])
def ofHandleV (P : Program) : V → Option TypeId
  | .ptr (some (b, t)) => if b = P.globals.size ∧ t < P.types.size then some t else none
  | _ => none
def ofRtypeV (P : Program) : V → Option TypeId
  | .agg [x] => ofHandleV P x
  | _ => none
def underT (P : Program) (t : TypeId) : Option (TypeId × TypeInfo) :=
  match P.info? t with
  | some i => (match i.desc with | .named _ u => (P.info? u).map fun j => (u, j) | _ => some (t, i))
  | none => none
def kindT (P : Program) (t : TypeId) : Option Nat :=
  match underT P t with
  | some (_, i) => (match i.desc with
    | .pointer _ => some 22 | .interface _ => some 20 | .struct _ => some 25 | .string => some 24 | .slice _ => some 23
    | _ => none)
  | none => none
def elemT (P : Program) (t : TypeId) : Option TypeId := match underT P t with | some (_, i) => (match i.desc with | .pointer e => some e | _ => none) | none => none
/-- 'implements', at an interface type and a type that is none. -/
def implsT (P : Program) (u t : TypeId) : Option Bool :=
  match underT P u, underT P t, P.info? t with
  | some (_, i), some (_, j), some k => (match i.desc, j.desc with
    | .interface _, .interface _ => none
    | .interface want, _ => some (leastMissing want k.methods)
    | _, _ => some false)
  | _, _, _ => none
def assignT (P : Program) (u t : TypeId) : Option Bool :=
  if u = t then (implsT P u t).map fun _ => true else
  match underT P u, underT P t with
  | some (a, i), some (b, _) => (match i.desc with
    | .chan _ _ => none
    | _ => if a = b then none else implsT P u t)
  | _, _ => none
def externV (P : Program) (h : Hp) (name : String) (args : List V) : OR :=
  match name, args with
  | "internal/bytealg.IndexByteString", [.str s, .int .u8 c] => .val (.int .i64 (match s.findIdx? (fun b => b == c.toNat.toUInt8) with | some i => (i : Int) | none => -1)) h
  | "internal/reflectlite.TypeOf", [.nilIface] => .val .nilIface h
  | "internal/reflectlite.TypeOf", [.iface t _] => orBad (typeV P t) "TypeOf" fun v => .val v h
  | "(internal/reflectlite.rtype).Comparable", [r] => orBad ((ofRtypeV P r).bind P.info?) "Comparable" fun i => .val (.bool i.comparable) h
  | "(internal/reflectlite.rtype).Elem", [r] => orBad (((ofRtypeV P r).bind (elemT P)).bind (typeV P)) "Elem" fun v => .val v h
  | "(internal/reflectlite.rtype).Implements", [r, .iface _ u] => orBad ((ofRtypeV P u).bind fun u => (ofRtypeV P r).bind fun t => if kindT P u = some 20 then implsT P u t else none) "Implements" fun b => .val (.bool b) h
  | "(internal/reflectlite.rtype).AssignableTo", [r, .iface _ u] => orBad ((ofRtypeV P u).bind fun u => (ofRtypeV P r).bind fun t => (P.info? u).bind fun _ => assignT P u t) "AssignableTo" fun b => .val (.bool b) h
  | "(*internal/abi.Type).Kind", [x] => orBad ((ofHandleV P x).bind (kindT P)) "Kind" fun k => .val (.int .u8 k) h
  | "internal/reflectlite.ValueOf", [.iface t v] => orBad (kindT P t) "ValueOf" fun k =>
      .val (.agg [handleV P t, .ptr (some (h.next, 0)), .int .u64 ((k + 128 : Nat) : Int)]) (h.new (newBlk v.cells t))
  | "(internal/reflectlite.Value).Type", [.agg [x, .ptr (some _), .int .u64 f]] => if f = 0 then .bad "Type" else orBad ((ofHandleV P x).bind (typeV P)) "Type" fun v => .val v h
  | "(internal/reflectlite.Value).IsNil", [.agg [x, .ptr (some (b, o)), .int .u64 f]] => if f.toNat % 32 ≠ 22 then .bad "IsNil" else (match (ofHandleV P x).bind P.underlying, load1 h b o with
    | some (.pointer _), some (.ptr none) => .val (.bool true) h
    | some (.pointer _), some (.ptr (some _)) => .val (.bool false) h
    | _, _ => .bad "IsNil")
  | "(internal/reflectlite.Value).Elem", [.agg [x, .ptr (some (b, o)), .int .u64 f]] => if f.toNat % 32 ≠ 22 then .bad "Elem" else (match (ofHandleV P x), (ofHandleV P x).bind P.underlying, load1 h b o with
    | some t, some (.pointer _), some (.ptr (some p)) => orBad (elemT P t) "Elem" fun e => orBad (kindT P e) "Elem" fun k => .val (.agg [handleV P e, .ptr (some p), .int .u64 ((k + 128 + 256 : Nat) : Int)]) h
    | _, _, _ => .bad "Elem")
  | "(internal/reflectlite.Value).Set", [.agg [x, .ptr (some (b, o)), .int .u64 f], .agg [y, .ptr (some (c, p)), .int .u64 f2]] => if f = 0 || f2 = 0 || f.toNat / 256 % 2 = 0 then .bad "Set" else
    (match ofHandleV P x, ofHandleV P y with
     | some t, some u => if t = u && wfT P t && !isAggT P t && sizeT P t = 1 then orBad (load1 h c p) "Set" fun v => if V.isCell v then orBad (storeL h b o [v]) "Set" fun h' => .val (.tuple []) h' else .bad "Set" else .bad "Set"
     | _, _ => .bad "Set")
  | n, _ => .bad ("extern " ++ n)

/-- slices.Insert of one int: in place or not. -/
def insertV (P : Program) (e : TypeId) (h : Hp) : List V → OR
  | [.slice (some (b, 0)) n (.tl 0), .int .i64 i, .slice (some (c, p)) 1 _] =>
    (match h.get b, loadL h c p 1 with
     | some (.cells x), some [v] => if 0 ≤ i && i.toNat ≤ n && n ≤ x.l.length && x.rw && !x.exact && x.frz.1 == x.frz.2 && b != c && x.elem == e && sizeT P e == 1 && x.l.all V.isCell && v.isCell && famFree h c p && n ≤ 2 ^ 40 then
         let l := x.l.take n
         .val (.slice (some (h.next, 0)) (n + 1) (.tl 0)) ((h.put b .dead).new (.cells { l := l.take i.toNat ++ v :: l.drop i.toNat, elem := e, exact := false, rw := true, frz := (0, 0) }))
       else .bad "Insert"
     | _, _ => .bad "Insert")
  | [.slice none 0 (.ex 0), .int .i64 0, .slice (some (c, p)) 1 _] =>
    (match loadL h c p 1 with
     | some [v] => if sizeT P e == 1 && v.isCell then newAmb h [v] e 1 else .bad "Insert"
     | _ => .bad "Insert")
  | _ => .bad "Insert args"
def callV (P : Program) (h : Hp) (f : FuncId) (args : List V) : OR :=
  match P.funcs[f]? with
  | none => .bad "no such function"
  | some fn => if fn.body.isNone then externV P h fn.name args else .enter f args

def builtinV (P : Program) (h : Hp) (b : Builtin) (ts : Array TypeId) (args : List V) : OR :=
  match b, args with
  | .append, [.slice a len c, x] => (match (ts[0]?).bind P.underlying with
    | some (.slice e) => if (match ts[1]? with | none => true | some u => (match P.underlying u with | none | some (.int _) => false | _ => true)) then
        orBad (srcCells h (sizeT P e) x) "append: source" fun (n, new) => appendV P h e a len c new n
      else (match (ts[1]?).bind P.underlying, x with
        | some (.int _), .int .i64 k => if 0 ≤ k && k ≤ 2 ^ 40 then orBad (zeroT P e) "zero" fun z => appendV P h e a len c (reps k.toNat z) k.toNat else .bad "append of zeros"
        | _, _ => .bad "append of zeros")
    | _ => .bad "append")
  | .copy, [.slice a len _, .slice x n c] => (match (ts[0]?).bind P.underlying with
    | some (.slice e) =>
        let m := if n < len then n else len
        orBad (srcCells h (sizeT P e) (.slice x m c)) "copy: source" fun (_, new) =>
        (match a with
         | some (b, o) => orBad (storeL h b o new) "copy" fun h' => .val (.int .i64 m) h'
         | none => .val (.int .i64 m) h)
    | _ => .bad "copy")
  | .clear, [.slice a n _] => (match (ts[0]?).bind P.underlying, a with
    | some (.slice e), some (b, o) => orBad (zeroT P e) "zero" fun z => orBad (storeL h b o (reps n z)) "clear" fun h' => .val (.tuple []) h'
    | some (.slice _), none => .val (.tuple []) h
    | _, _ => .bad "clear")
  | .recover, [] => .recover
  | .panic, [x] => (match x with | .iface _ _ => .panic x | _ => .bad "panic(nil)")
  | _, _ => .bad "builtin"

def invokeV (P : Program) (h : Hp) (f : V) (args : List V) : OR :=
  match f with
  | .func f first caps => callV P h f (first ++ args ++ caps)
  | .yield l => .round l args
  | _ => .bad "call of a nil function"

def oprs (F : Frm) (l : Array Operand) : List V := l.toList.map (opr F)

def isConstO : Operand → Bool | .const _ => true | _ => false

/-! ### Operations by kind -/
/-- 'x[lo:hi:mx]' within the length. -/
def slicePure (P : Program) (F : Frm) (t : TypeId) (x : V) (lo hi mx : Option Operand) : Option V :=
  match optBound F lo, optBound F hi, optBound F mx with
  | some lo, some hi, some mx =>
    let l := lo.getD 0
    match P.underlying t, x with
    | some .string, .str s =>
      let r := hi.getD s.length
      if mx.isNone && l ≤ r && r ≤ s.length then some (.str ((s.drop l).take (r - l))) else none
    | some (.slice e), .slice a len c =>
      let sz := sizeT P e
      let r := hi.getD len
      (match mx with
       | none => if l ≤ r && r ≤ len then some (.slice (a.map fun (b, o) => (b, o + l * sz)) (r - l) (match c with | .ex m => .ex (m - l) | .tl k => .tl (k + l))) else none
       | some m => if hi.isSome && l ≤ r && r ≤ m && m ≤ len then some (.slice (a.map fun (b, o) => (b, o + l * sz)) (r - l) (.ex (m - l))) else none)
    | some (.array n e), .ptr (some (b, o)) =>
      let sz := sizeT P e
      let r := hi.getD n
      (match mx with
       | none => if l ≤ r && r ≤ n then some (.slice (some (b, o + l * sz)) (r - l) (.ex (n - l))) else none
       | some m => if hi.isSome && l ≤ r && r ≤ m && m ≤ n then some (.slice (some (b, o + l * sz)) (r - l) (.ex (m - l))) else none)
    | _, _ => none
  | _, _, _ => none

/-- Beyond the length, within what there is for sure. -/
def sliceRead (P : Program) (F : Frm) (h : Hp) (t : TypeId) (x : V) (lo hi mx : Option Operand) : Option V :=
  match optBound F lo, optBound F hi, mx with
  | some lo, some (some r), none =>
    let l := lo.getD 0
    match P.underlying t, x with
    | some (.slice e), .slice a len c =>
      let sz := sizeT P e
      if l ≤ r && r ≤ capGe P h a e c then some (.slice (a.map fun (b, o) => (b, o + l * sz)) (r - l) (match c with | .ex m => .ex (m - l) | .tl k => .tl (k + l))) else none
    | _, _ => none
  | _, _, _ => none

def assertP (P : Program) (x : V) (t : TypeId) (ok : Bool) : Option V :=
  let holds (v : V) : Option V := some (if ok then .tuple [v, .bool true] else v)
  let fails : Option V := if ok then (zeroV P t).map fun z => .tuple [z, .bool false] else none
  match P.underlying t, x with
  | some (.interface _), .nilIface => fails
  | some (.interface want), .iface d _ => (match (P.info? d) with
    | some i => if leastMissing want i.methods then holds x else fails
    | none => none)
  | some _, .nilIface => fails
  | some _, .iface d v => if d = t then holds v else fails
  | _, _ => none

def lenP (P : Program) (ts : Array TypeId) (x : V) : Option V :=
  match (ts[0]?).bind P.underlying, x with
  | some .string, .str s => some (.int .i64 s.length)
  | some (.array n _), _ => some (.int .i64 n)
  | some (.pointer a), _ => (match P.underlying a with | some (.array n _) => some (.int .i64 n) | _ => none)
  | some (.slice _), .slice _ n _ => some (.int .i64 n)
  | some (.map _ _), .map none => some (.int .i64 0)
  | _, _ => none

def indexAddrP (P : Program) (t : TypeId) (X I : V) : Option V :=
  match P.underlying t, X, I with
  | some (.slice e), .slice (some (b, o)) len _, .int _ n => if 0 ≤ n && n < len then some (.ptr (some (b, o + n.toNat * sizeT P e))) else none
  | some (.array len e), .ptr (some (b, o)), .int _ n => if 0 ≤ n && n < len then some (.ptr (some (b, o + n.toNat * sizeT P e))) else none
  | _, _, _ => none
def indexP (P : Program) (t : TypeId) (X I : V) : Option V :=
  match P.underlying t, X, I with
  | some .string, .str s, .int _ n => if 0 ≤ n then (s[n.toNat]?).map fun b => .int .u8 (b.toNat : Int) else none
  | some (.array len e), .agg l, .int _ n => if 0 ≤ n && n < len then (if isAggT P e then some (.agg ((l.drop (n.toNat * sizeT P e)).take (sizeT P e))) else l[n.toNat * sizeT P e]?) else none
  | _, _, _ => none

/-- Operations that look at no memory. -/
def pureV (P : Program) (F : Frm) (o : Oper) : Option V :=
  match o.op with
  | .move x | .assign x => some (opr F x)
  | .pick c a b => (match opr F c with | .bool t => some (if t then opr F a else opr F b) | _ => none)
  | .build t ps => if isAggT P t then (match zeroT P t with
    | some z => (match places P t F ps.toList with | some q => (fillV z q).map .agg | none => none)
    | none => none) else none
  | .nilCheck x => (match opr F x with
    | .ptr none | .nilIface | .nilFunc => none
    | v => some v)
  | .binOp op t x y _ => binV P op t (isConstO x || isConstO y) (opr F x) (opr F y)
  | .unOp op _ x => unV op (opr F x)
  | .convert s d x => (match P.underlying s, P.underlying d, opr F x with
    | some _, some (.int k), .int _ n => some (.int k (k.wrap n))
    | some _, some .string, .str s => some (.str s)
    | _, _, _ => none)
  | .makeInterface t x => (match P.underlying t with | some (.interface _) => none | some _ => some (.iface t (opr F x)) | none => none)
  | .makeFunc fn first caps => (match fn with | .func f => some (.func f (oprs F first) (oprs F caps)) | _ => none)
  | .slice t x lo hi mx => slicePure P F t (opr F x) lo hi mx
  | .fieldAddr s x i => (match opr F x, fieldsOf P s with
    | .ptr (some (b, o)), some fs => (match fs[i]? with | some f => if sizeT P f.type = 0 then none else some (.ptr (some (b, o + f.offset))) | none => none)
    | _, _ => none)
  | .field t x i => (match opr F x, fieldsOf P t with
    | .agg l, some fs => (match fs[i]? with
      | some f => if isAggT P f.type then some (.agg ((l.drop f.offset).take (sizeT P f.type))) else l[f.offset]?
      | none => none)
    | _, _ => none)
  | .indexAddr t x i => indexAddrP P t (opr F x) (opr F i)
  | .index t x i => indexP P t (opr F x) (opr F i)
  | .typeAssert x _ t ok => assertP P (opr F x) t ok
  | .extract t i => (match opr F t with | .tuple l => l[i]? | _ => none)
  | .call c => (match c.callee with
    | .builtin .len => (match oprs F c.args with | [x] => lenP P c.argTypes x | _ => none)
    | .builtin .cap => (match (c.argTypes[0]?).bind P.underlying, oprs F c.args with | some (.slice _), [.slice _ _ (.ex n)] => some (.int .i64 n) | _, _ => none)
    | .builtin .max => maxV true (oprs F c.args)
    | .builtin .min => maxV false (oprs F c.args)
    | _ => none)
  | _ => none

/-- '==' of two pointers to two blocks, bare or in interface values. -/
def eqR (P : Program) (h : Hp) (t : TypeId) (x y : V) : Option Bool :=
  match P.underlying t, x, y with
  | some (.pointer e), .ptr (some (a, o)), .ptr (some (b, o')) => if a ≠ b && sizeT P e ≠ 0 && famFree h a o && famFree h b o' then some false else none
  | some (.interface _), .iface tx (.ptr (some (a, o))), .iface ty (.ptr (some (b, o'))) =>
    (match P.underlying tx with
     | some (.pointer e) => if tx = ty && ((P.info? tx).map (·.comparable)).getD false && a ≠ b && sizeT P e ≠ 0 && famFree h a o && famFree h b o' then some false else none
     | _ => none)
  | _, _, _ => none

/-- Operations that read memory and turn nothing. -/
def readV (P : Program) (F : Frm) (h : Hp) (o : Oper) : Option V :=
  match o.op with
  | .load t a => (match opr F a with
    | .ptr (some (b, i)) => if isAggT P t then (loadL h b i (sizeT P t)).map .agg else load1 h b i
    | _ => none)
  | .lookup t m k ok => (match lookupV P h t (opr F m) (opr F k) ok with | .val v _ => some v | _ => none)
  | .binOp op t x y _ => (match op with
    | .eql => (eqR P h t (opr F x) (opr F y)).map .bool
    | .neq => (eqR P h t (opr F x) (opr F y)).map fun b => .bool (!b)
    | _ => none)
  | .slice t x lo hi mx => sliceRead P F h t (opr F x) lo hi mx
  | .convert s d x => (match P.underlying s, P.underlying d, opr F x with
    | some (.slice e), some .string, .slice a len _ => (match P.underlying e, a with
      | some (.int .u8), some (b, o) => ((loadL h b o len).bind bytesOf).map .str
      | some (.int .u8), none => some (.str [])
      | _, _ => none)
    | _, _, _ => none)
  | .call c => (match c.callee with
    | .builtin .len => (match (c.argTypes[0]?).bind P.underlying, oprs F c.args with
      | some (.map _ _), [.map (some r)] => (match h.get r with | some (.map es _) => some (.int .i64 es.length) | _ => none)
      | _, _ => none)
    | _ => none)
  | _ => none

/-- Operations that make one block: what lies in it, the value at its number. -/
def allocV (P : Program) (F : Frm) (o : Oper) : Option (Ob × (Nat → V)) :=
  match o.op with
  | .alloc t => (zeroT P t).map fun z => (newBlk z t, fun n => .ptr (some (n, 0)))
  | .box t x => if (opr F x).cells.all V.isCell then some (newBlk (opr F x).cells t, fun n => .ptr (some (n, 0))) else none
  | .buildSlice t n ps => (match P.underlying t with
    | some (.slice e) =>
      let s := sizeT P e
      if n * s > 2 ^ 24 then none else
      match (if n * s = 0 then some [] else zeroT P e) with
      | some z => if n * s = 0 || z.length = s then (fillV (reps n z) (placesE s F ps.toList)).map fun l => (newBlk l e, fun b => .slice (some (b, 0)) n (.ex n)) else none
      | none => none
    | _ => none)
  | .makeMap t none => (match P.underlying t with | some (.map _ _) => some (.map [] 0, fun n => .map (some n)) | _ => none)
  | .makeSlice t l c => (match P.underlying t, opr F l, opr F c with
    | some (.slice e), .int .i64 l, .int .i64 c =>
      if 0 ≤ l && l ≤ c && c ≤ 2 ^ 40 && ((P.info? e).map (·.bytes)).getD (2 ^ 50) * c ≤ 2 ^ 40 then
        match (if c.toNat * sizeT P e = 0 then some [] else zeroT P e) with
        | some z => if c.toNat * sizeT P e = 0 || z.length = sizeT P e then some (newBlk (reps c.toNat z) e, fun n => .slice (some (n, 0)) l.toNat (.ex c.toNat)) else none
        | none => none
      else none
    | _, _, _ => none)
  | _ => none

/-- All others. -/
def effV (P : Program) (F : Frm) (h : Hp) (o : Oper) : OR :=
  match o.op with
  | .store t a x => (match opr F a with
    | .ptr (some (b, i)) => let cs := (opr F x).cells; if cs.length = sizeT P t then orBad (storeL h b i cs) "store" fun h' => .skip h' else .bad "store: size"
    | _ => .bad "store: nil")
  | .convert s d x => (match P.underlying s, P.underlying d, opr F x with
    | some _, some (.slice e), .str s => (match P.underlying e with
      | some (.int .u8) => if sizeT P e = 1 ∧ s.length ≤ 2 ^ 40 then newAmb h (ofBytes s) e s.length else .bad "bytes"
      | _ => .bad "convert string")
    | some (.pointer t), some .unsafePointer, .ptr (some (b, o)) => .bad "UNSAFEPTR"
    | some .unsafePointer, some (.pointer t), .ptr (some (b, o)) => .bad "UNSAFEPTR"
    | _, _, _ => .bad "convert")
  | .mapUpdate t m k v | .insert t m k v => updateV P h t (opr F m) (opr F k) (opr F v)
  | .call c => (match c.callee with
    | .builtin b => builtinV P h b c.argTypes (oprs F c.args)
    | .value f => invokeV P h (opr F f) (oprs F c.args)
    | .invoke r name => (match opr F r with
      | .iface t v => orBad (methodV P t v name) "method" fun (f, v) => callV P h f (v :: oprs F c.args)
      | _ => .bad "invoke"))
  | .defer c => (match c.callee with
    | .value f => (match opr F f with
      | .func f first caps => .defer (.fn f (first ++ oprs F c.args ++ caps))
      | _ => .bad "defer")
    | _ => .bad "defer")
  | .panic x => (match opr F x with | .iface t v => .panic (.iface t v) | _ => .bad "panic(nil)")
  | _ => .bad "operation"

inductive Kd3 where
  | pr | al | ef
/-- Where to look first. -/
def kindO (o : Oper) : Kd3 :=
  match o.op with
  | .alloc _ | .box _ _ | .buildSlice _ _ _ | .makeMap _ _ | .makeSlice _ _ _ => .al
  | .store _ _ _ | .mapUpdate _ _ _ _ | .insert _ _ _ _ | .defer _ | .panic _ => .ef
  | .call c => (match c.callee with | .builtin .len | .builtin .cap | .builtin .max | .builtin .min => .pr | _ => .ef)
  | _ => .pr

/-- One operation. -/
def opV (P : Program) (F : Frm) (h : Hp) (o : Oper) : OR :=
  match kindO o with
  | .al => (match allocV P F o with | some (ob, f) => .val (f h.next) (h.new ob) | none => .bad "alloc")
  | .ef => effV P F h o
  | .pr => (match pureV P F o with
    | some v => .val v h
    | none => (match readV P F h o with
      | some v => .val v h
      | none => effV P F h o))

/-! ### What is checked of a function's code once -/
def constOk (P : Program) (n : Nat) : Operand → Bool
  | .const v => (toV v).isSome
  | .tmp t => decide (t < n)
  | .global g => decide (g < P.globals.size)
  | .func _ => true
/-- The types that an operation leans on. -/
def opTypes (o : Oper) : List TypeId :=
  match o.op with
  | .alloc t | .box t _ | .build t _ | .buildSlice t _ _ | .load t _ | .store t _ _ | .slice t _ _ _ _ | .fieldAddr t _ _ | .field t _ _ | .indexAddr t _ _ | .index t _ _
  | .lookup t _ _ _ | .mapUpdate t _ _ _ | .insert t _ _ _ | .makeSlice t _ _ | .makeMap t _ => [t]
  | .convert s d _ => [s, d]
  | .call c => (match c.callee with | .builtin _ => c.argTypes.toList.take 1 | _ => [])
  | _ => []
def okOp (P : Program) (n : Nat) (o : Oper) : Bool :=
  (o.dst.all fun d => decide (d < n)) && (o.op.operands.toList.all (constOk P n)) && ((opTypes o).all (wfT P)) && (match o.op with | .select _ _ => false | _ => true)
def prec (bf : Array Nat) (i j : Nat) : Bool := (bf.getD j 0).testBit i
/-- Edges lead backward; two operations that wait for neither are apart. -/
def drawOk (ops : Array Oper) : Bool :=
  let bf := Region.before ops
  (ops.toList.zipIdx.all fun (o, i) => o.after.toList.all fun e => !Region.binds .any e || decide (e.on < i)) &&
  (ops.toList.zipIdx.all fun (y, j) => (ops.toList.take j).zipIdx.all fun (x, i) => prec bf i j || x.apart ops y)
def okCode (P : Program) (n : Nat) : Code → Bool
  | .region _ ops draw => ops.toList.all (okOp P n) && (!draw || drawOk ops)
  | .seq a b => okCode P n a && okCode P n b
  | .cond c a b => constOk P n c && okCode P n a && okCode P n b
  | .block _ a | .loop a | .scope a => okCode P n a
  | .rangeFunc f ps a b => constOk P n f && (ps.toList.all fun p => decide (p < n)) && okCode P n a && okCode P n b
  | .skip | .label _ | .exit _ | .ret | .refuse _ => true
  | .goto _ => false
def okFn (P : Program) (f : FuncId) : Bool :=
  match P.funcs[f]? with
  | some fn => (match fn.body with | some c => okCode P fn.ntmps c && fn.results.toList.all (fun | .tmp t => decide (t < fn.ntmps) | .cell a t => decide (a < fn.ntmps) && wfT P t) | none => false)
  | none => false

mutual
def V.beq : V → V → Bool
  | .bool a, .bool b => a == b
  | .int k a, .int k' b => decide (k = k') && a == b
  | .str a, .str b => a == b
  | .ptr a, .ptr b => a == b
  | .slice a n c, .slice b m d => a == b && n == m && decide (c = d)
  | .map a, .map b => a == b
  | .func f a b, .func g c d => f == g && V.beqs a c && V.beqs b d
  | .yield a, .yield b => a == b
  | .nilFunc, .nilFunc | .nilIface, .nilIface => true
  | .iface t a, .iface u b => t == u && V.beq a b
  | .agg a, .agg b => V.beqs a b
  | .tuple a, .tuple b => V.beqs a b
  | _, _ => false
def V.beqs : List V → List V → Bool
  | [], [] => true
  | x :: l, y :: m => V.beq x y && V.beqs l m
  | _, _ => false
end

mutual
def V.low (n : Nat) : V → Bool
  | .ptr (some (b, _)) | .slice (some (b, _)) _ _ | .map (some b) | .yield b => decide (b < n)
  | .func _ a b => V.lows n a && V.lows n b
  | .iface _ a => V.low n a
  | .agg l | .tuple l => V.lows n l
  | _ => true
def V.lows (n : Nat) : List V → Bool
  | [] => true
  | x :: l => V.low n x && V.lows n l
end
def lowO (o : Oper) (F : Frm) (n : Nat) : Bool := o.op.operands.toList.all fun x => V.low n (opr F x)
/-- A value that names no block. -/
def scalarV : V → Bool
  | .bool _ | .int _ _ | .str _ | .ptr none | .slice none _ _ | .map none | .nilFunc | .nilIface => true
  | _ => false
def closedOb : Ob → Bool
  | .cells x => x.l.all scalarV
  | .map [] _ => true
  | _ => false
def sameV : Option V → V → Bool
  | some a, b => V.beq a b
  | none, _ => false

/-! ### Runs -/
abbrev PE := V × Bool
inductive Md where
  | returning
  | panicking (c : List PE)
  deriving Inhabited

inductive X where
  | normal
  | exit (id : Nat)
  | ret
  | panic (c : List PE)
  deriving Inhabited

structure S where
  F : Frm
  ds : List Dfr
  md : Option Md
  h : Hp
  deriving Inhabited

inductive XR where
  | bad (why : String)
  | x (e : X) (s : S)
  deriving Inhabited

inductive CR where
  | bad (why : String)
  | ret (v : V) (md : Option Md) (h : Hp)
  | pan (c : List PE) (md : Option Md) (h : Hp)
  deriving Inhabited

structure Ctx where
  fn : FuncId
  rnd : Option Nat
  deriving Inhabited

structure Ev where
  exec : Ctx → Code → S → XR
  call : FuncId → List V → Option Md → Hp → CR
  round : Nat → List V → Hp → CR

def setO (d : Option Tmp) (v : V) (F : Frm) : Frm := match d with | some d => F.set (Pos.of d) v | none => F

def wantedV (ops : Array Oper) (F : Frm) (o : Oper) : Bool :=
  match o.guard with
  | none => true
  | some (j, want) => (match ((ops[j]?).bind (·.dst)).map fun t => F.get (Pos.of t) with
    | some (some (.bool b)) => b == want
    | _ => false)

def opsV (P : Program) (ev : Ev) (rnd : Option Nat) (ops : Array Oper) : List Oper → S → XR
  | [], s => .x .normal s
  | o :: rest, s =>
    if wantedV ops s.F o then
      match opV P s.F s.h o with
      | .bad w => .bad (o.pos ++ " " ++ w)
      | .val v h => opsV P ev rnd ops rest { s with F := setO o.dst v s.F, h }
      | .skip h => opsV P ev rnd ops rest { s with F := setO o.dst vundef s.F, h }
      | .enter f args => (match ev.call f args none s.h with
        | .bad w => .bad w
        | .ret v _ h => opsV P ev rnd ops rest { s with F := setO o.dst v s.F, h }
        | .pan c _ h => .x (.panic c) { s with h })
      | .round l args => (match ev.round l args s.h with
        | .bad w => .bad w
        | .ret v _ h => opsV P ev rnd ops rest { s with F := setO o.dst v s.F, h }
        | .pan c _ h => .x (.panic c) { s with h })
      | .panic v => .x (.panic [(v, false)]) s
      | .defer d => if rnd.isSome then .bad "defer in a round" else opsV P ev rnd ops rest { s with F := setO o.dst vundef s.F, ds := d :: s.ds }
      | .recover => if rnd.isSome then .bad "recover in a round" else (match s.md with
        | some (.panicking ((v, false) :: older)) => opsV P ev rnd ops rest { s with F := setO o.dst v s.F, md := some (.panicking ((v, true) :: older)) }
        | some _ => opsV P ev rnd ops rest { s with F := setO o.dst .nilIface s.F }
        | none => .bad "recover")
    else opsV P ev rnd ops rest { s with F := setO o.dst vundef s.F }

/-- A region whose order is drawn: the text's order, with a look at whether another order could tell. -/
structure DS where
  s : S
  reads : List (Nat × Frm × Oper × V)
  effs : List (Nat × Hp)
  als : List Nat
/-- Do the reads so far tell the same here, where they may come? -/
def recheck (P : Program) (bf : Array Nat) (d : DS) : Bool :=
  d.reads.all fun (r, F, o, v) => (match d.effs with | (e, _) :: _ => prec bf r e | [] => false) || sameV (readV P F d.s.h o) v
def drawV (P : Program) (ev : Ev) (ops : Array Oper) (bf : Array Nat) : List Oper → Nat → DS → XR
  | [], _, d => if recheck P bf d then .x .normal d.s else .bad "a read that another order tells"
  | o :: rest, t, d =>
    let next (v : V) : XR := drawV P ev ops bf rest (t + 1) { d with s := { d.s with F := setO o.dst v d.s.F } }
    let eff : Unit → XR := fun _ =>
      if (d.effs.all fun (e, _) => prec bf e t) && (d.als.all fun a => prec bf a t) && recheck P bf d && lowO o d.s.F d.s.h.next then
        let go (v : V) (h : Hp) : XR := if !decide (d.s.h.next ≤ h.next) then .bad "drawn: next" else drawV P ev ops bf rest (t + 1) { s := { d.s with F := setO o.dst v d.s.F, h }, reads := d.reads, effs := (t, d.s.h) :: d.effs, als := d.als }
        match effV P d.s.F d.s.h o with
        | .val v h => go v h
        | .skip h => go vundef h
        | .enter f args => (match ev.call f args none d.s.h with | .ret v _ h => go v h | .bad w => .bad w | _ => .bad "a panic in a drawn region")
        | .round l args => (match ev.round l args d.s.h with | .ret v _ h => go v h | .bad w => .bad w | _ => .bad "a panic in a drawn region")
        | .bad w => .bad (o.pos ++ " " ++ w)
        | _ => .bad (o.pos ++ " drawn")
      else .bad (o.pos ++ " drawn: order")
    if wantedV ops d.s.F o then
      match kindO o with
      | .al => (match allocV P d.s.F o with
        | some (ob, f) => if lowO o d.s.F d.s.h.next && ((d.effs.all fun (e, h) => prec bf e t || lowO o d.s.F h.next) || closedOb ob) then
            drawV P ev ops bf rest (t + 1) { d with s := { d.s with F := setO o.dst (f d.s.h.next) d.s.F, h := d.s.h.new ob }, als := t :: d.als }
          else .bad (o.pos ++ " alloc: order")
        | none => .bad "alloc")
      | .ef => eff ()
      | .pr => (match pureV P d.s.F o with
        | some v => next v
        | none => (match readV P d.s.F d.s.h o with
          | some v =>
            if lowO o d.s.F d.s.h.next && (d.effs.all fun (e, h) => prec bf e t || (sameV (readV P d.s.F h o) v && lowO o d.s.F h.next)) then
              drawV P ev ops bf rest (t + 1) { d with s := { d.s with F := setO o.dst v d.s.F }, reads := (t, d.s.F, o, v) :: d.reads }
            else .bad (o.pos ++ " a read that another order tells")
          | none => eff ()))
    else next vundef

def settleV : Md → Md
  | .panicking ((_, true) :: _) => .returning
  | m => m
def raisedV (u : Md) (c : List PE) : Md := match u with | .panicking old => .panicking (c ++ old) | _ => .panicking c

def resultsV (P : Program) (F : Frm) (h : Hp) : List ResultVar → Option (List V)
  | [] => some []
  | r :: l =>
    match (match r with
      | .tmp t => some ((F.get (Pos.of t)).getD vundef)
      | .cell a t => (match F.get (Pos.of a) with
        | some (.ptr (some (b, o))) => if isAggT P t then (loadL h b o (sizeT P t)).map .agg else load1 h b o
        | _ => none)), resultsV P F h l with
    | some v, some r => some (v :: r)
    | _, _ => none

/-- How a frame leaves: its deferred calls, then its results. -/
def leaveV (P : Program) (ev : Ev) (fn : Func) (F : Frm) (omd : Option Md) : List Dfr → Md → Hp → CR
  | [], .returning, h => (match resultsV P F h fn.results.toList with
    | some [v] => .ret v omd h
    | some l => .ret (.tuple l) omd h
    | none => .bad "results")
  | [], .panicking c, h => .pan c omd h
  | .mark b :: ds, u, h => (match h.get b with
    | some (.deferred true) => leaveV P ev fn F omd ds u (h.put b (.deferred false))
    | _ => .bad "mark")
  | .fn f args :: ds, u, h => if !((P.funcs[f]?).bind (·.body)).isSome then .bad "deferred: no body" else (match ev.call f args (some u) h with
    | .bad w => .bad w
    | .ret _ (some u') h => leaveV P ev fn F omd ds (settleV u') h
    | .pan c (some u') h => leaveV P ev fn F omd ds (raisedV u' c) h
    | _ => .bad "deferred")

def setArgs : List V → Nat → Frm → Frm
  | [], _, F => F
  | v :: l, i, F => setArgs l (i + 1) (F.set (Pos.of i) v)
def setPs : List Pos → List V → Frm → Frm
  | p :: ps, v :: vs, F => setPs ps vs (F.set p v)
  | _, _, F => F

def elemP (P : Program) (fn : Func) : TypeId := match P.underlying (fn.params.getD 0 0) with | some (.slice e) => e | _ => 0
/-- What is known of the functions: whose code was looked at; which is slices.Insert. -/
structure Fns where
  ok : FuncId → Bool
  ins : FuncId → Bool
  sum : FuncId → List V → Option Md → Hp → Option CR := fun _ _ _ _ => none
def callB (P : Program) (X : Fns) (ev : Ev) (f : FuncId) (args : List V) (md : Option Md) (h : Hp) : CR :=
  match P.funcs[f]? with
  | some fn => if X.ins f then (match md, insertV P (elemP P fn) h args with | none, .val v h => .ret v none h | _, _ => .bad "Insert") else (match fn.body with
    | some c => if X.ok f && decide (args.length ≤ fn.ntmps) then (match ev.exec { fn := f, rnd := none } c { F := setArgs args 0 .nil, ds := [], md, h } with
      | .bad w => .bad (fn.name ++ ": " ++ w)
      | .x .normal s | .x .ret s => leaveV P ev fn s.F s.md s.ds .returning s.h
      | .x (.panic c) s => leaveV P ev fn s.F s.md s.ds (.panicking c) s.h
      | .x (.exit _) _ => .bad "exit") else .bad (fn.name ++ ": not ok")
    | none => .bad "no body")
  | none => .bad "no function"

/-- A call: what is known of it already, or its run. -/
def callF (P : Program) (X : Fns) (ev : Ev) (f : FuncId) (args : List V) (md : Option Md) (h : Hp) : CR :=
  match X.sum f args md h with
  | some r => r
  | none => callB P X ev f args md h

def roundF (P : Program) (ev : Ev) (l : Nat) (args : List V) (h : Hp) : CR :=
  match h.get l with
  | some (.loop r) => if args.length ≠ r.params.length then .bad "yield" else
    (match ev.exec { fn := r.fn, rnd := some l } r.assign { F := setPs r.params args r.F, ds := [], md := none, h } with
     | .x .normal s => (match s.ds, s.h.get l with
       | [], some (.loop r') =>
         (match r'.state with
          | .ready =>
            (match ev.exec { fn := r.fn, rnd := some l } r.body { s with h := s.h.put l (.loop { r' with state := .busy }) } with
             | .x e s => (match s.ds, s.h.get l with
               | [], some (.loop r2) =>
                 (match e with
                  | .normal => .ret (.bool true) none (s.h.put l (.loop { r2 with state := .ready, pending := none }))
                  | .ret => .ret (.bool false) none (s.h.put l (.loop { r2 with state := .done, pending := some .ret }))
                  | .exit id => .ret (.bool false) none (s.h.put l (.loop { r2 with state := .done, pending := some (.exit id) }))
                  | .panic _ => .bad "panic in a round")
               | _, _ => .bad "round end")
             | .bad w => .bad w)
          | _ => .bad "round: loop")
       | _, _ => .bad "round: state")
     | .x _ _ => .bad "assign"
     | .bad w => .bad w)
  | _ => .bad "no loop"

def execF (P : Program) (ev : Ev) (ctx : Ctx) (c : Code) (s : S) : XR :=
  match c with
  | .skip | .label _ => .x .normal s
  | .region _ ops false => opsV P ev ctx.rnd ops ops.toList s
  | .region _ ops true => drawV P ev ops (Region.before ops) ops.toList 0 { s, reads := [], effs := [], als := [] }
  | .seq a b => (match ev.exec ctx a s with | .x .normal s' => ev.exec ctx b s' | r => r)
  | .cond c t e => (match opr s.F c with | .bool true => ev.exec ctx t s | .bool false => ev.exec ctx e s | _ => .bad "cond")
  | .block id b => (match ev.exec ctx b s with | .x (.exit i) s' => if i = id then .x .normal s' else .x (.exit i) s' | r => r)
  | .loop b => (match ev.exec ctx b s with | .x .normal s' => ev.exec ctx (.loop b) s' | r => r)
  | .scope b => ev.exec ctx b s
  | .exit id => .x (.exit id) s
  | .ret => .x .ret s
  | .rangeFunc f ps assign body =>
    (match (match ctx.rnd with
      | some l => (match s.h.get l with | some (.loop r) => some (r.defers, s.ds, s.h) | _ => none)
      | none => some (s.h.next, Dfr.mark s.h.next :: s.ds, s.h.new (.deferred true))) with
     | some (d, ds, h1) =>
       let l := h1.next
       let h2 := h1.new (.loop { state := .ready, pending := none, fn := ctx.fn, F := s.F, params := ps.toList.map Pos.of, assign, body, defers := d })
       (match opr s.F f with
        | .func g first caps => if !((P.funcs[g]?).bind (·.body)).isSome then .bad "range over a function" else (match ev.call g (first ++ [.yield l] ++ caps) none h2 with
          | .ret _ _ h3 => (match h3.get l with
            | some (.loop r) => if r.state == .busy then .bad "busy" else
                (match r.pending with
                 | none => .x .normal { s with ds, h := h3.put l (.loop { r with state := .exhausted }) }
                 | some c => ev.exec ctx c { s with ds, h := h3.put l (.loop { r with state := .exhausted }) })
            | _ => .bad "loop gone")
          | .pan c _ h3 => .x (.panic c) { s with ds, h := h3 }
          | .bad w => .bad w)
        | _ => .bad "range over a function")
     | none => .bad "rangeFunc")
  | _ => .bad "code"

def evBad : Ev := { exec := fun _ _ _ => .bad "fuel", call := fun _ _ _ _ => .bad "fuel", round := fun _ _ _ => .bad "fuel" }
def evS (P : Program) (X : Fns) (ev : Ev) : Ev := { exec := execF P ev, call := callF P X ev, round := roundF P ev }
end Go.Vm
