/- The virtual machine over tables: the definitions of VmDef once more, the program's tables in a record. Printed by genq.py. -/
import Derived.Test.YtodpkcebihbghaaGreatDoorVmDef
import Derived.KernelRfl
set_option linter.unusedVariables false
set_option linter.unusedSimpArgs false
namespace Go.Vm.Q
structure Env where
  underlying : TypeId → Option TypeDesc
  info? : TypeId → Option TypeInfo
  cellsOf : TypeId → Nat
  func : FuncId → Option Func
  nglob : Nat
  ntypes : Nat
  held : TypeId → Bool
  depth : Nat
  rtype : Option TypeId
  fg : Frm → Nat → Option V
  fs : Nat → V → Frm → Frm
  hg : Hp → Nat → Option Ob
  hp : Hp → Nat → Ob → Hp
  hn : Hp → Ob → Hp
def Env.of (P : Program) : Env := {
  underlying := P.underlying, info? := P.info?, cellsOf := P.cellsOf, func := fun f => P.funcs[f]?, nglob := P.globals.size, ntypes := P.types.size, held := P.stoodInHeld, depth := P.depth,
  rtype := (P.cutTypes.find? (·.1 == "internal/reflectlite.rtype")).map (·.2),
  fg := fun F t => F.get (Pos.of t), fs := fun t v F => F.set (Pos.of t) v, hg := Hp.get, hp := Hp.put, hn := Hp.new }
noncomputable def opr (P : Env) (F : Frm) : Operand → V
  | .tmp t => (P.fg F t).getD vundef
  | .const v => (toV v).getD vundef
  | .global g => .ptr (some (g, 0))
  | .func f => .func f [] []

noncomputable def isAggT (P : Env) (t : TypeId) : Bool := match P.underlying t with | some (.struct _) | some (.array _ _) => true | _ => false
noncomputable def sizeT (P : Env) (t : TypeId) : Nat := P.cellsOf t
noncomputable def zeroT (P : Env) (t : TypeId) : Option (List V) := ((P.info? t).bind (·.zero)).bind fun z => (toV z).map V.cells
noncomputable def zeroV (P : Env) (t : TypeId) : Option V := ((P.info? t).bind (·.zero)).bind toV

noncomputable def wfT (P : Env) (t : TypeId) : Bool :=
  match P.underlying t with
  | some (.slice e) | some (.array _ e) | some (.pointer e) => (P.underlying e).isSome
  | some (.map k e) => (P.underlying k).isSome && (P.underlying e).isSome
  | some (.struct fs) => fs.toList.all fun f => (P.underlying f.type).isSome
  | some _ => true
  | none => false

noncomputable def loadL (P : Env) (h : Hp) (b o n : Nat) : Option (List V) :=
  match P.hg h b with
  | some (.cells x) => if o + n ≤ x.l.length then some ((x.l.drop o).take n) else none
  | _ => none
noncomputable def load1 (P : Env) (h : Hp) (b o : Nat) : Option V :=
  match P.hg h b with
  | some (.cells x) => x.l[o]?
  | _ => none
noncomputable def storeL (P : Env) (h : Hp) (b o : Nat) (vs : List V) : Option Hp :=
  match vs with
  | [] => some h
  | _ =>
    match P.hg h b with
    | some (.cells x) =>
      if x.rw && o + vs.length ≤ x.l.length && vs.all V.isCell && (x.frz.2 ≤ o || o + vs.length ≤ x.frz.1) then
        some (P.hp h b (.cells { x with l := splice x.l o vs }))
      else none
    | _ => none

noncomputable def eqFs (P : Env) : List Field → Nat → List V → List V → Option Bool
  | [], _, _, _ => some true
  | f :: fs, i, x :: l, y :: m =>
    if f.name != "_" && f.offset == i then
      (match P.underlying f.type with
       | some d => (match eqD d x y, eqFs P fs (i + 1) l m with | some a, some b => some (a && b) | _, _ => none)
       | none => none)
    else none
  | _, _, _, _ => none
noncomputable def eqAgg (P : Env) (t : TypeId) (l m : List V) : Option Bool :=
  match P.underlying t with
  | some (.struct fs) => if P.held t then none else eqFs P fs.toList 0 l m
  | some (.array n e) => if sizeT P e = 1 ∧ n ≠ 0 then (match P.underlying e with | some d => eqIs d n l m | none => none) else none
  | _ => none
noncomputable def famFree (P : Env) (h : Hp) (b o : Nat) : Bool := match P.hg h b with | some (.cells x) => (x.exact || !x.rw) && x.frz.1 == x.frz.2 && decide (o < x.l.length) | _ => false
noncomputable def eqV (P : Env) (cst : Bool) : Nat → TypeId → V → V → Option Bool
  | 0, _, _, _ => none
  | d + 1, t, x, y => match P.underlying t, x, y with
    | some .bool, .bool a, .bool b => some (a == b)
    | some (.int _), .int k a, .int k' b => if k = k' then some (a == b) else none
    | some .string, .str a, .str b => some (a == b)
    | some (.pointer _), .ptr none, .ptr b => some b.isNone
    | some (.pointer _), .ptr (some _), .ptr none => some false
    | some (.pointer e), .ptr (some (a, o)), .ptr (some (b, o')) => if a = b && sizeT P e ≠ 0 then some (o == o') else none
    | some (.interface _), .nilIface, .nilIface => if cst then some true else none
    | some (.interface _), .nilIface, .iface _ _ | some (.interface _), .iface _ _, .nilIface => some false
    | some (.interface _), .iface tx vx, .iface ty vy => if tx ≠ ty then some false else if ((P.info? tx).map (·.comparable)).getD false then eqV P false d tx vx vy else none
    | some (.slice _), .slice none _ _, .slice b _ _ => some b.isNone
    | some (.slice _), .slice (some _) _ _, .slice none _ _ => some false
    | some (.map _ _), .map none, .map b => some b.isNone
    | some (.map _ _), .map (some _), .map none => some false
    | some (.func _ _ _), .nilFunc, .nilFunc => some true
    | some (.func _ _ _), .nilFunc, .func _ _ _ | some (.func _ _ _), .func _ _ _, .nilFunc => some false
    | some (.struct _), .agg l, .agg m | some (.array _ _), .agg l, .agg m => if 3 ≤ P.depth then eqAgg P t l m else none
    | _, _, _ => none

noncomputable def binV (P : Env) (op : BinOp) (t : TypeId) (cst : Bool) (x y : V) : Option V :=
  match op, x, y with
  | .eql, x, y => (eqV P cst 50 t x y).map .bool
  | .neq, x, y => (eqV P cst 50 t x y).map fun b => .bool (!b)
  | .shl, .int k a, .int _ b => if b < 0 then none else some (.int k (k.wrap (a * 2 ^ (min b.toNat k.bits))))
  | .shr, .int k a, .int _ b => if b < 0 then none else some (.int k (a.fdiv (2 ^ (min b.toNat k.bits))))
  | op, .int k a, .int k' b => if k = k' then (match op with
    | .add => some (.int k (k.wrap (a + b)))
    | .sub => some (.int k (k.wrap (a - b)))
    | .mul => some (.int k (k.wrap (a * b)))
    | .quo => if b = 0 then none else some (.int k (k.wrap (a.tdiv b)))
    | .rem => if b = 0 then none else some (.int k (a.tmod b))
    | .lss => some (.bool (a < b))
    | .leq => some (.bool (a ≤ b))
    | .gtr => some (.bool (a > b))
    | .geq => some (.bool (a ≥ b))
    | op => (intBits op k a b).map (.int k)) else none
  | .add, .str a, .str b => if a.length + b.length ≤ 2 ^ 62 then some (.str (a ++ b)) else none
  | .lss, .str a, .str b => some (.bool (bytesLess a b))
  | .leq, .str a, .str b => some (.bool (bytesLess a b || a == b))
  | .gtr, .str a, .str b => some (.bool (!(bytesLess a b || a == b)))
  | .geq, .str a, .str b => some (.bool (!bytesLess a b))
  | _, _, _ => none

noncomputable def newAmb (P : Env) (h : Hp) (l : List V) (elem : TypeId) (len : Nat) : OR :=
  .val (.slice (some (h.next, 0)) len (.tl 0)) (P.hn h (.cells { l, elem, exact := false, rw := true, frz := (0, 0) }))

noncomputable def fieldsOf (P : Env) (t : TypeId) : Option (List Field) := match P.underlying t with | some (.struct fs) => some fs.toList | _ => none
noncomputable def placeOf (P : Env) (t : TypeId) (i : Nat) : Option (Nat × Nat) :=
  match P.underlying t with
  | some (.struct fs) => (fs[i]?).map fun f => (f.offset, sizeT P f.type)
  | some (.array _ e) => some (i * sizeT P e, sizeT P e)
  | _ => none
noncomputable def places (P : Env) (t : TypeId) (F : Frm) : List (Nat × Operand) → Option (List (Nat × Nat × V))
  | [] => some []
  | (i, x) :: l => match placeOf P t i, places P t F l with | some (o, n), some r => some ((o, n, opr P F x) :: r) | _, _ => none
noncomputable def placesE (P : Env) (s : Nat) (F : Frm) : List (Nat × Operand) → List (Nat × Nat × V)
  | [] => []
  | (i, x) :: l => (i * s, s, opr P F x) :: placesE P s F l

noncomputable def capGe (P : Env) (h : Hp) (a : Option (Nat × Nat)) (e : TypeId) (c : Cap) : Nat :=   -- a capacity that there is for sure
  match c, a with
  | .ex n, _ => n
  | .tl k, some (b, o) => (match P.hg h b with | some (.cells x) => if sizeT P e ≠ 0 ∧ x.exact = false ∧ x.rw = true ∧ x.elem = e ∧ o = k * sizeT P e then (x.l.length - o) / sizeT P e else 0 | _ => 0)
  | .tl _, none => 0

noncomputable def appendV (P : Env) (h : Hp) (elem : TypeId) (a : Option (Nat × Nat)) (len : Nat) (c : Cap) (new : List V) (n : Nat) : OR :=
  let sz := sizeT P elem
  let need := len + n
  if 2 * need * ((P.info? elem).map (·.bytes)).getD 0 > 2 ^ 48 || need > 2 ^ 62 || !((zeroT P elem).any fun z => decide (z.length = sz)) then .bad "append: too great" else
  match c, a with
  | .ex m, a =>
    if need ≤ m then
      (match a with
       | some (b, o) => orBad (storeL P h b (o + len * sz) new) "append in place" fun h' => .val (.slice a need c) h'
       | none => .val (.slice a need c) h)
    else
      (match a with
       | some (b, o) => orBad (loadL P h b o (len * sz)) "append: old" fun old => if new.all V.isCell then newAmb P h (old ++ new) elem need else .bad "append: cells"
       | none => if len = 0 && new.all V.isCell then newAmb P h new elem need else .bad "append: nil")
  | .tl k, some (b, o) =>
    if n = 0 then .val (.slice a len c) h else
    match P.hg h b with
    | some (.cells x) =>
      if !(!x.exact && x.rw && x.elem == elem && o == k * sz && sz != 0) then .bad "append: another kind of block"
      else if o + need * sz ≤ x.l.length then orBad (storeL P h b (o + len * sz) new) "append within" fun h' => .val (.slice a need c) h'
      else if o + len * sz ≤ x.l.length && x.rw && new.all V.isCell && x.frz.2 ≤ o + len * sz then
        let h1 := P.hp h b .dead
        .val (.slice (some (h.next, 0)) need (.tl 0)) (P.hn h1 (.cells { l := (x.l.drop o).take (len * sz) ++ new, elem, exact := false, rw := true, frz := (x.frz.1 - o, x.frz.2 - o) }))
      else .bad "append: an elder slice"
    | _ => .bad "append: dead"
  | .tl _, none => .bad "append: tl nil"

noncomputable def srcCells (P : Env) (h : Hp) (sz : Nat) : V → Option (Nat × List V)
  | .slice (some (b, o)) n _ => if n * sz = 0 then some (n, []) else (loadL P h b o (n * sz)).map fun l => (n, l)
  | .slice none 0 _ => some (0, [])
  | .str s => if sz = 1 then some (s.length, ofBytes s) else none
  | _ => none

noncomputable def optBound (P : Env) (F : Frm) : Option Operand → Option (Option Nat)
  | none => some none
  | some x => (natBound (opr P F x)).map some

noncomputable def keyEq (P : Env) (t : TypeId) (x y : V) : Option Bool :=
  match P.underlying t, x, y with
  | some (.struct _), .agg l, .agg m | some (.array _ _), .agg l, .agg m => eqAgg P t l m
  | some d, x, y => eqD d x y
  | none, _, _ => none
noncomputable def keyOk (P : Env) (t : TypeId) (k : V) : Bool :=
  match P.underlying t, k with
  | some .bool, _ | some (.int _), _ | some .string, _ => true
  | some (.struct fs), .agg l => (eqFs P fs.toList 0 l l).isSome && !P.held t
  | _, _ => false
noncomputable def findK (P : Env) (t : TypeId) (k : V) : List (V × V × Nat) → Nat → Option (Option (Nat × V × V))
  | [], _ => some none
  | (k', v, _) :: es, i => match keyEq P t k k' with
    | some true => some (some (i, k', v))
    | some false => findK P t k es (i + 1)
    | none => none

noncomputable def lookupV (P : Env) (h : Hp) (t : TypeId) (m k : V) (ok : Bool) : OR :=
  match P.underlying t with
  | some (.map kt et) =>
    if !keyOk P kt k then .bad "map key" else
    (match m with
     | .map none => orBad (zeroV P et) "zero" fun z => .val (if ok then .tuple [z, .bool false] else z) h
     | .map (some r) => (match P.hg h r with
       | some (.map es _) => (match findK P kt k es 0 with
         | some (some (_, _, v)) => .val (if ok then .tuple [v, .bool true] else v) h
         | some none => orBad (zeroV P et) "zero" fun z => .val (if ok then .tuple [z, .bool false] else z) h
         | none => .bad "map key")
       | _ => .bad "map")
     | _ => .bad "lookup")
  | _ => .bad "lookup type"

noncomputable def updateV (P : Env) (h : Hp) (t : TypeId) (m k v : V) : OR :=
  match P.underlying t, m with
  | some (.map kt _), .map (some r) => if !keyOk P kt k then .bad "map key" else (match P.hg h r with
    | some (.map es c) => (match findK P kt k es 0 with
      | some (some (i, k', _)) => if keyStays k' k then .skip (P.hp h r (.map (setNth es i k v) c)) else .bad "map key"
      | some none => .skip (P.hp h r (.map (es ++ [(k, v, c)]) (c + 1)))
      | none => .bad "map key")
    | _ => .bad "map")
  | _, _ => .bad "mapUpdate"

noncomputable def followV (P : Env) : List FieldStep → TypeId → V → Option (TypeId × V)
  | [], t, v => some (t, v)
  | s :: rest, _, v => if s.deref then none else
    match fieldsOf P s.struct, v with
    | some fs, .agg l => (match fs[s.index]? with
      | some f => if (P.underlying f.type).isSome then (match (if isAggT P f.type then some (.agg ((l.drop f.offset).take (sizeT P f.type))) else l[f.offset]?) with
        | some x => followV P rest f.type x
        | none => none) else none
      | none => none)
    | _, _ => none
noncomputable def methodV (P : Env) (t : TypeId) (v : V) (name : String) : Option (FuncId × V) :=
  match (P.info? t).bind fun i => i.methods.find? (·.name == name) with
  | some m =>
    (match followV P m.path.toList t v, m.func with
    | some (xt, x), some (f, ptr) => (match P.underlying xt with
      | some (.pointer _) => if ptr then some (f, x) else none
      | some _ => if ptr then none else some (f, x)
      | none => none)
    | _, _ => none)
  | none => none

noncomputable def handleV (P : Env) (t : TypeId) : V := .ptr (some (P.nglob, t))
noncomputable def rtypeT (P : Env) : Option TypeId := P.rtype
noncomputable def typeV (P : Env) (t : TypeId) : Option V := (rtypeT P).map fun r => .iface r (.agg [handleV P t])
noncomputable def ofHandleV (P : Env) : V → Option TypeId
  | .ptr (some (b, t)) => if b = P.nglob ∧ t < P.ntypes then some t else none
  | _ => none
noncomputable def ofRtypeV (P : Env) : V → Option TypeId
  | .agg [x] => ofHandleV P x
  | _ => none
noncomputable def underT (P : Env) (t : TypeId) : Option (TypeId × TypeInfo) :=
  match P.info? t with
  | some i => (match i.desc with | .named _ u => (P.info? u).map fun j => (u, j) | _ => some (t, i))
  | none => none
noncomputable def kindT (P : Env) (t : TypeId) : Option Nat :=
  match underT P t with
  | some (_, i) => (match i.desc with
    | .pointer _ => some 22 | .interface _ => some 20 | .struct _ => some 25 | .string => some 24 | .slice _ => some 23
    | _ => none)
  | none => none
noncomputable def elemT (P : Env) (t : TypeId) : Option TypeId := match underT P t with | some (_, i) => (match i.desc with | .pointer e => some e | _ => none) | none => none
noncomputable def implsT (P : Env) (u t : TypeId) : Option Bool :=
  match underT P u, underT P t, P.info? t with
  | some (_, i), some (_, j), some k => (match i.desc, j.desc with
    | .interface _, .interface _ => none
    | .interface want, _ => some (leastMissing want k.methods)
    | _, _ => some false)
  | _, _, _ => none
noncomputable def assignT (P : Env) (u t : TypeId) : Option Bool :=
  if u = t then (implsT P u t).map fun _ => true else
  match underT P u, underT P t with
  | some (a, i), some (b, _) => (match i.desc with
    | .chan _ _ => none
    | _ => if a = b then none else implsT P u t)
  | _, _ => none
noncomputable def externV (P : Env) (h : Hp) (name : String) (args : List V) : OR :=
  match name, args with
  | "internal/bytealg.IndexByteString", [.str s, .int .u8 c] => .val (.int .i64 (match s.findIdx? (fun b => b == c.toNat.toUInt8) with | some i => (i : Int) | none => -1)) h
  | "internal/reflectlite.TypeOf", [.nilIface] => .val .nilIface h
  | "internal/reflectlite.TypeOf", [.iface t _] => orBad (typeV P t) "TypeOf" fun v => .val v h
  | "(internal/reflectlite.rtype).Comparable", [r] => orBad ((ofRtypeV P r).bind P.info?) "Comparable" fun i => .val (.bool i.comparable) h
  | "(internal/reflectlite.rtype).Elem", [r] => orBad (((ofRtypeV P r).bind (elemT P)).bind (typeV P)) "Elem" fun v => .val v h
  | "(internal/reflectlite.rtype).Implements", [r, .iface _ u] => orBad ((ofRtypeV P u).bind fun u => (ofRtypeV P r).bind fun t => if kindT P u = some 20 then implsT P u t else none) "Implements" fun b => .val (.bool b) h
  | "(internal/reflectlite.rtype).AssignableTo", [r, .iface _ u] => orBad ((ofRtypeV P u).bind fun u => (ofRtypeV P r).bind fun t => (P.info? u).bind fun _ => assignT P u t) "AssignableTo" fun b => .val (.bool b) h
  | "(*internal/abi.Type).Kind", [x] => orBad ((ofHandleV P x).bind (kindT P)) "Kind" fun k => .val (.int .u8 k) h
  | "internal/reflectlite.ValueOf", [.iface t v] => orBad (kindT P t) "ValueOf" fun k =>
      .val (.agg [handleV P t, .ptr (some (h.next, 0)), .int .u64 ((k + 128 : Nat) : Int)]) (P.hn h (newBlk v.cells t))
  | "(internal/reflectlite.Value).Type", [.agg [x, .ptr (some _), .int .u64 f]] => if f = 0 then .bad "Type" else orBad ((ofHandleV P x).bind (typeV P)) "Type" fun v => .val v h
  | "(internal/reflectlite.Value).IsNil", [.agg [x, .ptr (some (b, o)), .int .u64 f]] => if f.toNat % 32 ≠ 22 then .bad "IsNil" else (match (ofHandleV P x).bind P.underlying, load1 P h b o with
    | some (.pointer _), some (.ptr none) => .val (.bool true) h
    | some (.pointer _), some (.ptr (some _)) => .val (.bool false) h
    | _, _ => .bad "IsNil")
  | "(internal/reflectlite.Value).Elem", [.agg [x, .ptr (some (b, o)), .int .u64 f]] => if f.toNat % 32 ≠ 22 then .bad "Elem" else (match (ofHandleV P x), (ofHandleV P x).bind P.underlying, load1 P h b o with
    | some t, some (.pointer _), some (.ptr (some p)) => orBad (elemT P t) "Elem" fun e => orBad (kindT P e) "Elem" fun k => .val (.agg [handleV P e, .ptr (some p), .int .u64 ((k + 128 + 256 : Nat) : Int)]) h
    | _, _, _ => .bad "Elem")
  | "(internal/reflectlite.Value).Set", [.agg [x, .ptr (some (b, o)), .int .u64 f], .agg [y, .ptr (some (c, p)), .int .u64 f2]] => if f = 0 || f2 = 0 || f.toNat / 256 % 2 = 0 then .bad "Set" else
    (match ofHandleV P x, ofHandleV P y with
     | some t, some u => if t = u && wfT P t && !isAggT P t && sizeT P t = 1 then orBad (load1 P h c p) "Set" fun v => if V.isCell v then orBad (storeL P h b o [v]) "Set" fun h' => .val (.tuple []) h' else .bad "Set" else .bad "Set"
     | _, _ => .bad "Set")
  | n, _ => .bad ("extern " ++ n)

noncomputable def insertV (P : Env) (e : TypeId) (h : Hp) : List V → OR
  | [.slice (some (b, 0)) n (.tl 0), .int .i64 i, .slice (some (c, p)) 1 _] =>
    (match P.hg h b, loadL P h c p 1 with
     | some (.cells x), some [v] => if 0 ≤ i && i.toNat ≤ n && n ≤ x.l.length && x.rw && !x.exact && x.frz.1 == x.frz.2 && b != c && x.elem == e && sizeT P e == 1 && x.l.all V.isCell && v.isCell && famFree P h c p && n ≤ 2 ^ 40 then
         let l := x.l.take n
         .val (.slice (some (h.next, 0)) (n + 1) (.tl 0)) (P.hn (P.hp h b .dead) (.cells { l := l.take i.toNat ++ v :: l.drop i.toNat, elem := e, exact := false, rw := true, frz := (0, 0) }))
       else .bad "Insert"
     | _, _ => .bad "Insert")
  | [.slice none 0 (.ex 0), .int .i64 0, .slice (some (c, p)) 1 _] =>
    (match loadL P h c p 1 with
     | some [v] => if sizeT P e == 1 && v.isCell then newAmb P h [v] e 1 else .bad "Insert"
     | _ => .bad "Insert")
  | _ => .bad "Insert args"
noncomputable def callV (P : Env) (h : Hp) (f : FuncId) (args : List V) : OR :=
  match P.func f with
  | none => .bad "no such function"
  | some fn => if fn.body.isNone then externV P h fn.name args else .enter f args

noncomputable def builtinV (P : Env) (h : Hp) (b : Builtin) (ts : Array TypeId) (args : List V) : OR :=
  match b, args with
  | .append, [.slice a len c, x] => (match (ts[0]?).bind P.underlying with
    | some (.slice e) => if (match ts[1]? with | none => true | some u => (match P.underlying u with | none | some (.int _) => false | _ => true)) then
        orBad (srcCells P h (sizeT P e) x) "append: source" fun (n, new) => appendV P h e a len c new n
      else (match (ts[1]?).bind P.underlying, x with
        | some (.int _), .int .i64 k => if 0 ≤ k && k ≤ 2 ^ 40 then orBad (zeroT P e) "zero" fun z => appendV P h e a len c (reps k.toNat z) k.toNat else .bad "append of zeros"
        | _, _ => .bad "append of zeros")
    | _ => .bad "append")
  | .copy, [.slice a len _, .slice x n c] => (match (ts[0]?).bind P.underlying with
    | some (.slice e) =>
        let m := if n < len then n else len
        orBad (srcCells P h (sizeT P e) (.slice x m c)) "copy: source" fun (_, new) =>
        (match a with
         | some (b, o) => orBad (storeL P h b o new) "copy" fun h' => .val (.int .i64 m) h'
         | none => .val (.int .i64 m) h)
    | _ => .bad "copy")
  | .clear, [.slice a n _] => (match (ts[0]?).bind P.underlying, a with
    | some (.slice e), some (b, o) => orBad (zeroT P e) "zero" fun z => orBad (storeL P h b o (reps n z)) "clear" fun h' => .val (.tuple []) h'
    | some (.slice _), none => .val (.tuple []) h
    | _, _ => .bad "clear")
  | .recover, [] => .recover
  | .panic, [x] => (match x with | .iface _ _ => .panic x | _ => .bad "panic(nil)")
  | _, _ => .bad "builtin"

noncomputable def invokeV (P : Env) (h : Hp) (f : V) (args : List V) : OR :=
  match f with
  | .func f first caps => callV P h f (first ++ args ++ caps)
  | .yield l => .round l args
  | _ => .bad "call of a nil function"

noncomputable def oprs (P : Env) (F : Frm) (l : Array Operand) : List V := l.toList.map (opr P F)

noncomputable def slicePure (P : Env) (F : Frm) (t : TypeId) (x : V) (lo hi mx : Option Operand) : Option V :=
  match optBound P F lo, optBound P F hi, optBound P F mx with
  | some lo, some hi, some mx =>
    let l := lo.getD 0
    match P.underlying t, x with
    | some .string, .str s =>
      let r := hi.getD s.length
      if mx.isNone && l ≤ r && r ≤ s.length then some (.str ((s.drop l).take (r - l))) else none
    | some (.slice e), .slice a len c =>
      let sz := sizeT P e
      let r := hi.getD len
      (match mx with
       | none => if l ≤ r && r ≤ len then some (.slice (a.map fun (b, o) => (b, o + l * sz)) (r - l) (match c with | .ex m => .ex (m - l) | .tl k => .tl (k + l))) else none
       | some m => if hi.isSome && l ≤ r && r ≤ m && m ≤ len then some (.slice (a.map fun (b, o) => (b, o + l * sz)) (r - l) (.ex (m - l))) else none)
    | some (.array n e), .ptr (some (b, o)) =>
      let sz := sizeT P e
      let r := hi.getD n
      (match mx with
       | none => if l ≤ r && r ≤ n then some (.slice (some (b, o + l * sz)) (r - l) (.ex (n - l))) else none
       | some m => if hi.isSome && l ≤ r && r ≤ m && m ≤ n then some (.slice (some (b, o + l * sz)) (r - l) (.ex (m - l))) else none)
    | _, _ => none
  | _, _, _ => none

noncomputable def sliceRead (P : Env) (F : Frm) (h : Hp) (t : TypeId) (x : V) (lo hi mx : Option Operand) : Option V :=
  match optBound P F lo, optBound P F hi, mx with
  | some lo, some (some r), none =>
    let l := lo.getD 0
    match P.underlying t, x with
    | some (.slice e), .slice a len c =>
      let sz := sizeT P e
      if l ≤ r && r ≤ capGe P h a e c then some (.slice (a.map fun (b, o) => (b, o + l * sz)) (r - l) (match c with | .ex m => .ex (m - l) | .tl k => .tl (k + l))) else none
    | _, _ => none
  | _, _, _ => none

noncomputable def assertP (P : Env) (x : V) (t : TypeId) (ok : Bool) : Option V :=
  let holds (v : V) : Option V := some (if ok then .tuple [v, .bool true] else v)
  let fails : Option V := if ok then (zeroV P t).map fun z => .tuple [z, .bool false] else none
  match P.underlying t, x with
  | some (.interface _), .nilIface => fails
  | some (.interface want), .iface d _ => (match (P.info? d) with
    | some i => if leastMissing want i.methods then holds x else fails
    | none => none)
  | some _, .nilIface => fails
  | some _, .iface d v => if d = t then holds v else fails
  | _, _ => none

noncomputable def lenP (P : Env) (ts : Array TypeId) (x : V) : Option V :=
  match (ts[0]?).bind P.underlying, x with
  | some .string, .str s => some (.int .i64 s.length)
  | some (.array n _), _ => some (.int .i64 n)
  | some (.pointer a), _ => (match P.underlying a with | some (.array n _) => some (.int .i64 n) | _ => none)
  | some (.slice _), .slice _ n _ => some (.int .i64 n)
  | some (.map _ _), .map none => some (.int .i64 0)
  | _, _ => none

noncomputable def indexAddrP (P : Env) (t : TypeId) (X I : V) : Option V :=
  match P.underlying t, X, I with
  | some (.slice e), .slice (some (b, o)) len _, .int _ n => if 0 ≤ n && n < len then some (.ptr (some (b, o + n.toNat * sizeT P e))) else none
  | some (.array len e), .ptr (some (b, o)), .int _ n => if 0 ≤ n && n < len then some (.ptr (some (b, o + n.toNat * sizeT P e))) else none
  | _, _, _ => none
noncomputable def indexP (P : Env) (t : TypeId) (X I : V) : Option V :=
  match P.underlying t, X, I with
  | some .string, .str s, .int _ n => if 0 ≤ n then (s[n.toNat]?).map fun b => .int .u8 (b.toNat : Int) else none
  | some (.array len e), .agg l, .int _ n => if 0 ≤ n && n < len then (if isAggT P e then some (.agg ((l.drop (n.toNat * sizeT P e)).take (sizeT P e))) else l[n.toNat * sizeT P e]?) else none
  | _, _, _ => none

noncomputable def pureV (P : Env) (F : Frm) (o : Oper) : Option V :=
  match o.op with
  | .move x | .assign x => some (opr P F x)
  | .pick c a b => (match opr P F c with | .bool t => some (if t then opr P F a else opr P F b) | _ => none)
  | .build t ps => if isAggT P t then (match zeroT P t with
    | some z => (match places P t F ps.toList with | some q => (fillV z q).map .agg | none => none)
    | none => none) else none
  | .nilCheck x => (match opr P F x with
    | .ptr none | .nilIface | .nilFunc => none
    | v => some v)
  | .binOp op t x y _ => binV P op t (isConstO x || isConstO y) (opr P F x) (opr P F y)
  | .unOp op _ x => unV op (opr P F x)
  | .convert s d x => (match P.underlying s, P.underlying d, opr P F x with
    | some _, some (.int k), .int _ n => some (.int k (k.wrap n))
    | some _, some .string, .str s => some (.str s)
    | _, _, _ => none)
  | .makeInterface t x => (match P.underlying t with | some (.interface _) => none | some _ => some (.iface t (opr P F x)) | none => none)
  | .makeFunc fn first caps => (match fn with | .func f => some (.func f (oprs P F first) (oprs P F caps)) | _ => none)
  | .slice t x lo hi mx => slicePure P F t (opr P F x) lo hi mx
  | .fieldAddr s x i => (match opr P F x, fieldsOf P s with
    | .ptr (some (b, o)), some fs => (match fs[i]? with | some f => if sizeT P f.type = 0 then none else some (.ptr (some (b, o + f.offset))) | none => none)
    | _, _ => none)
  | .field t x i => (match opr P F x, fieldsOf P t with
    | .agg l, some fs => (match fs[i]? with
      | some f => if isAggT P f.type then some (.agg ((l.drop f.offset).take (sizeT P f.type))) else l[f.offset]?
      | none => none)
    | _, _ => none)
  | .indexAddr t x i => indexAddrP P t (opr P F x) (opr P F i)
  | .index t x i => indexP P t (opr P F x) (opr P F i)
  | .typeAssert x _ t ok => assertP P (opr P F x) t ok
  | .extract t i => (match opr P F t with | .tuple l => l[i]? | _ => none)
  | .call c => (match c.callee with
    | .builtin .len => (match oprs P F c.args with | [x] => lenP P c.argTypes x | _ => none)
    | .builtin .cap => (match (c.argTypes[0]?).bind P.underlying, oprs P F c.args with | some (.slice _), [.slice _ _ (.ex n)] => some (.int .i64 n) | _, _ => none)
    | .builtin .max => maxV true (oprs P F c.args)
    | .builtin .min => maxV false (oprs P F c.args)
    | _ => none)
  | _ => none

noncomputable def eqR (P : Env) (h : Hp) (t : TypeId) (x y : V) : Option Bool :=
  match P.underlying t, x, y with
  | some (.pointer e), .ptr (some (a, o)), .ptr (some (b, o')) => if a ≠ b && sizeT P e ≠ 0 && famFree P h a o && famFree P h b o' then some false else none
  | some (.interface _), .iface tx (.ptr (some (a, o))), .iface ty (.ptr (some (b, o'))) =>
    (match P.underlying tx with
     | some (.pointer e) => if tx = ty && ((P.info? tx).map (·.comparable)).getD false && a ≠ b && sizeT P e ≠ 0 && famFree P h a o && famFree P h b o' then some false else none
     | _ => none)
  | _, _, _ => none

noncomputable def readV (P : Env) (F : Frm) (h : Hp) (o : Oper) : Option V :=
  match o.op with
  | .load t a => (match opr P F a with
    | .ptr (some (b, i)) => if isAggT P t then (loadL P h b i (sizeT P t)).map .agg else load1 P h b i
    | _ => none)
  | .lookup t m k ok => (match lookupV P h t (opr P F m) (opr P F k) ok with | .val v _ => some v | _ => none)
  | .binOp op t x y _ => (match op with
    | .eql => (eqR P h t (opr P F x) (opr P F y)).map .bool
    | .neq => (eqR P h t (opr P F x) (opr P F y)).map fun b => .bool (!b)
    | _ => none)
  | .slice t x lo hi mx => sliceRead P F h t (opr P F x) lo hi mx
  | .convert s d x => (match P.underlying s, P.underlying d, opr P F x with
    | some (.slice e), some .string, .slice a len _ => (match P.underlying e, a with
      | some (.int .u8), some (b, o) => ((loadL P h b o len).bind bytesOf).map .str
      | some (.int .u8), none => some (.str [])
      | _, _ => none)
    | _, _, _ => none)
  | .call c => (match c.callee with
    | .builtin .len => (match (c.argTypes[0]?).bind P.underlying, oprs P F c.args with
      | some (.map _ _), [.map (some r)] => (match P.hg h r with | some (.map es _) => some (.int .i64 es.length) | _ => none)
      | _, _ => none)
    | _ => none)
  | _ => none

noncomputable def allocV (P : Env) (F : Frm) (o : Oper) : Option (Ob × (Nat → V)) :=
  match o.op with
  | .alloc t => (zeroT P t).map fun z => (newBlk z t, fun n => .ptr (some (n, 0)))
  | .box t x => if (opr P F x).cells.all V.isCell then some (newBlk (opr P F x).cells t, fun n => .ptr (some (n, 0))) else none
  | .buildSlice t n ps => (match P.underlying t with
    | some (.slice e) =>
      let s := sizeT P e
      if n * s > 2 ^ 24 then none else
      match (if n * s = 0 then some [] else zeroT P e) with
      | some z => if n * s = 0 || z.length = s then (fillV (reps n z) (placesE P s F ps.toList)).map fun l => (newBlk l e, fun b => .slice (some (b, 0)) n (.ex n)) else none
      | none => none
    | _ => none)
  | .makeMap t none => (match P.underlying t with | some (.map _ _) => some (.map [] 0, fun n => .map (some n)) | _ => none)
  | .makeSlice t l c => (match P.underlying t, opr P F l, opr P F c with
    | some (.slice e), .int .i64 l, .int .i64 c =>
      if 0 ≤ l && l ≤ c && c ≤ 2 ^ 40 && ((P.info? e).map (·.bytes)).getD (2 ^ 50) * c ≤ 2 ^ 40 then
        match (if c.toNat * sizeT P e = 0 then some [] else zeroT P e) with
        | some z => if c.toNat * sizeT P e = 0 || z.length = sizeT P e then some (newBlk (reps c.toNat z) e, fun n => .slice (some (n, 0)) l.toNat (.ex c.toNat)) else none
        | none => none
      else none
    | _, _, _ => none)
  | _ => none

noncomputable def effV (P : Env) (F : Frm) (h : Hp) (o : Oper) : OR :=
  match o.op with
  | .store t a x => (match opr P F a with
    | .ptr (some (b, i)) => let cs := (opr P F x).cells; if cs.length = sizeT P t then orBad (storeL P h b i cs) "store" fun h' => .skip h' else .bad "store: size"
    | _ => .bad "store: nil")
  | .convert s d x => (match P.underlying s, P.underlying d, opr P F x with
    | some _, some (.slice e), .str s => (match P.underlying e with
      | some (.int .u8) => if sizeT P e = 1 ∧ s.length ≤ 2 ^ 40 then newAmb P h (ofBytes s) e s.length else .bad "bytes"
      | _ => .bad "convert string")
    | some (.pointer t), some .unsafePointer, .ptr (some (b, o)) => .bad "UNSAFEPTR"
    | some .unsafePointer, some (.pointer t), .ptr (some (b, o)) => .bad "UNSAFEPTR"
    | _, _, _ => .bad "convert")
  | .mapUpdate t m k v | .insert t m k v => updateV P h t (opr P F m) (opr P F k) (opr P F v)
  | .call c => (match c.callee with
    | .builtin b => builtinV P h b c.argTypes (oprs P F c.args)
    | .value f => invokeV P h (opr P F f) (oprs P F c.args)
    | .invoke r name => (match opr P F r with
      | .iface t v => orBad (methodV P t v name) "method" fun (f, v) => callV P h f (v :: oprs P F c.args)
      | _ => .bad "invoke"))
  | .defer c => (match c.callee with
    | .value f => (match opr P F f with
      | .func f first caps => .defer (.fn f (first ++ oprs P F c.args ++ caps))
      | _ => .bad "defer")
    | _ => .bad "defer")
  | .panic x => (match opr P F x with | .iface t v => .panic (.iface t v) | _ => .bad "panic(nil)")
  | _ => .bad "operation"

noncomputable def opV (P : Env) (F : Frm) (h : Hp) (o : Oper) : OR :=
  match kindO o with
  | .al => (match allocV P F o with | some (ob, f) => .val (f h.next) (P.hn h ob) | none => .bad "alloc")
  | .ef => effV P F h o
  | .pr => (match pureV P F o with
    | some v => .val v h
    | none => (match readV P F h o with
      | some v => .val v h
      | none => effV P F h o))

noncomputable def sV (h : Hp) (d : OR) (o : Option V) : OR := match o with | some v => .val v h | none => d
noncomputable def lV (P : Env) (h : Hp) (t : TypeId) (v : V) : OR := match v with
  | .ptr (some (b, i)) => sV h (.bad "operation") (if isAggT P t then (loadL P h b i (sizeT P t)).map .agg else load1 P h b i)
  | _ => .bad "operation"
noncomputable def opQ (P : Env) (F : Frm) (h : Hp) (o : Oper) : OR :=
  Op.casesOn (motive := fun _ => OR) o.op
    (fun x => .val (opr P F x) h) (fun x => .val (opr P F x) h) (fun _ _ _ => opV P F h o) (fun _ => opV P F h o) (fun _ _ => opV P F h o) (fun _ _ => opV P F h o) (fun _ _ _ => opV P F h o) (fun _ _ _ _ => effV P F h o)
    (fun t x => lV P h t (opr P F x)) (fun _ _ _ => effV P F h o) (fun _ => opV P F h o) (fun _ => opV P F h o) (fun _ => opV P F h o)
    (fun op t x y _ => sV h (opV P F h o) (binV P op t (isConstO x || isConstO y) (opr P F x) (opr P F y))) (fun op _ x => sV h (opV P F h o) (unV op (opr P F x))) (fun _ _ _ => opV P F h o) (fun _ _ => opV P F h o) (fun _ _ => opV P F h o) (fun _ _ _ => opV P F h o) (fun _ _ => opV P F h o) (fun _ _ => opV P F h o) (fun _ _ _ => opV P F h o)
    (fun t x lo hi mx => sV h (opV P F h o) (slicePure P F t (opr P F x) lo hi mx)) (fun _ _ _ => opV P F h o) (fun _ _ _ => opV P F h o) (fun t x i => sV h (.bad "operation") (indexAddrP P t (opr P F x) (opr P F i))) (fun t x i => sV h (.bad "operation") (indexP P t (opr P F x) (opr P F i)))
    (fun _ _ _ _ => opV P F h o) (fun _ _ _ _ => effV P F h o) (fun _ _ _ => opV P F h o) (fun _ _ _ _ => opV P F h o) (fun _ _ => opV P F h o) (fun _ _ => opV P F h o) (fun _ => opV P F h o) (fun _ _ _ _ => opV P F h o)
    (fun _ _ => opV P F h o) (fun _ => opV P F h o) (fun _ => opV P F h o) (fun _ => opV P F h o) (fun _ => opV P F h o) (fun _ _ => opV P F h o) (fun _ _ _ => opV P F h o) (fun _ _ => opV P F h o)


noncomputable def constOk (P : Env) (n : Nat) : Operand → Bool
  | .const v => (toV v).isSome
  | .tmp t => decide (t < n)
  | .global g => decide (g < P.nglob)
  | .func _ => true
noncomputable def okOp (P : Env) (n : Nat) (o : Oper) : Bool :=
  (o.dst.all fun d => decide (d < n)) && (o.op.operands.toList.all (constOk P n)) && ((opTypes o).all (wfT P)) && (match o.op with | .select _ _ => false | _ => true)
noncomputable def okCode (P : Env) (n : Nat) : Code → Bool
  | .region _ ops draw => ops.toList.all (okOp P n) && (!draw || drawOk ops)
  | .seq a b => okCode P n a && okCode P n b
  | .cond c a b => constOk P n c && okCode P n a && okCode P n b
  | .block _ a | .loop a | .scope a => okCode P n a
  | .rangeFunc f ps a b => constOk P n f && (ps.toList.all fun p => decide (p < n)) && okCode P n a && okCode P n b
  | .skip | .label _ | .exit _ | .ret | .refuse _ => true
  | .goto _ => false
noncomputable def okFn (P : Env) (f : FuncId) : Bool :=
  match P.func f with
  | some fn => (match fn.body with | some c => okCode P fn.ntmps c && fn.results.toList.all (fun | .tmp t => decide (t < fn.ntmps) | .cell a t => decide (a < fn.ntmps) && wfT P t) | none => false)
  | none => false

noncomputable def lowO (P : Env) (o : Oper) (F : Frm) (n : Nat) : Bool := o.op.operands.toList.all fun x => V.low n (opr P F x)
noncomputable def setO (P : Env) (d : Option Tmp) (v : V) (F : Frm) : Frm := match d with | some d => P.fs d v F | none => F

noncomputable def wantedV (P : Env) (ops : Array Oper) (F : Frm) (o : Oper) : Bool :=
  match o.guard with
  | none => true
  | some (j, want) => (match ((ops[j]?).bind (·.dst)).map fun t => P.fg F t with
    | some (some (.bool b)) => b == want
    | _ => false)

noncomputable def oR (P : Env) (ev : Ev) (rnd : Option Nat) (o : Oper) (k : S → XR) (s : S) (r : OR) : XR :=
  OR.casesOn (motive := fun _ => XR) r (fun w => .bad (o.pos ++ " " ++ w)) (fun v h => k (S.mk (setO P o.dst v s.F) s.ds s.md h)) (fun h => k (S.mk (setO P o.dst vundef s.F) s.ds s.md h))
    (fun f args => cR P o k s (ev.call f args none s.h)) (fun l args => cR P o k s (ev.round l args s.h)) (fun v => .x (.panic [(v, false)]) s)
    (fun d => if rnd.isSome then .bad "defer in a round" else k { s with F := setO P o.dst vundef s.F, ds := d :: s.ds })
    (if rnd.isSome then .bad "recover in a round" else (match s.md with
        | some (.panicking ((v, false) :: older)) => k { s with F := setO P o.dst v s.F, md := some (.panicking ((v, true) :: older)) }
        | some _ => k { s with F := setO P o.dst .nilIface s.F }
        | none => .bad "recover"))
where cR (P : Env) (o : Oper) (k : S → XR) (s : S) (r : CR) : XR := match r with
        | .bad w => .bad w
        | .ret v _ h => k (S.mk (setO P o.dst v s.F) s.ds s.md h)
        | .pan c _ h => .x (.panic c) { s with h }
noncomputable def oS (P : Env) (ev : Ev) (rnd : Option Nat) (ops : Array Oper) (o : Oper) (k : S → XR) (s : S) : XR :=
  Bool.rec (motive := fun _ => XR) (k (S.mk (setO P o.dst vundef s.F) s.ds s.md s.h)) (oR P ev rnd o k s (opQ P s.F s.h o)) (wantedV P ops s.F o)
noncomputable def opsV (P : Env) (ev : Ev) (rnd : Option Nat) (ops : Array Oper) (l : List Oper) (s : S) : XR :=
  List.rec (motive := fun _ => S → XR) (fun s => .x .normal s) (fun o _ k s => oS P ev rnd ops o k s) l s


noncomputable def recheck (P : Env) (bf : Array Nat) (d : DS) : Bool :=
  d.reads.all fun (r, F, o, v) => (match d.effs with | (e, _) :: _ => prec bf r e | [] => false) || sameV (readV P F d.s.h o) v
noncomputable def drawV (P : Env) (ev : Ev) (ops : Array Oper) (bf : Array Nat) : List Oper → Nat → DS → XR
  | [], _, d => if recheck P bf d then .x .normal d.s else .bad "a read that another order tells"
  | o :: rest, t, d =>
    let next (v : V) : XR := drawV P ev ops bf rest (t + 1) { d with s := { d.s with F := setO P o.dst v d.s.F } }
    let eff : Unit → XR := fun _ =>
      if (d.effs.all fun (e, _) => prec bf e t) && (d.als.all fun a => prec bf a t) && recheck P bf d && lowO P o d.s.F d.s.h.next then
        let go (v : V) (h : Hp) : XR := if !decide (d.s.h.next ≤ h.next) then .bad "drawn: next" else drawV P ev ops bf rest (t + 1) { s := { d.s with F := setO P o.dst v d.s.F, h }, reads := d.reads, effs := (t, d.s.h) :: d.effs, als := d.als }
        match effV P d.s.F d.s.h o with
        | .val v h => go v h
        | .skip h => go vundef h
        | .enter f args => (match ev.call f args none d.s.h with | .ret v _ h => go v h | .bad w => .bad w | _ => .bad "a panic in a drawn region")
        | .round l args => (match ev.round l args d.s.h with | .ret v _ h => go v h | .bad w => .bad w | _ => .bad "a panic in a drawn region")
        | .bad w => .bad (o.pos ++ " " ++ w)
        | _ => .bad (o.pos ++ " drawn")
      else .bad (o.pos ++ " drawn: order")
    if wantedV P ops d.s.F o then
      match kindO o with
      | .al => (match allocV P d.s.F o with
        | some (ob, f) => if lowO P o d.s.F d.s.h.next && ((d.effs.all fun (e, h) => prec bf e t || lowO P o d.s.F h.next) || closedOb ob) then
            drawV P ev ops bf rest (t + 1) { d with s := { d.s with F := setO P o.dst (f d.s.h.next) d.s.F, h := P.hn d.s.h ob }, als := t :: d.als }
          else .bad (o.pos ++ " alloc: order")
        | none => .bad "alloc")
      | .ef => eff ()
      | .pr => (match pureV P d.s.F o with
        | some v => next v
        | none => (match readV P d.s.F d.s.h o with
          | some v =>
            if lowO P o d.s.F d.s.h.next && (d.effs.all fun (e, h) => prec bf e t || (sameV (readV P d.s.F h o) v && lowO P o d.s.F h.next)) then
              drawV P ev ops bf rest (t + 1) { d with s := { d.s with F := setO P o.dst v d.s.F }, reads := (t, d.s.F, o, v) :: d.reads }
            else .bad (o.pos ++ " a read that another order tells")
          | none => eff ()))
    else next vundef

noncomputable def resultsV (P : Env) (F : Frm) (h : Hp) : List ResultVar → Option (List V)
  | [] => some []
  | r :: l =>
    match (match r with
      | .tmp t => some ((P.fg F t).getD vundef)
      | .cell a t => (match P.fg F a with
        | some (.ptr (some (b, o))) => if isAggT P t then (loadL P h b o (sizeT P t)).map .agg else load1 P h b o
        | _ => none)), resultsV P F h l with
    | some v, some r => some (v :: r)
    | _, _ => none

noncomputable def leaveV (P : Env) (ev : Ev) (fn : Func) (F : Frm) (omd : Option Md) : List Dfr → Md → Hp → CR
  | [], .returning, h => (match resultsV P F h fn.results.toList with
    | some [v] => .ret v omd h
    | some l => .ret (.tuple l) omd h
    | none => .bad "results")
  | [], .panicking c, h => .pan c omd h
  | .mark b :: ds, u, h => (match P.hg h b with
    | some (.deferred true) => leaveV P ev fn F omd ds u (P.hp h b (.deferred false))
    | _ => .bad "mark")
  | .fn f args :: ds, u, h => if !((P.func f).bind (·.body)).isSome then .bad "deferred: no body" else (match ev.call f args (some u) h with
    | .bad w => .bad w
    | .ret _ (some u') h => leaveV P ev fn F omd ds (settleV u') h
    | .pan c (some u') h => leaveV P ev fn F omd ds (raisedV u' c) h
    | _ => .bad "deferred")

noncomputable def setArgs (P : Env) : List V → Nat → Frm → Frm
  | [], _, F => F
  | v :: l, i, F => setArgs P l (i + 1) (P.fs i v F)
noncomputable def elemP (P : Env) (fn : Func) : TypeId := match P.underlying (fn.params.getD 0 0) with | some (.slice e) => e | _ => 0
noncomputable def callB (P : Env) (X : Fns) (ev : Ev) (f : FuncId) (args : List V) (md : Option Md) (h : Hp) : CR :=
  match P.func f with
  | some fn => if X.ins f then (match md, insertV P (elemP P fn) h args with | none, .val v h => .ret v none h | _, _ => .bad "Insert") else (match fn.body with
    | some c => if X.ok f && decide (args.length ≤ fn.ntmps) then (match ev.exec { fn := f, rnd := none } c { F := setArgs P args 0 .nil, ds := [], md, h } with
      | .bad w => .bad (fn.name ++ ": " ++ w)
      | .x .normal s | .x .ret s => leaveV P ev fn s.F s.md s.ds .returning s.h
      | .x (.panic c) s => leaveV P ev fn s.F s.md s.ds (.panicking c) s.h
      | .x (.exit _) _ => .bad "exit") else .bad (fn.name ++ ": not ok")
    | none => .bad "no body")
  | none => .bad "no function"

noncomputable def callF (P : Env) (X : Fns) (ev : Ev) (f : FuncId) (args : List V) (md : Option Md) (h : Hp) : CR :=
  match X.sum f args md h with
  | some r => r
  | none => callB P X ev f args md h

noncomputable def roundF (P : Env) (ev : Ev) (l : Nat) (args : List V) (h : Hp) : CR :=
  match P.hg h l with
  | some (.loop r) => if args.length ≠ r.params.length then .bad "yield" else
    (match ev.exec { fn := r.fn, rnd := some l } r.assign { F := setPs r.params args r.F, ds := [], md := none, h } with
     | .x .normal s => (match s.ds, P.hg s.h l with
       | [], some (.loop r') =>
         (match r'.state with
          | .ready =>
            (match ev.exec { fn := r.fn, rnd := some l } r.body { s with h := P.hp s.h l (.loop { r' with state := .busy }) } with
             | .x e s => (match s.ds, P.hg s.h l with
               | [], some (.loop r2) =>
                 (match e with
                  | .normal => .ret (.bool true) none (P.hp s.h l (.loop { r2 with state := .ready, pending := none }))
                  | .ret => .ret (.bool false) none (P.hp s.h l (.loop { r2 with state := .done, pending := some .ret }))
                  | .exit id => .ret (.bool false) none (P.hp s.h l (.loop { r2 with state := .done, pending := some (.exit id) }))
                  | .panic _ => .bad "panic in a round")
               | _, _ => .bad "round end")
             | .bad w => .bad w)
          | _ => .bad "round: loop")
       | _, _ => .bad "round: state")
     | .x _ _ => .bad "assign"
     | .bad w => .bad w)
  | _ => .bad "no loop"

noncomputable def xSeq (ev : Ev) (ctx : Ctx) (b : Code) (r : XR) : XR := match r with | .x .normal s' => ev.exec ctx b s' | r => r
noncomputable def xCond (ev : Ev) (ctx : Ctx) (t e : Code) (s : S) (v : V) : XR := match v with | .bool true => ev.exec ctx t s | .bool false => ev.exec ctx e s | _ => .bad "cond"
noncomputable def xBlock (id : Nat) (r : XR) : XR := match r with | .x (.exit i) s' => if i = id then .x .normal s' else .x (.exit i) s' | r => r
noncomputable def xRegion (P : Env) (ev : Ev) (ctx : Ctx) (ops : Array Oper) (s : S) (draw : Bool) : XR :=
  match draw with
  | false => opsV P ev ctx.rnd ops ops.toList s
  | true => drawV P ev ops (Region.before ops) ops.toList 0 { s, reads := [], effs := [], als := [] }
noncomputable def xRange (P : Env) (ev : Ev) (ctx : Ctx) (s : S) (f : Operand) (ps : Array Tmp) (assign body : Code) : XR :=
    (match (match ctx.rnd with
      | some l => (match P.hg s.h l with | some (.loop r) => some (r.defers, s.ds, s.h) | _ => none)
      | none => some (s.h.next, Dfr.mark s.h.next :: s.ds, P.hn s.h (.deferred true))) with
     | some (d, ds, h1) =>
       let l := h1.next
       let h2 := P.hn h1 (.loop { state := .ready, pending := none, fn := ctx.fn, F := s.F, params := ps.toList.map Pos.of, assign, body, defers := d })
       (match opr P s.F f with
        | .func g first caps => if !((P.func g).bind (·.body)).isSome then .bad "range over a function" else (match ev.call g (first ++ [.yield l] ++ caps) none h2 with
          | .ret _ _ h3 => (match P.hg h3 l with
            | some (.loop r) => if r.state == .busy then .bad "busy" else
                (match r.pending with
                 | none => .x .normal { s with ds, h := P.hp h3 l (.loop { r with state := .exhausted }) }
                 | some c => ev.exec ctx c { s with ds, h := P.hp h3 l (.loop { r with state := .exhausted }) })
            | _ => .bad "loop gone")
          | .pan c _ h3 => .x (.panic c) { s with ds, h := h3 }
          | .bad w => .bad w)
        | _ => .bad "range over a function")
     | none => .bad "rangeFunc")
noncomputable def execF (P : Env) (ev : Ev) (ctx : Ctx) (c : Code) (s : S) : XR :=
  Code.casesOn (motive := fun _ => XR) c (.x .normal s) (fun _ ops draw => xRegion P ev ctx ops s draw) (fun a b => xSeq ev ctx b (ev.exec ctx a s)) (fun c t e => xCond ev ctx t e s (opr P s.F c))
    (fun id b => xBlock id (ev.exec ctx b s)) (fun b => xSeq ev ctx (.loop b) (ev.exec ctx b s)) (fun f ps assign body => xRange P ev ctx s f ps assign body) (fun id => .x (.exit id) s) (fun b => ev.exec ctx b s)
    (fun _ => .x .normal s) (fun _ => .bad "code") (.x .ret s) (fun _ => .bad "code")


noncomputable def evS (P : Env) (X : Fns) (ev : Ev) : Ev := { exec := execF P ev, call := callF P X ev, round := roundF P ev }
theorem opr_eq (P : Program) : opr (Env.of P) = Go.Vm.opr := by kernel_rfl
theorem opV_eq (P : Program) : opV (Env.of P) = Go.Vm.opV P := by kernel_rfl
theorem okFn_eq (P : Program) : okFn (Env.of P) = Go.Vm.okFn P := by kernel_rfl
theorem wantedV_eq (P : Program) : wantedV (Env.of P) = Go.Vm.wantedV := by kernel_rfl
theorem opQ_eq (P : Program) (F : Frm) (h : Hp) (o : Oper) : opQ (Env.of P) F h o = Go.Vm.opV P F h o := by
  obtain ⟨dst, op, ty, pos, after, g⟩ := o
  cases op
  case load t x =>
    show lV (Env.of P) h t (opr (Env.of P) F x) = _
    have e : Go.Vm.opV P F h ⟨dst, .load t x, ty, pos, after, g⟩ = (match Go.Vm.readV P F h ⟨dst, .load t x, ty, pos, after, g⟩ with | some v => OR.val v h | none => .bad "operation") := by kernel_rfl
    have e2 : Go.Vm.readV P F h ⟨dst, .load t x, ty, pos, after, g⟩ = (match Go.Vm.opr F x with | .ptr (some (b, i)) => if Go.Vm.isAggT P t then (Go.Vm.loadL h b i (Go.Vm.sizeT P t)).map .agg else Go.Vm.load1 h b i | _ => none) := by kernel_rfl
    have e3 : opr (Env.of P) F x = Go.Vm.opr F x := congrFun (congrFun (opr_eq P) F) x
    rw [e, e2, e3]
    generalize Go.Vm.opr F x = X
    cases X with
    | ptr a => cases a with
      | none => apply Eq.symm; kernel_rfl
      | some p => apply Eq.symm; kernel_rfl
    | _ => apply Eq.symm; kernel_rfl
  case binOp op t x y yt =>
    have e : Go.Vm.opV P F h ⟨dst, .binOp op t x y yt, ty, pos, after, g⟩ = (match Go.Vm.binV P op t (isConstO x || isConstO y) (Go.Vm.opr F x) (Go.Vm.opr F y) with | some v => OR.val v h | none => Go.Vm.opV P F h ⟨dst, .binOp op t x y yt, ty, pos, after, g⟩) := by
      generalize hb : Go.Vm.binV P op t (isConstO x || isConstO y) (Go.Vm.opr F x) (Go.Vm.opr F y) = B
      cases B with
      | none => rfl
      | some v =>
        have e0 : Go.Vm.opV P F h ⟨dst, .binOp op t x y yt, ty, pos, after, g⟩ = (match Go.Vm.binV P op t (isConstO x || isConstO y) (Go.Vm.opr F x) (Go.Vm.opr F y) with | some v => OR.val v h | none => (match Go.Vm.readV P F h ⟨dst, .binOp op t x y yt, ty, pos, after, g⟩ with | some v => .val v h | none => Go.Vm.effV P F h ⟨dst, .binOp op t x y yt, ty, pos, after, g⟩)) := by kernel_rfl
        rw [e0, hb]
    rw [e]
    apply Eq.symm
    kernel_rfl
  case unOp op t x =>
    have e : Go.Vm.opV P F h ⟨dst, .unOp op t x, ty, pos, after, g⟩ = (match Go.Vm.unV op (Go.Vm.opr F x) with | some v => OR.val v h | none => Go.Vm.opV P F h ⟨dst, .unOp op t x, ty, pos, after, g⟩) := by
      generalize hb : Go.Vm.unV op (Go.Vm.opr F x) = B
      cases B with
      | none => rfl
      | some v =>
        have e0 : Go.Vm.opV P F h ⟨dst, .unOp op t x, ty, pos, after, g⟩ = (match Go.Vm.unV op (Go.Vm.opr F x) with | some v => OR.val v h | none => (match Go.Vm.readV P F h ⟨dst, .unOp op t x, ty, pos, after, g⟩ with | some v => .val v h | none => Go.Vm.effV P F h ⟨dst, .unOp op t x, ty, pos, after, g⟩)) := by kernel_rfl
        rw [e0, hb]
    rw [e]
    apply Eq.symm
    kernel_rfl
  case slice t x lo hi mx =>
    have e : Go.Vm.opV P F h ⟨dst, .slice t x lo hi mx, ty, pos, after, g⟩ = (match Go.Vm.slicePure P F t (Go.Vm.opr F x) lo hi mx with | some v => OR.val v h | none => Go.Vm.opV P F h ⟨dst, .slice t x lo hi mx, ty, pos, after, g⟩) := by
      generalize hb : Go.Vm.slicePure P F t (Go.Vm.opr F x) lo hi mx = B
      cases B with
      | none => rfl
      | some v =>
        have e0 : Go.Vm.opV P F h ⟨dst, .slice t x lo hi mx, ty, pos, after, g⟩ = (match Go.Vm.slicePure P F t (Go.Vm.opr F x) lo hi mx with | some v => OR.val v h | none => (match Go.Vm.readV P F h ⟨dst, .slice t x lo hi mx, ty, pos, after, g⟩ with | some v => .val v h | none => Go.Vm.effV P F h ⟨dst, .slice t x lo hi mx, ty, pos, after, g⟩)) := by kernel_rfl
        rw [e0, hb]
    rw [e]
    apply Eq.symm
    kernel_rfl
  all_goals kernel_rfl
theorem opsV_eq (P : Program) : opsV (Env.of P) = Go.Vm.opsV P := by
  funext ev rnd ops l s
  induction l generalizing s with
  | nil => rfl
  | cons o rest ih =>
    have e : opsV (Env.of P) ev rnd ops (o :: rest) s = oS (Env.of P) ev rnd ops o (opsV (Env.of P) ev rnd ops rest) s := rfl
    rw [e]
    unfold oS Go.Vm.opsV
    rw [opQ_eq]
    have hw : wantedV (Env.of P) ops s.F o = Go.Vm.wantedV ops s.F o := by kernel_rfl
    rw [hw]
    have ihf : opsV (Env.of P) ev rnd ops rest = Go.Vm.opsV P ev rnd ops rest := funext ih
    rw [ihf]
    cases Go.Vm.wantedV ops s.F o with
    | false => apply Eq.symm; kernel_rfl
    | true =>
      cases Go.Vm.opV P s.F s.h o <;> (apply Eq.symm; kernel_rfl)
theorem leaveV_eq (P : Program) : leaveV (Env.of P) = Go.Vm.leaveV P := by kernel_rfl
theorem callF_eq (P : Program) : callF (Env.of P) = Go.Vm.callF P := by kernel_rfl
theorem roundF_eq (P : Program) : roundF (Env.of P) = Go.Vm.roundF P := by kernel_rfl
theorem execF_eq (P : Program) : execF (Env.of P) = Go.Vm.execF P := by
  funext ev ctx c s
  cases c
  case region id ops d =>
    cases d with
    | false => show opsV (Env.of P) ev ctx.rnd ops ops.toList s = Go.Vm.opsV P ev ctx.rnd ops ops.toList s; rw [opsV_eq]
    | true => kernel_rfl
  all_goals kernel_rfl
theorem evS_eq (P : Program) (X : Fns) (ev : Ev) : evS (Env.of P) X ev = Go.Vm.evS P X ev := by unfold evS Go.Vm.evS; rw [execF_eq, callF_eq, roundF_eq]
end Go.Vm.Q
