/- The closed run as the kernel sees it. -/
import Derived.Test.YtodpkcebihbghaaGreatDoorVmE
import Derived.Test.YtodpkcebihbghaaGreatDoorVmFin
import Derived.Test.YtodpkcebihbghaaGreatDoorVmStart
import Derived.Test.YtodpkcebihbghaaGreatDoorVmIns
import Derived.Test.YtodpkcebihbghaaGreatDoorVmExt
set_option linter.unusedVariables false
set_option linter.unusedSimpArgs false
namespace Go.Vm
variable {P : Program}

noncomputable def evQ (E : Q.Env) (X : Fns) : Nat → Ev
  | 0 => evBad
  | n + 1 => Q.evS E X (evQ E X n)
theorem evQ_eq (X : Fns) : ∀ n, evQ (Q.Env.fast P) X n = evN P X n
  | 0 => rfl
  | n + 1 => by
    show Q.evS (Q.Env.fast P) X (evQ (Q.Env.fast P) X n) = Go.Vm.evS P X (evN P X n)
    rw [evQ_eq X n, Q.fast_eq, Q.evS_eq]
noncomputable def lookF : Look := { hg := fun h b => Q.getN h.t b, fg := fun F t => Q.getP (Pos.of t) F, kg := fun t b => Q.getN t b }
theorem lookF_eq : lookF = Look.std := by
  unfold lookF Look.std
  congr 1
  · funext h b; exact Q.getN_eq _ _
  · funext F t; exact Q.getP_eq _ _
  · funext t b; exact Q.getN_eq _ _
/-- The parts of a program that the virtual machine leans on. -/
structure VmHyp (P : Program) (X : Fns) : Prop where
  mixed : P.follows .mixedOrders = true
  ext : ExtHyp P
  num : NumOk P
  fns : FnsOk P X
theorem VmHyp.ev {X : Fns} (H : VmHyp P X) (n : Nat) : EvOk P (evN P X n) :=
  evN_ok (ext_ok H.ext) H.num H.fns (fun _ hev => draw_ok H.mixed (ext_ok H.ext) H.num hev) n
def isRet (v : V) : CR → Bool
  | .ret v' _ _ => V.beq v' v
  | _ => false
/-- The code at a path. -/
def subC : List Nat → Code → Code
  | [], c => c
  | i :: p, c => match c with
    | .seq a b | .cond _ a b => subC p (match i with | 0 => a | _ => b)
    | .block _ b | .loop b | .scope b => subC p b
    | c => c
/-- The functions whose bits are set in a number have been looked at. -/
theorem ok_of_mask {m N : Nat} {X : Fns} (hX : ∀ f, X.ok f = m.testBit f) (hm : m < 2 ^ N) (h : ((List.range N).all fun f => !m.testBit f || Q.okFn (Q.Env.fast P) f) = true) : ∀ f, X.ok f = true → okFn P f = true := fun f hf => by
  rw [hX] at hf
  have hlt : f < N := by
    rcases Nat.lt_or_ge f N with h1 | h1
    · exact h1
    · rw [Nat.testBit_lt_two_pow (Nat.lt_of_lt_of_le hm (Nat.pow_le_pow_right (by omega) h1))] at hf
      cases hf
  have := List.all_eq_true.1 h f (List.mem_range.2 hlt)
  rw [hf, Q.fast_eq, Q.okFn_eq] at this
  simpa using this
theorem num_of_all (h : (P.funcs.toList.all fun fn => !(fn.name == "runtime.NumGoroutine")) = true) : NumOk P := fun f fn hf he => by
  have := List.all_eq_true.1 h fn (Array.mem_toList_iff.2 (Array.mem_of_getElem? hf))
  rw [he] at this
  simp at this
theorem origin_of_all (h : (P.funcs.toList.all fun fn => fn.body.isSome || (Extern.allNextRows.lookup fn.origin).isNone) = true) : ∀ (f : FuncId) (fn : Func), P.funcs[f]? = some fn → fn.body = none → (Extern.allNextRows.lookup fn.origin).isNone = true := fun f fn hf hb => by
  have := List.all_eq_true.1 h fn (Array.mem_toList_iff.2 (Array.mem_of_getElem? hf))
  rw [hb] at this
  simpa using this
theorem pack_of_all (h : ((List.range P.types.size).all fun t => !P.packed t && !P.holdsPacked P.depth t && !P.methodsOfAPack P.depth t) = true) : ∀ t, t < P.types.size → P.packed t = false ∧ P.holdsPacked P.depth t = false ∧ P.methodsOfAPack P.depth t = false := fun t ht => by
  have := List.all_eq_true.1 h t (List.mem_range.2 ht)
  simpa [and_assoc] using this
end Go.Vm
/- Several frames at once: a stretch may be cut within a callee. -/
namespace Go.Vm
open Go.RowKit
variable {P : Program} {μ : PM} {h : Hp} {w : World} {F : Frm} {a : Act}

theorem restI_cons {ops : Array Oper} {i : Nat} {o : Oper} (h : ops[i]? = some o) : restI ops i = i :: restI ops (i + 1) := by
  have : i < ops.size := (Array.getElem?_eq_some_iff.1 h).1
  unfold restI
  rw [show ops.size - i = (ops.size - (i + 1)) + 1 by omega, List.range'_succ]
/-- A caller that waits at an operation of a region. -/
structure Susp where
  f : FuncId
  nt : Nat
  ops : Array Oper
  i : Nat
  k : List Item
  F : Frm
  ds : List Nat
structure Cfg where
  st : List Susp
  f : FuncId
  nt : Nat
  k : List Item
  s : S
def marks : List Dfr → Option (List Nat)
  | [] => some []
  | .mark b :: l => (match marks l with | some m => some (b :: m) | none => none)
  | .fn _ _ :: _ => none
theorem marks_eq : ∀ (l : List Dfr) (m : List Nat), marks l = some m → l = m.map .mark
  | [], m, h => by simp only [marks, Option.some.injEq] at h; subst h; rfl
  | .mark b :: l, m, h => by
    simp only [marks] at h
    split at h
    · rename_i m' h'
      cases h
      rw [marks_eq l m' h']
      rfl
    · cases h
  | .fn _ _ :: _, m, h => by simp [marks] at h
inductive Cmd where
  | run (n : Nat)
  | seg (m : Nat)
  | fin
  | push
  | pop
structure Mach where
  exec : FuncId → Code → S → XR
  opr : Frm → Operand → V
  opsV : Array Oper → List Oper → S → XR
  opV : Frm → Hp → Oper → OR
  wanted : Array Oper → Frm → Oper → Bool
  leave : Func → S → CR
  fn : FuncId → Option Func
  ok : FuncId → Bool
def Mach.std (P : Program) (X : Fns) (ev : Ev) : Mach := {
  exec := fun f => ev.exec { fn := f, rnd := none }, opr := Go.Vm.opr, opsV := fun ops l s => Go.Vm.opsV P ev none ops l s, opV := fun F h o => Go.Vm.opV P F h o, wanted := wantedV,
  leave := fun fn s => leaveV P ev fn s.F none s.ds .returning s.h, fn := fun f => P.funcs[f]?, ok := X.ok }
noncomputable def Mach.fast (P : Program) (X : Fns) (N : Nat) : Mach := {
  exec := fun f => (evQ (Q.Env.fast P) X N).exec { fn := f, rnd := none }, opr := Q.opr (Q.Env.fast P), opsV := fun ops l s => Q.opsV (Q.Env.fast P) (evQ (Q.Env.fast P) X N) none ops l s, opV := fun F h o => Q.opV (Q.Env.fast P) F h o, wanted := Q.wantedV (Q.Env.fast P),
  leave := fun fn s => Q.leaveV (Q.Env.fast P) (evQ (Q.Env.fast P) X N) fn s.F none s.ds .returning s.h, fn := (Q.Env.fast P).func, ok := X.ok }
theorem Mach.fast_eq (P : Program) (X : Fns) (N : Nat) : Mach.fast P X N = Mach.std P X (evN P X N) := by
  unfold Mach.fast Mach.std
  rw [evQ_eq, Q.fast_eq]
  simp only [Q.opr_eq, Q.opsV_eq, Q.opV_eq, Q.wantedV_eq, Q.leaveV_eq]
  rfl
def segC (M : Mach) (ops : Array Oper) (i m : Nat) (k : List Item) (c : Cfg) : Option Cfg :=
  if i + m ≤ ops.size then (match M.opsV ops ((ops.toList.drop i).take m) c.s with
    | .x .normal s => some { c with k := .inRegion ops (restI ops (i + m)) :: k, s }
    | _ => none) else none
def stepC (M : Mach) : Cmd → Cfg → Option Cfg
  | .run n, c => (match outer (M.exec c.f) M.opr n c.k c.s with
    | some (k, s) => some { c with k, s }
    | none => none)
  | .seg m, c => (match c.k with
    | .code (.region _ ops false) :: k => segC M ops 0 m k c
    | .inRegion ops (i :: _) :: k => segC M ops i m k c
    | _ => none)
  | .fin, c => (match c.k with
    | .inRegion _ [] :: k => some { c with k }
    | _ => none)
  | .push, c => (match c.k with
    | .inRegion ops (i :: _) :: k => (match ops.toList[i]? with
      | some o => if M.wanted ops c.s.F o && c.s.md.isNone then (match M.opV c.s.F c.s.h o with
        | .enter g args => (match M.fn g with
          | some fn => (match fn.body, marks c.s.ds with
            | some b, some ds => if M.ok g && decide (args.length ≤ fn.ntmps) then some { st := ⟨c.f, c.nt, ops, i, k, c.s.F, ds⟩ :: c.st, f := g, nt := fn.ntmps, k := [.code b], s := { F := setArgs args 0 .nil, ds := [], md := none, h := c.s.h } } else none
            | _, _ => none)
          | none => none)
        | _ => none) else none
      | none => none)
    | _ => none)
  | .pop, c => (match c.k with
    | .code .ret :: _ => (match c.st with
      | t :: st => (match M.fn c.f with
        | some fn => (match M.leave fn c.s with
          | .ret v _ h => some { st, f := t.f, nt := t.nt, k := .inRegion t.ops (restI t.ops (t.i + 1)) :: t.k, s := { F := setO ((t.ops.toList[t.i]?).bind (·.dst)) v t.F, ds := t.ds.map .mark, md := none, h } }
          | _ => none)
        | none => none)
      | [] => none)
    | _ => none)
def runC (M : Mach) : List Cmd → Cfg → Option Cfg
  | [], c => some c
  | x :: l, c => (match stepC M x c with | some c' => runC M l c' | none => none)

/-! ### What holds of a state -/
def StR (μ : PM) (f0 : FuncId) (c0 : List Frame) : FuncId → List Susp → List Frame → Prop
  | f, [], cs => f = f0 ∧ cs = c0
  | _, t :: st, cs => ∃ (b : Frame) (a : Act) (cs' : List Frame), cs = b.atR a (.inRegion t.ops (restI t.ops t.i) :: t.k) :: cs' ∧ b.fn = t.f ∧ b.kind = .normal ∧ b.roundOf = none ∧ FR μ t.F t.nt a.tmps ∧ DsR μ (t.ds.map .mark) a.defers ∧ StR μ f0 c0 t.f st cs'
theorem StR.mono {μ ν : PM} (hle : μ.le ν) {f0 : FuncId} {c0 : List Frame} : ∀ {f : FuncId} {st : List Susp} {cs : List Frame}, StR μ f0 c0 f st cs → StR ν f0 c0 f st cs
  | _, [], _, h => h
  | _, t :: st, _, ⟨b, a, cs', h1, h2, h3, h4, h5, h6, h7⟩ => ⟨b, a, cs', h1, h2, h3, h4, h5.mono hle, h6.mono hle, StR.mono hle h7⟩
def CfgR (P : Program) (μ : PM) (f0 : FuncId) (c0 : List Frame) (c : Cfg) (m : Machine) (w : World) : Prop :=
  ∃ (b : Frame) (a : Act) (cs : List Frame), m = lone (b.atR a c.k) cs w ∧ b.fn = c.f ∧ b.kind = .normal ∧ b.roundOf = none ∧ SR P μ c.nt .normal cs c.s a cs w ∧ StR μ f0 c0 c.f c.st cs
def fnOk (P : Program) (f : FuncId) (nt : Nat) : Prop := okFn P f = true ∧ ∀ fn, P.funcs[f]? = some fn → fn.ntmps = nt
def suspOk (P : Program) (t : Susp) : Prop := fnOk P t.f t.nt ∧ itemsOk P t.nt (.inRegion t.ops (restI t.ops t.i) :: t.k) = true ∧ t.i < t.ops.size
def cfgOk (P : Program) (c : Cfg) : Prop := fnOk P c.f c.nt ∧ itemsOk P c.nt c.k = true ∧ ∀ t ∈ c.st, suspOk P t

theorem itemOk_region {ops : Array Oper} {n i : Nat} (h : ops.toList.all (okOp P n) = true) (hi : i ≤ ops.size) : itemOk P n (.inRegion ops (restI ops i)) = true := by
  simp only [itemOk, h, Bool.true_and, beq_iff_eq]
  rcases Nat.lt_or_ge i ops.size with h1 | h1
  · rw [restI_cons (o := ops[i]) (Array.getElem?_eq_getElem h1), List.headD_cons, restI_cons (o := ops[i]) (Array.getElem?_eq_getElem h1)]
  · have : i = ops.size := by omega
    subst this
    have : restI ops ops.size = [] := by simp [restI]
    rw [this]
    simp [restI]

theorem Cal.normal_md {kind : CallKind} {c0 cs : List Frame} {md : Option Md} (h : Cal μ kind c0 md cs) (hk : kind = .normal) : md = Option.none := by
  cases h with
  | none _ => rfl
  | some h1 _ => rw [hk] at h1; cases h1
/-! ### A part of a region -/
theorem ops_seg {ev : Ev} (hev : EvOk P ev) (hE : ExtOk P) (hN : NumOk P) {ops : Array Oper} {n : Nat} {b : Frame} {k : List Item} (hbk : b.kind = .normal) (hro : b.roundOf = none) (hok : ∀ o ∈ ops, okOp P n o = true) :
    ∀ (l : List Oper) (i : Nat), (∀ j o, l[j]? = some o → ops[i + j]? = some o) → ∀ (s s' : S) (μ : PM) (a : Act) (cs : List Frame) (w : World), opsV P ev none ops l s = .x .normal s' → SR P μ n .normal cs s a cs w →
      ∃ μ' a' w', Ext μ s.h w μ' s'.h w' ∧ SR P μ' n .normal cs s' a' cs w' ∧ StepsIn I0 P (lone (b.atR a (.inRegion ops (restI ops i) :: k)) cs w) (lone (b.atR a' (.inRegion ops (restI ops (i + l.length)) :: k)) cs w')
  | [], i, hl, s, s', μ, a, cs, w, hr, hs => by
    simp only [opsV, XR.x.injEq, true_and] at hr
    subst hr
    exact ⟨μ, a, w, .refl _ _ _, hs, .refl _⟩
  | o :: rest, i, hl, s, s', μ, a, cs, w, hr, hs => by
    have hi : ops[i]? = some o := hl 0 o rfl
    have hrest : ∀ j o, rest[j]? = some o → ops[i + 1 + j]? = some o := fun j o h => by
      have := hl (j + 1) o (by simpa using h)
      rwa [show i + (j + 1) = i + 1 + j by omega] at this
    have hmem : o ∈ ops := Array.mem_of_getElem? hi
    have hoo := hok o hmem
    have hOp : OpOk P μ s.F a o := okOp_op hs.rel hs.fr hoo
    have hdst : ∀ o ∈ ops, ∀ d, o.dst = some d → d < n := fun o ho d hd => by
      have := hok o ho
      unfold okOp at this
      simp only [Bool.and_eq_true] at this
      have := this.1.1.1
      rw [hd] at this
      simpa using this
    have hwt := wanted_eq hs.fr hdst o
    rw [restI_cons hi]
    unfold opsV at hr
    rw [hwt] at hr
    have IH := fun (s1 : S) (μ1 : PM) (a1 : Act) (w1 : World) => ops_seg hev hE hN (b := b) (k := k) hbk hro hok rest (i + 1) hrest s1 s' μ1 a1 cs w1
    have go : ∀ {s1 : S} {μ1 : PM} {a1 : Act} {w1 : World}, opsV P ev none ops rest s1 = .x .normal s' → StepsIn I0 P (lone (b.atR a (.inRegion ops (i :: restI ops (i + 1)) :: k)) cs w) (lone (b.atR a1 (.inRegion ops (restI ops (i + 1)) :: k)) cs w1) →
        Ext μ s.h w μ1 s1.h w1 → SR P μ1 n .normal cs s1 a1 cs w1 →
        ∃ μ' a' w', Ext μ s.h w μ' s'.h w' ∧ SR P μ' n .normal cs s' a' cs w' ∧ StepsIn I0 P (lone (b.atR a (.inRegion ops (i :: restI ops (i + 1)) :: k)) cs w) (lone (b.atR a' (.inRegion ops (restI ops (i + (o :: rest).length)) :: k)) cs w') := fun h1 h2 h3 h4 => by
      obtain ⟨μ', a', w', g1, g2, g3⟩ := IH _ _ _ _ h1 h4
      refine ⟨μ', a', w', h3.trans g1, g2, ?_⟩
      rw [List.length_cons, show i + (rest.length + 1) = i + 1 + rest.length by omega]
      exact h2.trans g3
    split at hr
    · rename_i hw
      have hout := opV_sound hE hN hs.rel hOp
      have hsem : (∀ c, o.op ≠ .defer c) → o.semAt b.roundOf a.eval = execOp a.eval o := fun hnd => Oper.semAt_eq _ _ _ hnd
      have hnd : (∀ y, opV P s.F s.h o ≠ .bad y) → (∀ d, opV P s.F s.h o ≠ .defer d) → ∀ c, o.op ≠ .defer c := fun h1 h2 c hc => by
        rcases opV_dfr (P := P) (F := s.F) (h := s.h) hc with ⟨y, hy⟩ | ⟨d, hd⟩
        · exact h1 y hy
        · exact h2 d hd
      cases hov : opV P s.F s.h o with
      | bad y => rw [hov] at hr; cases hr
      | val v h' =>
        rw [hov] at hout hnd hr
        obtain ⟨r, w', μ', g1, g2, g3, g4⟩ := hout
        have he := hsem (hnd (fun _ h => by cases h) (fun _ h => by cases h))
        exact go hr (.one trivial (step_val hi hw (by rw [he]; exact g1))) g2 (hs.put g2 g3 o.dst g4)
      | skip h' =>
        rw [hov] at hout hnd hr
        obtain ⟨w', μ', g1, g2, g3⟩ := hout
        have he := hsem (hnd (fun _ h => by cases h) (fun _ h => by cases h))
        exact go hr (.one trivial (step_skp hi hw (by rw [he]; exact g1))) g2 (hs.put g2 g3 o.dst vr_undef)
      | enter f args =>
        rw [hov] at hout hnd hr
        obtain ⟨rs, g1, g2⟩ := hout
        have he := hsem (hnd (fun _ h => by cases h) (fun _ h => by cases h))
        have hst := step_ent (P := P) (b := b) (k := k) (cs := cs) (rest := restI ops (i + 1)) hi hw (by rw [he]; exact g2)
        have hcall := hev.call f args rs none .normal μ s.h w (b.atR a (.inRegion ops (i :: restI ops (i + 1)) :: k) :: cs) (b.atR a (.inRegion ops (i :: restI ops (i + 1)) :: k) :: cs) hs.rel g1 (.none rfl)
        dsimp only at hr
        cases hcr : ev.call f args none s.h with
        | bad y => rw [hcr] at hr; cases hr
        | ret v md h' =>
          rw [hcr] at hcall hr
          obtain ⟨μ', w', cs', r, fr, k1, k2, k3, k4, k5, k6, k7, k8⟩ := hcall
          obtain rfl := k4.normal_inv rfl
          have hlv := step_leave_returned (P := P) (c := b.atR a (.inRegion ops (i :: restI ops (i + 1)) :: k)) (cs := cs) (going_leaving k7 k8)
          rw [fin_atR hi] at hlv
          exact go hr (.head trivial hst (k5.trans (.one trivial hlv))) k1 (hs.put k1 k2 o.dst k3)
        | pan c md h' => rw [hcr] at hr; cases hr
      | round l args =>
        rw [hov] at hout hnd hr
        obtain ⟨ld, rs, g0, g1, g2⟩ := hout
        have he := hsem (hnd (fun _ h => by cases h) (fun _ h => by cases h))
        have hround := hev.round l args rs ld μ s.h w (b.atR a (.inRegion ops (i :: restI ops (i + 1)) :: k)) cs hs.rel g1 g0
        dsimp only at hr
        cases hcr : ev.round l args s.h with
        | bad y => rw [hcr] at hr; cases hr
        | ret v md h' =>
          rw [hcr] at hround hr
          obtain ⟨μ', w', r, f, tmps, assign, body, k0, k1, k2, k3, k4⟩ := hround
          have hst := step_rnd (P := P) (b := b) (k := k) (cs := cs) (rest := restI ops (i + 1)) hi hw (by rw [he, g2]; exact k0)
          rw [fin_atR hi] at k4
          exact go hr (.head trivial hst k4) k1 (hs.put k1 k2 o.dst k3)
        | pan c md h' => rw [hcr] at hround; exact hround.elim
      | panic v => rw [hov] at hr; cases hr
      | defer d =>
        rw [hov] at hout hr
        obtain ⟨r, g1, g2⟩ := hout
        have hst := step_dfr (P := P) (b := b) (k := k) (cs := cs) (rest := restI ops (i + 1)) hi hw (by rw [hro, Oper.semAt_none]; exact g2)
        refine go (s1 := { s with F := setO o.dst vundef s.F, ds := d :: s.ds }) hr (.one trivial hst) (.refl _ _ _) ⟨hs.rel, ?_, ?_, hs.cal⟩
        · exact FR.put (a := { a with defers := r :: a.defers }) hs.fr o.dst vr_undef
        · rw [put_defers]; exact ⟨g1, hs.df⟩
      | recover =>
        rw [hov] at hr
        have hcal := hs.cal
        rw [hcal.normal_md rfl] at hr
        cases hr
    · rename_i hw
      have hst := stepR_op_skip (P := P) (b := b) (a := a) (k := k) (cs := cs) (w := w) (ops := ops) (i := i) (rest := restI ops (i + 1)) (by
        rw [hi]; simp only [Option.map_some, Option.getD_some]; simpa using hw)
      rw [hi] at hst
      simp only [Option.bind_some] at hst
      exact go (s1 := { s with F := setO o.dst vundef s.F }) hr (.one trivial hst) (.refl _ _ _) (hs.put (.refl _ _ _) hs.rel o.dst vr_undef)

/-! ### One command -/
theorem fnOk_res {f : FuncId} {nt : Nat} {fn : Func} (h : fnOk P f nt) (hf : P.funcs[f]? = some fn) : fn.ntmps = nt ∧ (∃ c, fn.body = some c ∧ okCode P nt c = true) ∧ ∀ r ∈ fn.results.toList, match r with | .tmp t => t < nt | .cell a t => a < nt ∧ wfT P t = true := by
  obtain ⟨h1, h2⟩ := h
  have h3 := h2 fn hf
  unfold okFn at h1
  rw [hf] at h1
  dsimp only at h1
  cases hb : fn.body with
  | none => rw [hb] at h1; cases h1
  | some c =>
    rw [hb] at h1
    simp only [Bool.and_eq_true, h3] at h1
    refine ⟨h3, ⟨c, rfl, h1.1⟩, fun r hr => ?_⟩
    have := List.all_eq_true.1 h1.2 r hr
    cases r with
    | tmp t => simpa using this
    | cell a t => simpa using this
theorem seg_sound {X : Fns} {ev : Ev} (hev : EvOk P ev) (hE : ExtOk P) (hN : NumOk P) {f0 : FuncId} {c0 : List Frame} {ops : Array Oper} {i m : Nat} {k : List Item} {c c' : Cfg} (h : segC (Mach.std P X ev) ops i m k c = some c') (hfn : fnOk P c.f c.nt)
    (hk : itemsOk P c.nt k = true) (hops : ops.toList.all (okOp P c.nt) = true) (hst : ∀ t ∈ c.st, suspOk P t) {μ : PM} {w : World} {b : Frame} {a : Act} {cs : List Frame} (h1 : b.fn = c.f) (h2 : b.kind = .normal) (h3 : b.roundOf = none)
    (hs : SR P μ c.nt .normal cs c.s a cs w) (hr : StR μ f0 c0 c.f c.st cs) : cfgOk P c' ∧ ∃ μ' w' m', Ext μ c.s.h w μ' c'.s.h w' ∧ CfgR P μ' f0 c0 c' m' w' ∧ StepsIn I0 P (lone (b.atR a (.inRegion ops (restI ops i) :: k)) cs w) m' := by
  unfold segC at h
  split at h
  · rename_i hle
    split at h
    · rename_i s' he
      cases h
      have hlen : ((ops.toList.drop i).take m).length = m := by simp; omega
      obtain ⟨μ', a', w', g1, g2, g3⟩ := ops_seg (k := k) hev hE hN h2 h3 (fun o ho => List.all_eq_true.1 hops o (Array.mem_toList_iff.2 ho)) _ i (fun j o hj => by
        rw [List.getElem?_take] at hj
        split at hj
        · rwa [List.getElem?_drop, Array.getElem?_toList] at hj
        · cases hj) c.s s' μ a cs w he hs
      rw [hlen] at g3
      refine ⟨⟨hfn, ?_, hst⟩, μ', w', _, g1, ⟨b, a', cs, rfl, h1, h2, h3, g2, hr.mono g1.le⟩, g3⟩
      simp only [itemsOk, List.all_cons, Bool.and_eq_true]
      exact ⟨itemOk_region hops hle, hk⟩
    · cases h
  · cases h
theorem step_sound {X : Fns} {ev : Ev} (hev : EvOk P ev) (hE : ExtOk P) (hN : NumOk P) (hX : FnsOk P X) {f0 : FuncId} {c0 : List Frame} {x : Cmd} {c c' : Cfg} (h : stepC (Mach.std P X ev) x c = some c') (hok : cfgOk P c) {μ : PM} {m : Machine} {w : World} (hr : CfgR P μ f0 c0 c m w) :
    cfgOk P c' ∧ ∃ μ' w' m', Ext μ c.s.h w μ' c'.s.h w' ∧ CfgR P μ' f0 c0 c' m' w' ∧ StepsIn I0 P m m' := by
  obtain ⟨hfn, hk, hst⟩ := hok
  obtain ⟨b, a, cs, rfl, h1, h2, h3, hs, hS⟩ := hr
  cases x with
  | run n =>
    simp only [stepC] at h
    split at h
    · rename_i k s he
      cases h
      obtain ⟨μ', a', w', g1, g2, g3, g4⟩ := outer_sound hev h1 h2 h3 n c.k c.s k s he hk μ a w hs
      exact ⟨⟨hfn, g4, hst⟩, μ', w', _, g1, ⟨b, a', cs, rfl, h1, h2, h3, g2, hS.mono g1.le⟩, g3⟩
    · cases h
  | seg n =>
    simp only [stepC] at h
    split at h
    · rename_i g ops k hck
      rw [hck] at hk ⊢
      simp only [itemsOk, List.all_cons, Bool.and_eq_true, itemOk, okCode, Bool.not_false, Bool.true_or, and_true] at hk
      obtain ⟨q1, μ', w', m', q2, q3, q4⟩ := seg_sound hev hE hN h hfn hk.2 hk.1 hst h1 h2 h3 hs hS
      refine ⟨q1, μ', w', m', q2, q3, ?_⟩
      refine .head trivial stepR_region ?_
      have : restI ops 0 = List.range ops.size := by simp [restI, List.range_eq_range']
      rw [this] at q4
      exact q4
    · rename_i ops i l k hck
      rw [hck] at hk ⊢
      simp only [itemsOk, List.all_cons, Bool.and_eq_true, itemOk, List.headD_cons, beq_iff_eq] at hk
      obtain ⟨⟨ho, hl⟩, hk⟩ := hk
      rw [hl]
      exact seg_sound hev hE hN h hfn hk ho hst h1 h2 h3 hs hS
    · cases h
  | fin =>
    simp only [stepC] at h
    split at h
    · rename_i ops k hck
      cases h
      rw [hck] at hk ⊢
      simp only [itemsOk, List.all_cons, Bool.and_eq_true] at hk
      exact ⟨⟨hfn, hk.2, hst⟩, μ, w, _, .refl _ _ _, ⟨b, a, cs, rfl, h1, h2, h3, hs, hS⟩, .one trivial stepR_region_end⟩
    · cases h
  | push =>
    simp only [stepC] at h
    split at h
    · rename_i ops i l k hck
      split at h
      · rename_i o ho
        split at h
        · rename_i hw
          simp only [Bool.and_eq_true] at hw
          obtain ⟨hw, hmd⟩ := hw
          split at h
          · rename_i g args hov
            split at h
            · rename_i fn hg
              split at h
              · rename_i body dsl hb hmk
                split at h
                · rename_i hgo
                  cases h
                  simp only [Bool.and_eq_true, decide_eq_true_eq] at hgo
                  have hg' : P.funcs[g]? = some fn := hg
                  rw [hck] at hk ⊢
                  have hk' := hk
                  simp only [itemsOk, List.all_cons, Bool.and_eq_true, itemOk, List.headD_cons, beq_iff_eq] at hk
                  obtain ⟨⟨hops, hl⟩, hk⟩ := hk
                  have ho' : ops[i]? = some o := by rwa [Array.getElem?_toList] at ho
                  have hmem : o ∈ ops := Array.mem_of_getElem? ho'
                  have hall : ∀ o ∈ ops, okOp P c.nt o = true := fun o ho => List.all_eq_true.1 hops o (Array.mem_toList_iff.2 ho)
                  have hdst : ∀ o ∈ ops, ∀ d, o.dst = some d → d < c.nt := fun o ho d hd => by
                    have := hall o ho
                    unfold okOp at this
                    simp only [Bool.and_eq_true] at this
                    have := this.1.1.1
                    rw [hd] at this
                    simpa using this
                  have hOp : OpOk P μ c.s.F a o := okOp_op hs.rel hs.fr (hall o hmem)
                  have hw' : wantedV ops c.s.F o = true := hw
                  rw [wanted_eq hs.fr hdst o] at hw'
                  have hov' : opV P c.s.F c.s.h o = .enter g args := hov
                  have hout := opV_sound hE hN hs.rel hOp
                  rw [hov'] at hout
                  obtain ⟨rs, g1, g2⟩ := hout
                  have hnd : ∀ c, o.op ≠ .defer c := fun c2 hc => by
                    rcases opV_dfr (P := P) (F := c.s.F) (h := c.s.h) hc with ⟨y, hy⟩ | ⟨d, hd⟩
                    · rw [hov'] at hy; cases hy
                    · rw [hov'] at hd; cases hd
                  have he : o.semAt b.roundOf a.eval = execOp a.eval o := Oper.semAt_eq _ _ _ hnd
                  have hst2 := step_ent (P := P) (b := b) (k := k) (cs := cs) (rest := l) ho' hw' (by rw [he]; exact g2)
                  have hgok : fnOk P g fn.ntmps := ⟨hX.ok g hgo.1, fun fn' hfn' => by rw [hg'] at hfn'; cases hfn'; rfl⟩
                  obtain ⟨_, ⟨cb, hcb, hcok⟩, _⟩ := fnOk_res hgok hg'
                  rw [hb] at hcb; cases hcb
                  let b2 : Frame := { (default : Frame) with fn := g, kind := .normal, roundOf := none }
                  have henter : Frame.enter P g rs.toArray .normal = b2.atR { tmps := rs.toArray ++ Array.replicate (fn.ntmps - rs.toArray.size) undef, defers := [] } [.code body] := by
                    simp [Frame.enter, Frame.atR, hg', hb, b2]
                  have hfr := enter_fr (μ := μ) g1 (n := fn.ntmps) hgo.2
                  have hd0 : DsR μ (dsl.map .mark) a.defers := by
                    rw [← marks_eq _ _ hmk]
                    exact hs.df
                  refine ⟨⟨hgok, ?_, fun t ht => ?_⟩, μ, w, _, .refl _ _ _, ⟨b2, { tmps := rs.toArray ++ Array.replicate (fn.ntmps - rs.toArray.size) undef, defers := [] }, b.atR a (.inRegion ops (i :: l) :: k) :: cs, rfl, rfl, rfl, rfl, ⟨hs.rel, hfr, trivial, .none rfl⟩, ?_⟩, ?_⟩
                  · simp only [itemsOk, List.all_cons, List.all_nil, Bool.and_true, itemOk]; exact hcok
                  · rcases List.mem_cons.1 ht with rfl | ht
                    · refine ⟨hfn, ?_, (Array.getElem?_eq_some_iff.1 ho').1⟩
                      dsimp only
                      rw [← hl]; exact hk'
                    · exact hst t ht
                  · refine ⟨b, a, cs, ?_, h1, h2, h3, hs.fr, hd0, hS⟩
                    dsimp only
                    rw [← hl]
                  · rw [← henter]; exact .one trivial hst2
                · cases h
              · cases h
            · cases h
          · cases h
        · cases h
      · cases h
    · cases h
  | pop =>
    simp only [stepC] at h
    split at h
    · rename_i k hck
      split at h
      · rename_i t st hcs
        split at h
        · rename_i fn hg
          split at h
          · rename_i v md h' hlv
            cases h
            have hg' : P.funcs[c.f]? = some fn := hg
            have hlv' : leaveV P ev fn c.s.F none c.s.ds .returning c.s.h = .ret v md h' := hlv
            rw [hcs] at hS hst
            obtain ⟨b2, a2, cs2, rfl, q1, q2, q3, q4, q5, q6⟩ := hS
            obtain ⟨ht1, ht2, ht3⟩ := hst t List.mem_cons_self
            have ho : t.ops[t.i]? = some t.ops[t.i] := Array.getElem?_eq_getElem ht3
            have hres := (fnOk_res hfn hg').2.2
            rw [hck]
            have hmd0 : c.s.md = none := hs.cal.normal_md rfl
            have hlo := leave_sound hev hN (n := c.nt) (kind := .normal) (c0 := b2.atR a2 (.inRegion t.ops (restI t.ops t.i) :: t.k) :: cs2) (omd := none) (F := c.s.F) hg' hres c.s.ds .returning c.s.h μ w { b.atR a (.code .ret :: k) with mode := .returning } (b2.atR a2 (.inRegion t.ops (restI t.ops t.i) :: t.k) :: cs2) hs.rel hs.fr hs.df trivial h1 h2 (.none rfl)
            rw [hlv'] at hlo
            obtain ⟨μ2, w2, cs3, r, fr, x1, x2, x3, x4, x5, x6, x7, x8⟩ := hlo
            obtain rfl := x4.normal_inv rfl
            rw [restI_cons ho] at x5
            have hl2 := step_leave_returned (P := P) (c := b2.atR a2 (.inRegion t.ops (t.i :: restI t.ops (t.i + 1)) :: t.k)) (cs := cs2) (going_leaving x7 x8)
            rw [fin_atR ho] at hl2
            have hdst : (t.ops.toList[t.i]?).bind (·.dst) = t.ops[t.i].dst := by rw [Array.getElem?_toList, ho]; rfl
            refine ⟨⟨ht1, ?_, fun u hu => hst u (List.mem_cons_of_mem _ hu)⟩, μ2, w2, _, x1, ⟨b2, a2.put t.ops[t.i].dst r, cs2, rfl, q1, q2, q3, ⟨x2, ?_, ?_, .none rfl⟩, q6.mono x1.le⟩, ?_⟩
            · simp only [itemsOk, List.all_cons, Bool.and_eq_true] at ht2 ⊢
              have h5 := ht2.1
              simp only [itemOk, Bool.and_eq_true] at h5
              exact ⟨itemOk_region h5.1 ht3, ht2.2⟩
            · dsimp only
              rw [hdst]
              exact (q4.mono x1.le).put _ x3
            · rw [put_defers]; exact q5.mono x1.le
            · dsimp only
              rw [restI_cons ho]
              exact .head trivial (stepR_ret h3) (x5.trans (.one trivial hl2))
          · cases h
        · cases h
      · cases h
    · cases h
theorem run_sound {X : Fns} {ev : Ev} (hev : EvOk P ev) (hE : ExtOk P) (hN : NumOk P) (hX : FnsOk P X) {f0 : FuncId} {c0 : List Frame} : ∀ (l : List Cmd) (c c' : Cfg), runC (Mach.std P X ev) l c = some c' → cfgOk P c → ∀ {μ : PM} {m : Machine} {w : World}, CfgR P μ f0 c0 c m w →
    cfgOk P c' ∧ ∃ μ' w' m', Ext μ c.s.h w μ' c'.s.h w' ∧ CfgR P μ' f0 c0 c' m' w' ∧ StepsIn I0 P m m'
  | [], c, c', h, hok, μ, m, w, hr => by
    simp only [runC, Option.some.injEq] at h
    subst h
    exact ⟨hok, μ, w, m, .refl _ _ _, hr, .refl _⟩
  | x :: l, c, c', h, hok, μ, m, w, hr => by
    simp only [runC] at h
    split at h
    · rename_i c1 h1
      obtain ⟨g1, μ1, w1, m1, g2, g3, g4⟩ := step_sound hev hE hN hX h1 hok hr
      obtain ⟨k1, μ2, w2, m2, k2, k3, k4⟩ := run_sound hev hE hN hX l c1 c' h g1 g3
      exact ⟨k1, μ2, w2, m2, g2.trans k2, k3, g4.trans k4⟩
    · cases h

/-! ### States cut down -/
structure CutS where
  f : FuncId
  nt : Nat
  ops : Array Oper
  i : Nat
  k : List Item
  ds : List Nat
  Fl : List V
structure Cut where
  st : List CutS
  f : FuncId
  nt : Nat
  k : List Item
  ds : List Nat
  Fl : List V
  hl : List (Nat × Ob)
  nx : Nat
def CutS.susp (x : CutS) (F : Frm) : Susp := ⟨x.f, x.nt, x.ops, x.i, x.k, F, x.ds⟩
def Cut.cfg (x : Cut) : Cfg := { st := x.st.map fun y => y.susp (setArgs y.Fl 0 .nil), f := x.f, nt := x.nt, k := x.k, s := cutS x.ds x.Fl (mkT x.hl) x.nx }
def fillSt : List CutS → List Susp → List Susp
  | x :: l, t :: m => x.susp t.F :: fillSt l m
  | _, _ => []
/-- The state as printed, with frames and heap out of a run. -/
def Cut.fill (x : Cut) (r : Option Cfg) : Option Cfg := match r with
  | some c => some { st := fillSt x.st c.st, f := x.f, nt := x.nt, k := x.k, s := c.s }
  | none => none
def stSame (fg : Frm → Nat → Option V) (K : Nat → Bool) : List CutS → List Susp → Bool
  | [], [] => true
  | x :: l, t :: m => Nat.beq x.Fl.length x.nt && frameSame fg K t.F x.Fl 0 && x.ds.all K && stSame fg K l m
  | _, _ => false
def agreeC (X : Look) (G : Nat) (x : Cut) (t : T Ob) (r : Option Cfg) : Bool := match r with
  | some c => agree X G x.nt c.s x.ds x.Fl x.hl t x.nx && stSame X.fg (fun b => (X.kg t b).isSome) x.st c.st
  | none => false
def endOk (M : Mach) (v : V) (r : Option Cfg) : Bool := match r with
  | some c => c.st.isEmpty && (match c.k with | .code .ret :: _ => true | _ => false) && (match M.fn c.f with | some fn => isRet v (M.leave fn c.s) | none => false)
  | none => false
/-- From here the frame of f0, at the bottom, comes to an end that returns v. -/
def GoesC (P : Program) (f0 : FuncId) (v : V) (c : Cfg) : Prop :=
  ∀ (w0 : World) (μ : PM) (c0 : List Frame) (m : Machine) (w : World), CfgR P μ f0 c0 c m w → Kept w0 μ c.s.h w →
    ∃ w' fr μ' r, Same0 w0 w' ∧ VR μ' v r ∧ StepsIn I0 P m (lone fr c0 w') ∧ fr.fn = f0 ∧ fr.leaving P w' (.returned r)
theorem dsSame_self {K : Nat → Bool} : ∀ (l : List Nat), l.all K = true → dsSame K (l.map .mark) l = true
  | [], _ => rfl
  | b :: l, h => by
    simp only [List.all_cons, Bool.and_eq_true] at h
    simp only [List.map_cons, dsSame, Nat.beq_refl, h.1, dsSame_self l h.2, Bool.and_self]
theorem stR_cut {K : Nat → Bool} {f0 : FuncId} {c0 : List Frame} : ∀ (l : List CutS) (st : List Susp) (f : FuncId) (cs : List Frame), stSame (fun F t => F.get (Pos.of t)) K l st = true → st = fillSt l st → StR μ f0 c0 f st cs → StR (μ.keep K) f0 c0 f (l.map fun y => y.susp (setArgs y.Fl 0 .nil)) cs
  | [], st, f, cs, h, he, hS => by
    cases st with
    | nil => exact hS
    | cons t st => simp [stSame] at h
  | x :: l, [], f, cs, h, he, hS => by simp [stSame] at h
  | x :: l, t :: st, f, cs, h, he, hS => by
    simp only [stSame, Bool.and_eq_true] at h
    obtain ⟨⟨⟨h1, h2⟩, hd⟩, h3⟩ := h
    simp only [fillSt, List.cons.injEq] at he
    obtain ⟨he1, he2⟩ := he
    have h1' := Nat.eq_of_beq_eq_true h1
    obtain ⟨b, a, cs', q1, q2, q3, q4, q5, q6, q7⟩ := hS
    rw [he1] at q1 q2 q5 q6 q7
    exact ⟨b, a, cs', q1, q2, q3, q4, fr_cut h1' (by rw [he1] at h2; exact h2) q5, DsR.keep _ x.ds _ (dsSame_self x.ds hd) q6, stR_cut l st _ cs' h3 he2 q7⟩
theorem suspOk_cut : ∀ (l : List CutS) (st : List Susp), l.length = st.length → st = fillSt l st → (∀ t ∈ st, suspOk P t) → ∀ t ∈ l.map fun y => y.susp (setArgs y.Fl 0 .nil), suspOk P t
  | [], _, _, _, _, t, ht => by cases ht
  | x :: l, [], h, _, _, t, ht => by cases h
  | x :: l, u :: st, h, he, hs, t, ht => by
    simp only [fillSt, List.cons.injEq] at he
    rcases List.mem_cons.1 ht with rfl | ht
    · have := hs u List.mem_cons_self
      rw [he.1] at this
      exact this
    · exact suspOk_cut l st (by simpa using h) he.2 (fun t ht => hs t (List.mem_cons_of_mem _ ht)) t ht
theorem stSame_len {fg : Frm → Nat → Option V} {K : Nat → Bool} : ∀ (l : List CutS) (st : List Susp), stSame fg K l st = true → l.length = st.length
  | [], [], _ => rfl
  | [], _ :: _, h => by simp [stSame] at h
  | _ :: _, [], h => by simp [stSame] at h
  | x :: l, t :: st, h => by
    simp only [stSame, Bool.and_eq_true] at h
    simp [stSame_len l st h.2]
theorem goesC_chunk {X : Fns} (H : VmHyp P X) {f0 : FuncId} {N G : Nat} {v : V} {l : List Cmd} {c : Cfg} {x : Cut} (hG : P.globals.size = G)
    (hr : runC (Mach.fast P X N) l c = x.fill (runC (Mach.fast P X N) l c) ∧ agreeC lookF G x (mkT x.hl) (runC (Mach.fast P X N) l c) = true) (hg : cfgOk P x.cfg → GoesC P f0 v x.cfg) (hok : cfgOk P c) : GoesC P f0 v c := by
  obtain ⟨h1, h2⟩ := hr
  rw [Mach.fast_eq] at h1 h2
  rw [lookF_eq] at h2
  subst hG
  cases hc : runC (Mach.std P X (evN P X N)) l c with
  | none => rw [hc] at h2; cases h2
  | some c1 =>
    rw [hc] at h1 h2
    simp only [Cut.fill, Option.some.injEq] at h1
    simp only [agreeC, Bool.and_eq_true] at h2
    obtain ⟨st, f, nt, k, s⟩ := c1
    simp only [Cfg.mk.injEq] at h1
    obtain ⟨e1, rfl, rfl, rfl, -⟩ := h1
    intro w0 μ c0 m w hR hK
    obtain ⟨g1, μ', w', m', g2, g3, g4⟩ := run_sound (H.ev N) (ext_ok H.ext) H.num H.fns l c _ hc hok hR
    obtain ⟨b, a, cs, rfl, q1, q2, q3, q4, q5⟩ := g3
    obtain ⟨a1, a2⟩ := agree_sound' h2.1 q4
    have hk' := hK.ext g2
    have hst := stR_cut _ _ _ _ h2.2 e1 q5
    obtain ⟨w2, fr, μ2, r, m1, m2, m3, m4⟩ := hg ⟨g1.1, g1.2.1, suspOk_cut _ _ (stSame_len _ _ h2.2) e1 g1.2.2⟩ w0 _ c0 _ w' ⟨b, a, cs, rfl, q1, q2, q3, a1, hst⟩ ⟨hk'.os, hk'.tape, hk'.output, hk'.size, fun r hr => ⟨(hk'.same r hr).1, a2 r (hk'.same r hr).2⟩⟩
    exact ⟨w2, fr, μ2, r, m1, m2, g4.trans m3, m4⟩
theorem goesC_ret {X : Fns} (H : VmHyp P X) {f0 : FuncId} {N : Nat} {v : V} {l : List Cmd} {c : Cfg}
    (hr : endOk (Mach.fast P X N) v (runC (Mach.fast P X N) l c) = true) (hok : cfgOk P c) : GoesC P f0 v c := by
  rw [Mach.fast_eq] at hr
  cases hc : runC (Mach.std P X (evN P X N)) l c with
  | none => rw [hc] at hr; cases hr
  | some c1 =>
    rw [hc] at hr
    simp only [endOk, Bool.and_eq_true, List.isEmpty_iff] at hr
    obtain ⟨⟨e1, e2⟩, e3⟩ := hr
    intro w0 μ c0 m w hR hK
    obtain ⟨g1, μ', w', m', g2, g3, g4⟩ := run_sound (H.ev N) (ext_ok H.ext) H.num H.fns l c _ hc hok hR
    obtain ⟨b, a, cs, rfl, q1, q2, q3, q4, q5⟩ := g3
    rw [e1] at q5
    obtain ⟨q5, rfl⟩ := q5
    split at e3
    · rename_i fn hf
      have hf' : P.funcs[c1.f]? = some fn := hf
      split at e2
      · rename_i k hk
        unfold isRet at e3
        split at e3
        · rename_i v' md h' hl
          rw [V.beq_eq _ _ e3] at hl
          have hl' : leaveV P (evN P X N) fn c1.s.F none c1.s.ds .returning c1.s.h = .ret v md h' := hl
          have hlv := leave_sound (H.ev N) H.num (n := c1.nt) (kind := .normal) (c0 := cs) (omd := none) (F := c1.s.F) hf' (fnOk_res g1.1 hf').2.2 c1.s.ds .returning c1.s.h μ' w' { b.atR a (.code .ret :: k) with mode := .returning } cs q4.rel q4.fr q4.df trivial q1 q2 (.none rfl)
          rw [hl'] at hlv
          obtain ⟨μ2, w2, cs2, r, fr, x1, x2, x3, x4, x5, x6, x7, x8⟩ := hlv
          obtain rfl := x4.normal_inv rfl
          have hk2 := (hK.ext g2).ext x1
          obtain ⟨y1, y2, y3⟩ := x8
          rw [hk] at g4
          exact ⟨w2, fr, μ2, r, ⟨hk2.os, hk2.tape, hk2.output, hk2.size, fun r hr => (hk2.same r hr).1⟩, x3, g4.trans (.head trivial (stepR_ret q3) x5), by rw [x6, q5], y1, y2, x7, y3⟩
        · cases e3
      · cases e2
    · cases e3
/-- The outermost frame alone. -/
theorem GoesC.goes {f : FuncId} {nt : Nat} {v : V} {k : List Item} {s : S} (h : GoesC P f v { st := [], f := f, nt := nt, k := k, s := s }) : Goes P f nt v k s := by
  intro w0 μ b a cs w h1 h2 h3 hs hk
  exact h w0 μ cs _ w ⟨b, a, cs, rfl, h1, h2, h3, hs, rfl, rfl⟩ hk
def opsC : Code → Array Oper
  | .region _ ops _ => ops
  | _ => #[]
end Go.Vm
/- What is known of a call already: a function without arguments that turns nothing and returns a bool, run once from the start. -/
namespace Go.Vm
open Go.RowKit
variable {P : Program} {μ : PM} {h : Hp} {w : World}

end Go.Vm
