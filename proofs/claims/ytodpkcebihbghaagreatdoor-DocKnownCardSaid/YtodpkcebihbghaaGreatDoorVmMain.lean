/- The machine's side: frames, callers, regions in the text's order. -/
import Derived.Test.YtodpkcebihbghaaGreatDoorVmEff2
import Derived.CallsIn
import Derived.Recover
import Derived.RangeFuncIn
import Derived.RangeFuncLeaves
import Derived.RangeFuncRecord
import Derived.RangeFuncNested
set_option linter.unusedVariables false
set_option linter.unusedSimpArgs false
namespace Go.Vm
open Go.RowKit

variable {P : Program} {μ : PM} {h : Hp} {w : World} {F : Frm} {a : Act}

/-! ### Temporaries -/
theorem FR.eval (R : Rel P μ h w) {n : Nat} (hF : FR μ F n a.tmps) {x : Operand} (hx : constOk P n x = true) : VR μ (opr F x) (a.eval x) := by
  cases x with
  | tmp t =>
    simp only [constOk, decide_eq_true_eq] at hx
    exact hF.2 t hx
  | const v =>
    simp only [constOk, Option.isSome_iff_exists] at hx
    obtain ⟨u, hu⟩ := hx
    simp only [opr, hu, Option.getD_some, Act.eval]
    exact toV_sound v hu
  | global g =>
    simp only [constOk, decide_eq_true_eq] at hx
    exact .ptr (o := 0) (R.glob g (Nat.le_of_lt hx))
  | func f => exact .func (fs' := []) (cs' := []) .nil .nil
theorem FR.set {n : Nat} {t : Array Value} (hF : FR μ F n t) {d : Nat} {v : V} {r : Value} (hv : VR μ v r) : FR μ (F.set (Pos.of d) v) n (t.setIfInBounds d r) := by
  refine ⟨by simp [hF.1], fun i hi => ?_⟩
  by_cases hd : i = d
  · subst hd
    rw [T.get_set_same]
    simp only [Option.getD_some, Array.getD_eq_getD_getElem?]
    rw [Array.getElem?_setIfInBounds_self_of_lt (by rw [hF.1]; exact hi)]
    exact hv
  · rw [T.get_set_ne (fun e => hd (Pos.of_inj e).symm)]
    simp only [Array.getD_eq_getD_getElem?]
    rw [Array.getElem?_setIfInBounds_ne (Ne.symm hd), ← Array.getD_eq_getD_getElem?]
    exact hF.2 i hi
theorem FR.put {n : Nat} (hF : FR μ F n a.tmps) (d : Option Tmp) {v : V} {r : Value} (hv : VR μ v r) : FR μ (setO d v F) n (a.put d r).tmps := by
  cases d with
  | none => exact hF
  | some d => exact hF.set hv
theorem vr_undef : VR μ vundef undef := .tuple .nil
theorem okOp_op (R : Rel P μ h w) {n : Nat} (hF : FR μ F n a.tmps) {o : Oper} (ho : okOp P n o = true) : OpOk P μ F a o := by
  unfold okOp at ho
  simp only [Bool.and_eq_true] at ho
  obtain ⟨⟨⟨_, h1⟩, h2⟩, _⟩ := ho
  rw [List.all_eq_true] at h1 h2
  exact ⟨fun x hx => hF.eval R (h1 x (Array.mem_toList_iff.2 hx)), h2⟩

/-! ### Chains, modes, callers -/
def ChR (μ : PM) : List PE → List PanicEntry → Prop
  | [], [] => True
  | (v, b) :: l, e :: m => VR μ v e.v ∧ e.recovered = b ∧ e.goexit = false ∧ ChR μ l m
  | _, _ => False
def MR (μ : PM) : Md → FrameMode → Prop
  | .returning, .returning => True
  | .panicking c, .panicking ch => ChR μ c ch
  | _, _ => False
inductive Cal (μ : PM) (kind : CallKind) : List Frame → Option Md → List Frame → Prop where
  | none {cs : List Frame} (hk : kind = .normal) : Cal μ kind cs none cs
  | some {c0 : Frame} {rest : List Frame} {u : Md} {m : FrameMode} (hk : kind = .deferred) (h : MR μ u m) : Cal μ kind (c0 :: rest) (some u) ({ c0 with mode := m } :: rest)
def DsR (μ : PM) : List Dfr → List Deferred → Prop
  | [], [] => True
  | d :: l, e :: m => DfrR μ d e ∧ DsR μ l m
  | _, _ => False
theorem ChR.mono {μ ν : PM} (hle : μ.le ν) : ∀ {l : List PE} {m : List PanicEntry}, ChR μ l m → ChR ν l m
  | [], [], _ => trivial
  | (_, _) :: _, _ :: _, h => ⟨h.1.mono hle, h.2.1, h.2.2.1, ChR.mono hle h.2.2.2⟩
  | [], _ :: _, h => h.elim
  | (_, _) :: _, [], h => h.elim
theorem MR.mono {μ ν : PM} (hle : μ.le ν) {u : Md} {m : FrameMode} (h : MR μ u m) : MR ν u m := by
  cases u <;> cases m <;> first | exact h | exact ChR.mono hle h
theorem Cal.mono {μ ν : PM} (hle : μ.le ν) {kind : CallKind} {c0 cs : List Frame} {md : Option Md} (h : Cal μ kind c0 md cs) : Cal ν kind c0 md cs := by
  cases h with
  | none hk => exact .none hk
  | some hk h => exact .some hk (h.mono hle)
theorem DfrR.mono {μ ν : PM} (hle : μ.le ν) {d : Dfr} {e : Deferred} (h : DfrR μ d e) : DfrR ν d e := by
  cases d with
  | fn f args => obtain ⟨rs, h1, h2⟩ := h; exact ⟨rs, h1.mono hle, h2⟩
  | mark b => obtain ⟨l, h1, h2⟩ := h; exact ⟨l, hle _ _ h1, h2⟩
theorem DsR.mono {μ ν : PM} (hle : μ.le ν) : ∀ {l : List Dfr} {m : List Deferred}, DsR μ l m → DsR ν l m
  | [], [], _ => trivial
  | _ :: _, _ :: _, h => ⟨h.1.mono hle, DsR.mono hle h.2⟩
  | [], _ :: _, h => h.elim
  | _ :: _, [], h => h.elim

structure SR (P : Program) (μ : PM) (n : Nat) (kind : CallKind) (c0 : List Frame) (s : S) (a : Act) (cs : List Frame) (w : World) : Prop where
  rel : Rel P μ s.h w
  fr : FR μ s.F n a.tmps
  df : DsR μ s.ds a.defers
  cal : Cal μ kind c0 s.md cs

abbrev I0 : Machine → Prop := fun _ => True
def ER (μ : PM) : X → Exit → Prop
  | .normal, .normal | .ret, .ret => True
  | .exit i, .exit j => i = j
  | .panic c, .panic ch => ChR μ c ch
  | _, _ => False
theorem ER.mono {μ ν : PM} (hle : μ.le ν) {x : X} {e : Exit} (h : ER μ x e) : ER ν x e := by
  cases x <;> cases e <;> first | exact h | exact ChR.mono hle h
/-- What a run of the machine from m on comes to. -/
def XOk (P : Program) (n : Nat) (b : Frame) (c0 : List Frame) (k : List Item) (m : Machine) (μ : PM) (h : Hp) (w : World) : XR → Prop
  | .bad _ => True
  | .x e s' => ∃ μ' a' w' cs' e', Ext μ h w μ' s'.h w' ∧ SR P μ' n b.kind c0 s' a' cs' w' ∧ ER μ' e e' ∧ ArrivesIn I0 P m b k cs' e' a' w'
theorem XOk.of_steps {n : Nat} {b : Frame} {c0 : List Frame} {k : List Item} {m m1 : Machine} {μ μ1 : PM} {h h1 : Hp} {w w1 : World} {r : XR} (hs : StepsIn I0 P m m1) (hx : Ext μ h w μ1 h1 w1) (k2 : XOk P n b c0 k m1 μ1 h1 w1 r) : XOk P n b c0 k m μ h w r := by
  cases r with
  | bad _ => trivial
  | x e s' =>
    obtain ⟨μ', a', w', cs', e', g1, g2, g3, g4⟩ := k2
    exact ⟨μ', a', w', cs', e', hx.trans g1, g2, g3, .of_steps hs g4⟩

/-- Calls. -/
def COk (P : Program) (f : FuncId) (kind : CallKind) (c0 : List Frame) (m : Machine) (μ : PM) (h : Hp) (w : World) : CR → Prop
  | .bad _ => True
  | .ret v md h' => ∃ μ' w' cs' r fr, Ext μ h w μ' h' w' ∧ Rel P μ' h' w' ∧ VR μ' v r ∧ Cal μ' kind c0 md cs' ∧ StepsIn I0 P m (lone fr cs' w') ∧ fr.fn = f ∧ fr.kind = kind ∧ fr.going P w' (.returned r)
  | .pan c md h' => ∃ μ' w' cs' ch fr, Ext μ h w μ' h' w' ∧ Rel P μ' h' w' ∧ ChR μ' c ch ∧ Cal μ' kind c0 md cs' ∧ StepsIn I0 P m (lone fr cs' w') ∧ fr.fn = f ∧ fr.kind = kind ∧ fr.going P w' (.panicked ch)
/-- Rounds. -/
def ROk (P : Program) (ld : Loc) (rs : List Value) (c : Frame) (cs : List Frame) (μ : PM) (h : Hp) (w : World) : CR → Prop
  | .ret v _ h' => ∃ μ' w' r f tmps assign body, (Instr.yield ld.r rs.toArray).run P w = .ok (.round ld.r f tmps assign body) w ∧ Ext μ h w μ' h' w' ∧ Rel P μ' h' w' ∧ VR μ' v r ∧
      StepsIn I0 P (lone (Frame.round ld.r f tmps assign body .normal) (c :: cs) w) (lone (c.finish r) cs w')
  | .bad _ => True
  | .pan _ _ _ => False
def RndR (μ : PM) (b : Frame) : Option Nat → Prop
  | none => b.roundOf = none
  | some l => ∃ ld, μ l = some ld ∧ b.roundOf = some ld.r

structure EvOk (P : Program) (ev : Ev) : Prop where
  exec : ∀ (ctx : Ctx) (c : Code) (s : S) (μ : PM) (n : Nat) (b : Frame) (c0 cs : List Frame) (a : Act) (w : World) (k : List Item),
    SR P μ n b.kind c0 s a cs w → b.fn = ctx.fn → RndR μ b ctx.rnd → okCode P n c = true → XOk P n b c0 k (lone (b.atR a (.code c :: k)) cs w) μ s.h w (ev.exec ctx c s)
  call : ∀ (f : FuncId) (args : List V) (rs : List Value) (md : Option Md) (kind : CallKind) (μ : PM) (h : Hp) (w : World) (c0 cs : List Frame),
    Rel P μ h w → VRs μ args rs → Cal μ kind c0 md cs → COk P f kind c0 (lone (Frame.enter P f rs.toArray kind) cs w) μ h w (ev.call f args md h)
  round : ∀ (l : Nat) (args : List V) (rs : List Value) (ld : Loc) (μ : PM) (h : Hp) (w : World) (c : Frame) (cs : List Frame),
    Rel P μ h w → VRs μ args rs → μ l = some ld → ROk P ld rs c cs μ h w (ev.round l args h)
theorem evBad_ok (P : Program) : EvOk P evBad := ⟨fun _ _ _ _ _ _ _ _ _ _ _ _ _ _ _ => trivial, fun _ _ _ _ _ _ _ _ _ _ _ _ _ => trivial, fun _ _ _ _ _ _ _ _ _ _ _ _ => trivial⟩

/-! ### One operation of a region -/
section steps
variable {b : Frame} {k : List Item} {cs : List Frame} {ops : Array Oper} {i : Nat} {rest : List Nat} {o : Oper} {w' : World}
theorem fin_atR (ho : ops[i]? = some o) (v : Value) : (b.atR a (.inRegion ops (i :: rest) :: k)).finish v = b.atR (a.put o.dst v) (.inRegion ops rest :: k) := by
  rw [Frame.finish_atR, ho]; rfl
theorem step_val {r : Value} (ho : ops[i]? = some o) (hw : Region.wanted o (yielded ops a.tmps) = true) (hr : (o.semAt b.roundOf a.eval).run P w = .ok (.value r) w') :
    step P (lone (b.atR a (.inRegion ops (i :: rest) :: k)) cs w) = .next (lone (b.atR (a.put o.dst r) (.inRegion ops rest :: k)) cs w') :=
  step_lone_go (by rw [stepGR_op (P := P) (b := b) (k := k) (cs := cs) (w := w) (rest := rest) ho hw, ← fin_atR ho]; simp [stepG.apply, hr])
theorem step_skp (ho : ops[i]? = some o) (hw : Region.wanted o (yielded ops a.tmps) = true) (hr : (o.semAt b.roundOf a.eval).run P w = .ok .skip w') :
    step P (lone (b.atR a (.inRegion ops (i :: rest) :: k)) cs w) = .next (lone (b.atR (a.put o.dst undef) (.inRegion ops rest :: k)) cs w') :=
  step_lone_go (by rw [stepGR_op (P := P) (b := b) (k := k) (cs := cs) (w := w) (rest := rest) ho hw, ← fin_atR ho]; simp [stepG.apply, hr])
theorem step_dfr {d : Deferred} (ho : ops[i]? = some o) (hw : Region.wanted o (yielded ops a.tmps) = true) (hr : (o.semAt b.roundOf a.eval).run P w = .ok (.defer d) w') :
    step P (lone (b.atR a (.inRegion ops (i :: rest) :: k)) cs w) = .next (lone (b.atR ({ a with defers := d :: a.defers }.put o.dst undef) (.inRegion ops rest :: k)) cs w') :=
  step_lone_go (by
    have : ({ b.atR a (.inRegion ops (i :: rest) :: k) with defers := d :: a.defers } : Frame).finish undef =
        b.atR ({ a with defers := d :: a.defers }.put o.dst undef) (.inRegion ops rest :: k) := fin_atR (a := { a with defers := d :: a.defers }) ho undef
    rw [stepGR_op (P := P) (b := b) (k := k) (cs := cs) (w := w) (rest := rest) ho hw]
    simp only [stepG.apply, Sem.runT_eq, hr, GStep.bare_after]
    exact congrArg (fun fr => GStep.go { frame := fr, callers := cs, status := .running, dying := none } w') this)
theorem step_ent {f : FuncId} {args : Array Value} (ho : ops[i]? = some o) (hw : Region.wanted o (yielded ops a.tmps) = true) (hr : (o.semAt b.roundOf a.eval).run P w = .ok (.enter f args) w') :
    step P (lone (b.atR a (.inRegion ops (i :: rest) :: k)) cs w) = .next (lone (Frame.enter P f args .normal) (b.atR a (.inRegion ops (i :: rest) :: k) :: cs) w') :=
  step_lone_go (by rw [stepGR_op (P := P) (b := b) (k := k) (cs := cs) (w := w) (rest := rest) ho hw]; simp [stepG.apply, hr, Frame.atR])
theorem step_rnd {l : Nat} {f : FuncId} {tmps : Array Value} {assign body : Code} (ho : ops[i]? = some o) (hw : Region.wanted o (yielded ops a.tmps) = true) (hr : (o.semAt b.roundOf a.eval).run P w = .ok (.round l f tmps assign body) w') :
    step P (lone (b.atR a (.inRegion ops (i :: rest) :: k)) cs w) = .next (lone (Frame.round l f tmps assign body .normal) (b.atR a (.inRegion ops (i :: rest) :: k) :: cs) w') :=
  step_lone_go (by rw [stepGR_op (P := P) (b := b) (k := k) (cs := cs) (w := w) (rest := rest) ho hw]; simp [stepG.apply, hr, Frame.atR])
theorem step_pan {v : Value} (ho : ops[i]? = some o) (hw : Region.wanted o (yielded ops a.tmps) = true) (hr : (o.semAt b.roundOf a.eval).run P w = .halt (.panic v) w') :
    step P (lone (b.atR a (.inRegion ops (i :: rest) :: k)) cs w) = .next (lone { b.atR a (.inRegion ops (i :: rest) :: k) with mode := .panicking [{ v, recovered := false }] } cs w') :=
  step_lone_go (by rw [stepGR_op (P := P) (b := b) (k := k) (cs := cs) (w := w) (rest := rest) ho hw, ← Frame.raise_atR]; simp [stepG.apply, hr])
theorem step_rec (hk : b.kind = .deferred) (hn : b.roundOf = none) (ho : ops[i]? = some o) (hw : Region.wanted o (yielded ops a.tmps) = true) (hr : (o.semAt b.roundOf a.eval).run P w = .ok .recover w') :
    step P (lone (b.atR a (.inRegion ops (i :: rest) :: k)) cs w) = .next (match recoverD cs with
      | some (v, cs') => lone (b.atR (a.put o.dst v) (.inRegion ops rest :: k)) cs' w'
      | none => lone (b.atR (a.put o.dst .nilIface) (.inRegion ops rest :: k)) cs w') := by
  have hk' : (b.atR a (.inRegion ops (i :: rest) :: k)).kind = .deferred := hk
  have htr := tryRecover_deferred hk' cs
  have hg := stepGR_op (P := P) (b := b) (k := k) (cs := cs) (w := w) (rest := rest) ho hw
  cases hrec : recoverD cs with
  | none =>
    refine step_lone_go ?_
    rw [hg, ← fin_atR ho]
    rw [hn] at hr
    simp only [Frame.atR, hn] at htr ⊢
    simp [stepG.apply, hr, htr, hrec]
  | some p =>
    obtain ⟨v, cs'⟩ := p
    refine step_lone_go ?_
    rw [hg, ← fin_atR ho]
    rw [hn] at hr
    simp only [Frame.atR, hn] at htr ⊢
    simp [stepG.apply, hr, htr, hrec]
end steps

theorem wanted_eq {n : Nat} (hF : FR μ F n a.tmps) {ops : Array Oper} (hd : ∀ o ∈ ops, ∀ d, o.dst = some d → d < n) (o : Oper) : wantedV ops F o = Region.wanted o (yielded ops a.tmps) := by
  unfold wantedV Region.wanted
  cases o.guard with
  | none => rfl
  | some g =>
    obtain ⟨j, want⟩ := g
    dsimp only
    unfold yielded
    cases hj : ops[j]? with
    | none => simp
    | some p =>
      cases hp : p.dst with
      | none => simp [hp]
      | some d =>
        have hdn := hd p (Array.mem_of_getElem? hj) d hp
        have hv := hF.2 d hdn
        have hlt : d < a.tmps.size := by rw [hF.1]; exact hdn
        simp only [Option.bind_some, hp, Option.map_some, Array.getElem?_eq_getElem hlt]
        simp only [Array.getD_eq_getD_getElem?, Array.getElem?_eq_getElem hlt, Option.getD_some] at hv
        cases hg : F.get (Pos.of d) with
        | none =>
          rw [hg] at hv
          simp only [Option.getD_none, vundef] at hv
          generalize a.tmps[d] = r at hv ⊢
          cases hv with | tuple hl => cases hl; rfl
        | some v =>
          rw [hg] at hv
          simp only [Option.getD_some] at hv
          generalize a.tmps[d] = r at hv ⊢
          cases hv <;> first | rfl | (simp; done)
theorem opV_sound (hE : ExtOk P) (hN : NumOk P) (R : Rel P μ h w) {o : Oper} (ok : OpOk P μ F a o) : OutR P μ h w (execOp a.eval o) (opV P F h o) := by
  unfold opV
  split
  · split
    · rename_i ob f hf
      obtain ⟨obj, cap, r, h1, h2, h3⟩ := alloc_sound ok hf
      obtain ⟨g1, g2⟩ := new_sound R obj ob cap (h3 w _ (PM.le_add _ R.dom))
      exact ⟨_, _, _, h1 w, g2, g1, h2 _ _ _ (PM.add_same _ _ _)⟩
    · trivial
  · exact eff_sound hE hN R ok
  · split
    · rename_i v hv
      obtain ⟨r, h1, h2⟩ := pure_sound ok hv
      exact ⟨r, w, μ, h2 w, .refl _ _ _, R, h1⟩
    · split
      · rename_i v hv
        obtain ⟨r, h1, h2⟩ := read_sound R ok hv
        exact ⟨r, w, μ, h2, .refl _ _ _, R, h1⟩
      · exact eff_sound hE hN R ok
theorem opV_dfr {o : Oper} {c : Call} (ho : o.op = .defer c) : (∃ y, opV P F h o = .bad y) ∨ ∃ d, opV P F h o = .defer d := by
  have hk : kindO o = .ef := by unfold kindO; rw [ho]
  unfold opV
  rw [hk]
  dsimp only
  unfold effV
  rw [ho]
  dsimp only
  split
  · split
    · exact .inr ⟨_, rfl⟩
    · exact .inl ⟨_, rfl⟩
  · exact .inl ⟨_, rfl⟩

theorem RndR.mono {μ ν : PM} (hle : μ.le ν) {b : Frame} {rnd : Option Nat} (h : RndR μ b rnd) : RndR ν b rnd := by
  cases rnd with
  | none => exact h
  | some l => obtain ⟨ld, h1, h2⟩ := h; exact ⟨ld, hle _ _ h1, h2⟩
theorem put_defers (a : Act) (d : Option Tmp) (v : Value) : (a.put d v).defers = a.defers := by cases d <;> rfl
theorem SR.put {n : Nat} {kind : CallKind} {c0 cs : List Frame} {s : S} {μ' : PM} {h' : Hp} {w' : World} (k : SR P μ n kind c0 s a cs w) (hx : Ext μ s.h w μ' h' w') (R : Rel P μ' h' w') (d : Option Tmp) {v : V} {r : Value} (hv : VR μ' v r) :
    SR P μ' n kind c0 { s with F := setO d v s.F, h := h' } (a.put d r) cs w' :=
  ⟨R, (k.fr.mono hx.le).put d hv, by rw [put_defers]; exact k.df.mono hx.le, k.cal.mono hx.le⟩
theorem Cal.normal_inv {kind : CallKind} {c0 cs : List Frame} {md : Option Md} (h : Cal μ kind c0 md cs) (hk : kind = .normal) : cs = c0 := by
  cases h with
  | none _ => rfl
  | some h1 _ => rw [hk] at h1; cases h1
theorem going_leaving {fr : Frame} {w : World} {e : Ending} (hk : fr.kind = .normal) (hg : fr.going P w e) : fr.leaving P w e := by
  cases e with
  | returned v => obtain ⟨h1, h2, fn, h3, h4⟩ := hg; exact ⟨h1, h2, hk, fn, h3, h4⟩
  | panicked ch => exact hg
  | outgrown => trivial

theorem ops_sound {ev : Ev} (hev : EvOk P ev) (hE : ExtOk P) (hN : NumOk P) {ops : Array Oper} {n : Nat} {b : Frame} {c0 : List Frame} {k : List Item} {rnd : Option Nat} (hok : ∀ o ∈ ops, okOp P n o = true) :
    ∀ (l : List Oper) (i : Nat), ops.toList.drop i = l → ∀ (s : S) (μ : PM) (a : Act) (cs : List Frame) (w : World), SR P μ n b.kind c0 s a cs w → RndR μ b rnd →
      XOk P n b c0 k (lone (b.atR a (.inRegion ops (List.range' i l.length) :: k)) cs w) μ s.h w (opsV P ev rnd ops l s)
  | [], i, hl, s, μ, a, cs, w, hs, hr => by
    refine ⟨μ, a, w, cs, .normal, .refl _ _ _, hs, trivial, ?_⟩
    exact .one trivial stepR_region_end
  | o :: rest, i, hl, s, μ, a, cs, w, hs, hr => by
    have hi : ops[i]? = some o := by
      have : ops.toList[i]? = some o := by
        have := List.getElem?_drop (xs := ops.toList) (i := i) (j := 0)
        rw [hl] at this
        simpa using this.symm
      rwa [Array.getElem?_toList] at this
    have hrest : ops.toList.drop (i + 1) = rest := by
      rw [← List.drop_drop (i := 1) (j := i), hl]
      rfl
    have hmem : o ∈ ops := Array.mem_of_getElem? hi
    have hoo := hok o hmem
    have hOp : OpOk P μ s.F a o := okOp_op hs.rel hs.fr hoo
    have hdst : ∀ o ∈ ops, ∀ d, o.dst = some d → d < n := fun o ho d hd => by
      have := hok o ho
      unfold okOp at this
      simp only [Bool.and_eq_true] at this
      have := this.1.1.1
      rw [hd] at this
      simpa using this
    have hwt := wanted_eq hs.fr hdst o
    rw [List.length_cons, List.range'_succ]
    unfold opsV
    rw [hwt]
    have IH := fun (s' : S) (μ' : PM) (a' : Act) (cs' : List Frame) (w' : World) => ops_sound hev hE hN (b := b) (c0 := c0) (k := k) (rnd := rnd) hok rest (i + 1) hrest s' μ' a' cs' w'
    split
    · rename_i hw
      have hout := opV_sound hE hN hs.rel hOp
      have hsem : (∀ c, o.op ≠ .defer c) → o.semAt b.roundOf a.eval = execOp a.eval o := fun hnd => Oper.semAt_eq _ _ _ hnd
      have hnd : (∀ y, opV P s.F s.h o ≠ .bad y) → (∀ d, opV P s.F s.h o ≠ .defer d) → ∀ c, o.op ≠ .defer c := fun h1 h2 c hc => by
        rcases opV_dfr (P := P) (F := s.F) (h := s.h) hc with ⟨y, hy⟩ | ⟨d, hd⟩
        · exact h1 y hy
        · exact h2 d hd
      cases hov : opV P s.F s.h o with
      | bad y => trivial
      | val v h' =>
        rw [hov] at hout hnd
        obtain ⟨r, w', μ', g1, g2, g3, g4⟩ := hout
        have he := hsem (hnd (fun _ h => by cases h) (fun _ h => by cases h))
        exact .of_steps (.one trivial (step_val hi hw (by rw [he]; exact g1))) g2 (IH _ μ' _ cs w' (hs.put g2 g3 o.dst g4) (hr.mono g2.le))
      | skip h' =>
        rw [hov] at hout hnd
        obtain ⟨w', μ', g1, g2, g3⟩ := hout
        have he := hsem (hnd (fun _ h => by cases h) (fun _ h => by cases h))
        exact .of_steps (.one trivial (step_skp hi hw (by rw [he]; exact g1))) g2 (IH _ μ' _ cs w' (hs.put g2 g3 o.dst vr_undef) (hr.mono g2.le))
      | enter f args =>
        rw [hov] at hout hnd
        obtain ⟨rs, g1, g2⟩ := hout
        have he := hsem (hnd (fun _ h => by cases h) (fun _ h => by cases h))
        have hst := step_ent (P := P) (b := b) (k := k) (cs := cs) (rest := List.range' (i + 1) rest.length) hi hw (by rw [he]; exact g2)
        have hcall := hev.call f args rs none .normal μ s.h w (b.atR a (.inRegion ops (i :: List.range' (i + 1) rest.length) :: k) :: cs) (b.atR a (.inRegion ops (i :: List.range' (i + 1) rest.length) :: k) :: cs) hs.rel g1 (.none rfl)
        dsimp only
        cases hcr : ev.call f args none s.h with
        | bad y => trivial
        | ret v md h' =>
          rw [hcr] at hcall
          obtain ⟨μ', w', cs', r, fr, k1, k2, k3, k4, k5, k6, k7, k8⟩ := hcall
          obtain rfl := k4.normal_inv rfl
          have hlv := step_leave_returned (P := P) (c := b.atR a (.inRegion ops (i :: List.range' (i + 1) rest.length) :: k)) (cs := cs) (going_leaving k7 k8)
          rw [fin_atR hi] at hlv
          exact .of_steps (.head trivial hst (k5.trans (.one trivial hlv))) k1 (IH _ μ' _ cs w' (hs.put k1 k2 o.dst k3) (hr.mono k1.le))
        | pan c md h' =>
          rw [hcr] at hcall
          obtain ⟨μ', w', cs', ch, fr, k1, k2, k3, k4, k5, k6, k7, k8⟩ := hcall
          obtain rfl := k4.normal_inv rfl
          have hlv := step_leave_panicked (P := P) (c := b.atR a (.inRegion ops (i :: List.range' (i + 1) rest.length) :: k)) (cs := cs) (going_leaving k7 k8)
          rw [Frame.raise_atR] at hlv
          exact ⟨μ', a, w', cs, .panic ch, k1, ⟨k2, hs.fr.mono k1.le, hs.df.mono k1.le, hs.cal.mono k1.le⟩, k3, _, .head trivial hst (k5.trans (.one trivial hlv))⟩
      | round l args =>
        rw [hov] at hout hnd
        obtain ⟨ld, rs, g0, g1, g2⟩ := hout
        have he := hsem (hnd (fun _ h => by cases h) (fun _ h => by cases h))
        have hround := hev.round l args rs ld μ s.h w (b.atR a (.inRegion ops (i :: List.range' (i + 1) rest.length) :: k)) cs hs.rel g1 g0
        dsimp only
        cases hcr : ev.round l args s.h with
        | bad y => trivial
        | ret v md h' =>
          rw [hcr] at hround
          obtain ⟨μ', w', r, f, tmps, assign, body, k0, k1, k2, k3, k4⟩ := hround
          have hst := step_rnd (P := P) (b := b) (k := k) (cs := cs) (rest := List.range' (i + 1) rest.length) hi hw (by rw [he, g2]; exact k0)
          rw [fin_atR hi] at k4
          exact .of_steps (.head trivial hst k4) k1 (IH _ μ' _ cs w' (hs.put k1 k2 o.dst k3) (hr.mono k1.le))
        | pan c md h' => rw [hcr] at hround; exact hround.elim
      | panic v =>
        rw [hov] at hout hnd
        obtain ⟨r, g1, g2⟩ := hout
        have he := hsem (hnd (fun _ h => by cases h) (fun _ h => by cases h))
        exact ⟨μ, a, w, cs, .panic [{ v := r, recovered := false }], .refl _ _ _, hs, ⟨g1, rfl, rfl, trivial⟩, _, .one trivial (step_pan hi hw (by rw [he]; exact g2))⟩
      | defer d =>
        rw [hov] at hout
        obtain ⟨r, g1, g2⟩ := hout
        dsimp only
        cases rnd with
        | some l => trivial
        | none =>
          have hro : b.roundOf = none := hr
          have hst := step_dfr (P := P) (b := b) (k := k) (cs := cs) (rest := List.range' (i + 1) rest.length) hi hw (by rw [hro, Oper.semAt_none]; exact g2)
          refine .of_steps (.one trivial hst) (.refl _ _ _) (IH _ μ _ cs w ⟨hs.rel, ?_, ?_, hs.cal⟩ hr)
          · exact FR.put (a := { a with defers := r :: a.defers }) hs.fr o.dst vr_undef
          · rw [put_defers]; exact ⟨g1, hs.df⟩
      | recover =>
        rw [hov] at hout hnd
        have he := hsem (hnd (fun _ h => by cases h) (fun _ h => by cases h))
        dsimp only
        cases rnd with
        | some l => trivial
        | none =>
          have hro : b.roundOf = none := hr
          have hcal := hs.cal
          have mdEta : ∀ md, s.md = md → s = { s with md := md } := fun md h => by subst h; rfl
          cases hmd : s.md with
          | none => simp only [Option.isSome_none, Bool.false_eq_true, if_false]; trivial
          | some u =>
            rw [hmd] at hcal
            cases hcal with
            | @some cf rst _ m hk hm =>
            have hst := step_rec (P := P) (b := b) (k := k) (cs := { cf with mode := m } :: rst) (rest := List.range' (i + 1) rest.length) hk hro hi hw (by rw [he]; exact hout)
            have quiet : recoverD ({ cf with mode := m } :: rst) = none → XOk P n b (cf :: rst) k (lone (b.atR a (.inRegion ops (i :: List.range' (i + 1) rest.length) :: k)) ({ cf with mode := m } :: rst) w) μ s.h w (opsV P ev none ops rest { F := setO o.dst .nilIface s.F, ds := s.ds, md := some u, h := s.h }) := fun hn => by
              rw [hn] at hst
              have h2 := IH _ μ _ _ w (hs.put (.refl _ _ _) hs.rel o.dst .nilIface) hr
              simp only [hmd] at h2
              exact .of_steps (.one trivial hst) (.refl _ _ _) h2
            simp only [Option.isSome_none, Bool.false_eq_true, if_false]
            cases u with
            | returning =>
              cases m with
              | returning => exact quiet rfl
              | _ => exact hm.elim
            | panicking c =>
              cases m with
              | panicking ch =>
                cases c with
                | nil =>
                  cases ch with
                  | nil => exact quiet rfl
                  | cons _ _ => exact hm.elim
                | cons p c =>
                  obtain ⟨v, bb⟩ := p
                  cases ch with
                  | nil => exact hm.elim
                  | cons e ch =>
                    obtain ⟨ev', er, eg⟩ := e
                    obtain ⟨m1, m2, m3, m4⟩ := hm
                    simp only at m1 m2 m3
                    subst m2 m3
                    cases er with
                    | true => exact quiet rfl
                    | false =>
                      have hrec : recoverD ({ cf with mode := .panicking ({ v := ev', recovered := false, goexit := false } :: ch) } :: rst) = some (ev', { cf with mode := .panicking ({ v := ev', recovered := true } :: ch) } :: rst) := rfl
                      rw [hrec] at hst
                      exact .of_steps (.one trivial hst) (.refl _ _ _) (IH _ μ _ _ w ⟨hs.rel, hs.fr.put o.dst m1, by rw [put_defers]; exact hs.df, .some hk ⟨m1, rfl, rfl, m4⟩⟩ hr)
              | _ => exact hm.elim
    · rename_i hw
      have hst := stepR_op_skip (P := P) (b := b) (a := a) (k := k) (cs := cs) (w := w) (ops := ops) (i := i) (rest := List.range' (i + 1) rest.length) (by
        rw [hi]; simp only [Option.map_some, Option.getD_some]; simpa using hw)
      rw [hi] at hst
      simp only [Option.bind_some] at hst
      exact .of_steps (.one trivial hst) (.refl _ _ _) (IH _ μ _ cs w (hs.put (.refl _ _ _) hs.rel o.dst vr_undef) hr)
end Go.Vm
/- Calls: how a frame leaves. -/
namespace Go.Vm
open Go.RowKit

variable {P : Program} {μ : PM} {h : Hp} {w : World} {F : Frm} {a : Act}

theorem results_list (R : Rel P μ h w) {n : Nat} {tmps : Array Value} (hF : FR μ F n tmps) : ∀ (l : List ResultVar) (vs : List V), resultsV P F h l = some vs →
    (∀ r ∈ l, match r with | .tmp t => t < n | .cell a t => a < n ∧ wfT P t = true) →
    ∃ rs, VRs μ vs rs ∧ (l.mapM (fun | .tmp t => Pure.pure (tmps.getD t undef) | .cell a t => do loadVar t (← asAddr (tmps.getD a undef)) : ResultVar → Sem Value)).run P w = .ok rs w
  | [], vs, hv, _ => by
    simp only [resultsV, Option.some.injEq] at hv
    subst hv
    exact ⟨[], .nil, rfl⟩
  | r :: l, vs, hv, hok => by
    simp only [resultsV] at hv
    split at hv
    · rename_i v vs' h1 h2
      simp only [Option.some.injEq] at hv
      subst hv
      obtain ⟨rs, g1, g2⟩ := results_list R hF l vs' h2 (fun r hr => hok r (List.mem_cons_of_mem _ hr))
      have hr := hok r List.mem_cons_self
      cases r with
      | tmp t =>
        simp only [Option.some.injEq] at h1
        subst h1
        refine ⟨_, .cons (hF.2 t hr) g1, ?_⟩
        rw [List.mapM_cons]
        simp only [Sem.run_bind, Sem.run_pure, Result.andThen_ok]
        rw [g2]
        rfl
      | cell x t =>
        simp only at h1 hr
        split at h1
        · rename_i b o hx
          have hxv := hF.2 x hr.1
          rw [hx] at hxv
          simp only [Option.getD_some] at hxv
          obtain ⟨d, hd⟩ := wf_und hr.2
          generalize hX : tmps.getD x undef = X at hxv
          cases hxv with | @ptr _ _ ld hb =>
          obtain ⟨r', k1, k2⟩ := loadVar_sound R ⟨d, hd⟩ hb h1
          refine ⟨_, .cons k1 g1, ?_⟩
          rw [List.mapM_cons]
          simp only [Sem.run_bind, hX]
          rw [show (asAddr (.pointer (some ⟨ld.r, ld.off + o, none⟩))).run P w = .ok ⟨ld.r, ld.off + o, none⟩ w from rfl]
          simp only [Result.andThen_ok]
          rw [k2]
          simp only [Result.andThen_ok, Sem.run_bind]
          rw [g2]
          rfl
        · cases h1
    · cases hv
theorem results_sound (R : Rel P μ h w) {n : Nat} {tmps : Array Value} (hF : FR μ F n tmps) {fn : Func} {vs : List V} (hv : resultsV P F h fn.results.toList = some vs)
    (hok : ∀ r ∈ fn.results.toList, match r with | .tmp t => t < n | .cell a t => a < n ∧ wfT P t = true) :
    ∃ r, VR μ (match vs with | [v] => v | l => .tuple l) r ∧ (results fn tmps).run P w = .ok r w := by
  obtain ⟨rs, h1, h2⟩ := results_list R hF fn.results.toList vs hv hok
  refine ⟨if h : rs.toArray.size = 1 then rs.toArray[0] else .tuple rs.toArray, ?_, ?_⟩
  · cases h1 with
    | nil => exact .tuple .nil
    | cons a t =>
      cases t with
      | nil => simpa using a
      | cons b t =>
        simp
        exact .tuple (.cons a (.cons b t))
  · unfold results
    rw [Array.mapM_eq_mapM_toList, Sem.run_bind, map_eq_pure_bind, Sem.run_bind]
    exact Eq.trans (congrArg (fun x : Result (List Value) => ((x.andThen fun a w' => Sem.run P (Pure.pure a.toArray) w').andThen fun a w' => Sem.run P (Pure.pure (if h : a.size = 1 then a[0] else Value.tuple a)) w')) h2) rfl

theorem settle_sound {u : Md} {m : FrameMode} (hm : MR μ u m) : MR μ (settleV u) (settle m) := by
  have drop : ∀ {l : List PE} {q : List PanicEntry}, ChR μ l q → q.dropWhile (!·.goexit) = [] := by
    intro l
    induction l with
    | nil => intro q hq; cases q with | nil => rfl | cons _ _ => exact hq.elim
    | cons p l ih =>
      intro q hq
      obtain ⟨v, b⟩ := p
      cases q with
      | nil => exact hq.elim
      | cons e q =>
        rw [List.dropWhile_cons, if_pos (by rw [hq.2.2.1]; rfl)]
        exact ih hq.2.2.2
  cases u with
  | returning =>
    cases m with
    | returning => exact trivial
    | _ => exact hm.elim
  | panicking c =>
    cases m with
    | panicking ch =>
      cases c with
      | nil => cases ch with | nil => exact trivial | cons _ _ => exact hm.elim
      | cons p c =>
        obtain ⟨v, b⟩ := p
        cases ch with
        | nil => exact hm.elim
        | cons e ch =>
          obtain ⟨ev, er, eg⟩ := e
          obtain ⟨m1, m2, m3, m4⟩ := hm
          simp only at m2
          subst m2
          cases er with
          | true =>
            simp only [settle, drop m4]
            exact trivial
          | false => exact ⟨m1, rfl, m3, m4⟩
    | _ => exact hm.elim
theorem ChR.append : ∀ {l l2 : List PE} {m m2 : List PanicEntry}, ChR μ l m → ChR μ l2 m2 → ChR μ (l ++ l2) (m ++ m2)
  | [], _, [], _, _, h2 => h2
  | (_, _) :: _, _, _ :: _, _, h1, h2 => ⟨h1.1, h1.2.1, h1.2.2.1, ChR.append h1.2.2.2 h2⟩
  | [], _, _ :: _, _, h, _ => h.elim
  | (_, _) :: _, _, [], _, h, _ => h.elim
theorem raised_sound {u : Md} {m : FrameMode} {c : List PE} {ch : List PanicEntry} (hm : MR μ u m) (hc : ChR μ c ch) : MR μ (raisedV u c) (raised m ch) := by
  cases u with
  | returning =>
    cases m with
    | returning => exact hc
    | _ => exact hm.elim
  | panicking o =>
    cases m with
    | panicking q => exact ChR.append hc hm
    | _ => exact hm.elim

/-! ### How a frame leaves -/
theorem COk.of_steps {f : FuncId} {kind : CallKind} {c0 : List Frame} {m m1 : Machine} {μ1 : PM} {h1 : Hp} {w1 : World} {r : CR} (hs : StepsIn I0 P m m1) (hx : Ext μ h w μ1 h1 w1) (k : COk P f kind c0 m1 μ1 h1 w1 r) : COk P f kind c0 m μ h w r := by
  cases r with
  | bad _ => trivial
  | ret v md h' =>
    obtain ⟨μ', w', cs', r, fr, k1, k2, k3, k4, k5, k6⟩ := k
    exact ⟨μ', w', cs', r, fr, hx.trans k1, k2, k3, k4, hs.trans k5, k6⟩
  | pan c md h' =>
    obtain ⟨μ', w', cs', r, fr, k1, k2, k3, k4, k5, k6⟩ := k
    exact ⟨μ', w', cs', r, fr, hx.trans k1, k2, k3, k4, hs.trans k5, k6⟩
theorem DsR.nil_inv {l : List Deferred} (h : DsR μ [] l) : l = [] := by cases l with | nil => rfl | cons _ _ => exact h.elim
theorem take_sound (R : Rel P μ h w) {b : Nat} {l : Loc} (hb : μ b = some l) (hg : h.get b = some (.deferred true)) :
    ∃ w', (Instr.takeDeferred l.r).run P w = .ok [] w' ∧ Ext μ h w μ (h.put b (.deferred false)) w' ∧ Rel P μ (h.put b (.deferred false)) w' := by
  obtain ⟨o, ho, hR⟩ := R.ob b l hb
  rw [hg] at ho; cases ho
  have hR' : w.heap[l.r]? = some (.deferred (some [])) := hR
  obtain ⟨x1, x2⟩ := setObj_sound R hb (by rw [hg]; trivial) _ (.deferred none) (.deferred false) hR' (fun w' hw' => hw')
  refine ⟨_, ?_, x1, x2⟩
  simp [Instr.takeDeferred, getObj, setObj, Sem.run, hR']

theorem leave_sound {ev : Ev} (hev : EvOk P ev) (hN : NumOk P) {fn : Func} {f : FuncId} {n : Nat} {kind : CallKind} {c0 : List Frame} {omd : Option Md} {F : Frm} (hf : P.funcs[f]? = some fn)
    (hok : ∀ r ∈ fn.results.toList, match r with | .tmp t => t < n | .cell a t => a < n ∧ wfT P t = true) :
    ∀ (ds : List Dfr) (u : Md) (h : Hp) (μ : PM) (w : World) (fr : Frame) (cs : List Frame), Rel P μ h w → FR μ F n fr.tmps → DsR μ ds fr.defers → MR μ u fr.mode → fr.fn = f → fr.kind = kind → Cal μ kind c0 omd cs →
      COk P f kind c0 (lone fr cs w) μ h w (leaveV P ev fn F omd ds u h)
  | [], .returning, h, μ, w, fr, cs, R, hF, hd, hm, hfn, hk, hc => by
    have hm' : fr.mode = .returning := by cases hq : fr.mode <;> rw [hq] at hm <;> first | rfl | exact hm.elim
    unfold leaveV
    split
    · rename_i v hv
      obtain ⟨r, g1, g2⟩ := results_sound R hF hv hok
      exact ⟨μ, w, cs, r, fr, .refl _ _ _, R, g1, hc, .refl _, hfn, hk, hm', hd.nil_inv, fn, by rw [hfn]; exact hf, g2⟩
    · rename_i l hl1 hl
      obtain ⟨r, g1, g2⟩ := results_sound R hF hl hok
      refine ⟨μ, w, cs, r, fr, .refl _ _ _, R, ?_, hc, .refl _, hfn, hk, hm', hd.nil_inv, fn, by rw [hfn]; exact hf, g2⟩
      cases l with
      | nil => exact g1
      | cons x l => cases l with
        | nil => exact (hl1 x rfl).elim
        | cons y l => exact g1
    · trivial
  | [], .panicking c, h, μ, w, fr, cs, R, hF, hd, hm, hfn, hk, hc => by
    unfold leaveV
    cases hq : fr.mode with
    | panicking ch =>
      rw [hq] at hm
      exact ⟨μ, w, cs, ch, fr, .refl _ _ _, R, hm, hc, .refl _, hfn, hk, hq, hd.nil_inv, fn, by rw [hfn]; exact hf⟩
    | _ => rw [hq] at hm; exact hm.elim
  | .mark b :: ds, u, h, μ, w, fr, cs, R, hF, hd, hm, hfn, hk, hc => by
    have hrun : fr.mode ≠ .run := fun hq => by rw [hq] at hm; cases u <;> exact hm.elim
    unfold leaveV
    split
    · rename_i hg
      cases hds : fr.defers with
      | nil => rw [hds] at hd; exact hd.elim
      | cons d rest =>
        rw [hds] at hd
        obtain ⟨⟨l, hb, rfl⟩, hd2⟩ := hd
        obtain ⟨w', g1, g2, g3⟩ := take_sound R hb hg
        have hst := step_collected (P := P) (cs := cs) hrun hds rfl g1
        have IH := leave_sound hev hN (n := n) (kind := kind) (c0 := c0) (omd := omd) (F := F) hf hok ds u _ μ w' { fr with defers := [] ++ rest } cs g3 hF hd2 hm hfn hk hc
        exact COk.of_steps (.one trivial hst) g2 IH
    · trivial
  | .fn g args :: ds, u, h, μ, w, fr, cs, R, hF, hd, hm, hfn, hk, hc => by
    have hrun : fr.mode ≠ .run := fun hq => by rw [hq] at hm; cases u <;> exact hm.elim
    unfold leaveV
    split
    · trivial
    · rename_i hbody
      cases hds : fr.defers with
      | nil => rw [hds] at hd; exact hd.elim
      | cons d rest =>
        rw [hds] at hd
        obtain ⟨⟨rs, hargs, first, caps, rfl, rfl⟩, hd2⟩ := hd
        have hinv : (invoke (.fn (.func g) caps.toArray) first.toArray).run P w = .ok (.enter g (first ++ caps).toArray) w := by
          simp only [Bool.not_eq_true, Bool.not_eq_false', Bool.not_eq_eq_eq_not, Bool.not_true, Bool.not_eq_false, Option.isSome_iff_exists, Option.bind_eq_some_iff] at hbody
          obtain ⟨c, gn, hgn, hgb⟩ := hbody
          have hn := hN g gn hgn
          simp [invoke, callFunc, hgn, hn, hgb]
        have hst := step_defer (P := P) (cs := cs) hrun hds rfl hinv
        have hcall := hev.call g args (first ++ caps) (some u) .deferred μ h w ({ fr with defers := rest } :: cs) ({ { fr with defers := rest } with mode := fr.mode } :: cs) R hargs (.some rfl hm)
        cases hcr : ev.call g args (some u) h with
        | bad y => trivial
        | ret v md h' =>
          rw [hcr] at hcall
          obtain ⟨μ', w', cs', r, fx, k1, k2, k3, k4, k5, k6, k7, k8⟩ := hcall
          cases k4 with
          | none hk' => cases hk'
          | @some _ _ u' m' hk' hm' =>
            have h2 := step_going_returned (P := P) (c := { { fr with defers := rest } with mode := m' }) (cs := cs) k7 k8
            have IH := leave_sound hev hN (n := n) (kind := kind) (c0 := c0) (omd := omd) (F := F) hf hok ds (settleV u') h' μ' w' { { { fr with defers := rest } with mode := m' } with mode := settle m' } cs k2 (hF.mono k1.le) (hd2.mono k1.le) (settle_sound hm') hfn hk (hc.mono k1.le)
            exact COk.of_steps (.head trivial hst (k5.trans (.one trivial h2))) k1 IH
        | pan c md h' =>
          rw [hcr] at hcall
          obtain ⟨μ', w', cs', ch, fx, k1, k2, k3, k4, k5, k6, k7, k8⟩ := hcall
          cases k4 with
          | none hk' => cases hk'
          | @some _ _ u' m' hk' hm' =>
            have h2 := step_going_panicked (P := P) (c := { { fr with defers := rest } with mode := m' }) (cs := cs) k8
            have IH := leave_sound hev hN (n := n) (kind := kind) (c0 := c0) (omd := omd) (F := F) hf hok ds (raisedV u' c) h' μ' w' { { { fr with defers := rest } with mode := m' } with mode := raised m' ch } cs k2 (hF.mono k1.le) (hd2.mono k1.le) (raised_sound hm' k3) hfn hk (hc.mono k1.le)
            exact COk.of_steps (.head trivial hst (k5.trans (.one trivial h2))) k1 IH

/-! ### A call -/
theorem setArgs_get : ∀ (l : List V) (i : Nat) (F : Frm) (j : Nat), (setArgs l i F).get (Pos.of j) = if i ≤ j ∧ j < i + l.length then l[j - i]? else F.get (Pos.of j)
  | [], i, F, j => by rw [setArgs, if_neg (by simp)]
  | v :: l, i, F, j => by
    rw [setArgs, setArgs_get l (i + 1)]
    simp only [List.length_cons]
    by_cases hj : j = i
    · subst hj
      rw [if_neg (by omega), if_pos (by omega), T.get_set_same]
      simp
    · by_cases h1 : i + 1 ≤ j ∧ j < i + 1 + l.length
      · rw [if_pos h1, if_pos (by omega), show j - i = (j - (i + 1)) + 1 by omega]; rfl
      · rw [if_neg h1, if_neg (by omega), T.get_set_ne (fun e => hj (Pos.of_inj e).symm)]
theorem enter_fr {args : List V} {rs : List Value} (ha : VRs μ args rs) {n : Nat} (hn : args.length ≤ n) : FR μ (setArgs args 0 .nil) n (rs.toArray ++ Array.replicate (n - rs.toArray.size) undef) := by
  have hl := ha.length
  refine ⟨by simp; omega, fun i hi => ?_⟩
  rw [setArgs_get]
  simp only [Nat.zero_le, true_and, Nat.zero_add, Nat.sub_zero, Array.getD_eq_getD_getElem?]
  by_cases h1 : i < args.length
  · rw [if_pos h1, List.getElem?_eq_getElem h1]
    obtain ⟨r, g1, g2⟩ := ha.get (List.getElem?_eq_getElem h1)
    rw [Array.getElem?_append_left (by simp; omega)]
    simp only [List.getElem?_toArray, g1, Option.getD_some]
    exact g2
  · rw [if_neg h1, T.get_nil]
    rw [Array.getElem?_append_right (by simp; omega)]
    simp only [List.size_toArray, Array.getElem?_replicate]
    rw [if_pos (by omega)]
    exact vr_undef
/-- slices.Insert of one int: taken as told. -/
def InsOk (P : Program) (ins : FuncId → Bool) : Prop := ∀ (f : FuncId) (fn : Func) (args : List V) (rs : List Value) (μ : PM) (h h' : Hp) (v : V) (w : World) (cs : List Frame), P.funcs[f]? = some fn → ins f = true →
  Rel P μ h w → VRs μ args rs → insertV P (elemP P fn) h args = .val v h' → COk P f .normal cs (lone (Frame.enter P f rs.toArray .normal) cs w) μ h w (.ret v none h')
structure FnsOk (P : Program) (X : Fns) : Prop where
  ok : ∀ f, X.ok f = true → okFn P f = true
  ins : InsOk P X.ins
  sum : ∀ (f : FuncId) (args : List V) (md : Option Md) (h : Hp) (r : CR), X.sum f args md h = some r → ∀ (rs : List Value) (kind : CallKind) (μ : PM) (w : World) (c0 cs : List Frame),
    Rel P μ h w → VRs μ args rs → Cal μ kind c0 md cs → COk P f kind c0 (lone (Frame.enter P f rs.toArray kind) cs w) μ h w r
theorem callB_sound {ev : Ev} {X : Fns} (hev : EvOk P ev) (hN : NumOk P) (hI : FnsOk P X) (f : FuncId) (args : List V) (rs : List Value) (md : Option Md) (kind : CallKind) (μ : PM) (h : Hp) (w : World) (c0 cs : List Frame)
    (R : Rel P μ h w) (ha : VRs μ args rs) (hc : Cal μ kind c0 md cs) : COk P f kind c0 (lone (Frame.enter P f rs.toArray kind) cs w) μ h w (callB P X ev f args md h) := by
  unfold callB
  split
  · rename_i fn hf
    split
    · rename_i hname
      split
      · rename_i v h' hv
        cases hc with | none hk =>
        subst hk
        exact hI.ins f fn args rs μ h h' v w _ hf hname R ha hv
      · trivial
    · split
      · rename_i c hb
        split
        · rename_i hok
          simp only [Bool.and_eq_true, decide_eq_true_eq] at hok
          obtain ⟨hok, hlen⟩ := hok
          replace hok := hI.ok f hok
          unfold okFn at hok
          rw [hf] at hok
          dsimp only at hok
          rw [hb] at hok
          simp only [Bool.and_eq_true, List.all_eq_true] at hok
          obtain ⟨hcode, hres⟩ := hok
          have hres' : ∀ r ∈ fn.results.toList, match r with | .tmp t => t < fn.ntmps | .cell a t => a < fn.ntmps ∧ wfT P t = true := fun r hr => by
            have := hres r hr
            cases r with
            | tmp t => simpa using this
            | cell a t => simpa using this
          let b : Frame := { (default : Frame) with fn := f, kind := kind, roundOf := none }
          have henter : Frame.enter P f rs.toArray kind = b.atR { tmps := rs.toArray ++ Array.replicate (fn.ntmps - rs.toArray.size) undef, defers := [] } [.code c] := by
            simp [Frame.enter, Frame.atR, hf, hb, b]
          have hx := hev.exec { fn := f, rnd := none } c { F := setArgs args 0 .nil, ds := [], md, h } μ fn.ntmps b c0 cs { tmps := rs.toArray ++ Array.replicate (fn.ntmps - rs.toArray.size) undef, defers := [] } w []
            ⟨R, enter_fr ha hlen, trivial, hc⟩ rfl rfl hcode
          rw [← henter] at hx
          have leave : ∀ (s : S) (u : Md) (μ' : PM) (a' : Act) (w' : World) (cs' : List Frame) (todo : List Item) (m : FrameMode), SR P μ' fn.ntmps kind c0 s a' cs' w' → MR μ' u m →
              COk P f kind c0 (lone { b.atR a' todo with mode := m } cs' w') μ' s.h w' (leaveV P ev fn s.F s.md s.ds u s.h) := fun s u μ' a' w' cs' todo m hs hm =>
            leave_sound hev hN (n := fn.ntmps) (omd := s.md) (F := s.F) hf hres' s.ds u s.h μ' w' { b.atR a' todo with mode := m } cs' hs.rel hs.fr hs.df hm rfl rfl hs.cal
          cases hxr : ev.exec { fn := f, rnd := none } c { F := setArgs args 0 .nil, ds := [], md, h } with
          | bad y => trivial
          | x e s =>
            rw [hxr] at hx
            obtain ⟨μ', a', w', cs', e', g1, g2, g3, g4⟩ := hx
            cases e with
            | normal =>
              cases e' with
              | normal =>
                have hend : StepsIn I0 P (lone (b.atR a' []) cs' w') (lone { b.atR a' [] with mode := .returning } cs' w') := .one trivial (stepR_end rfl)
                exact COk.of_steps (StepsIn.trans g4 hend) g1 (leave s .returning μ' a' w' cs' [] .returning g2 trivial)
              | _ => exact g3.elim
            | ret =>
              cases e' with
              | ret =>
                obtain ⟨todo, hst⟩ := g4.1 rfl
                exact COk.of_steps hst g1 (leave s .returning μ' a' w' cs' todo .returning g2 trivial)
              | _ => exact g3.elim
            | panic ch =>
              cases e' with
              | panic q =>
                obtain ⟨todo, hst⟩ := g4
                exact COk.of_steps hst g1 (leave s (.panicking ch) μ' a' w' cs' todo (.panicking q) g2 g3)
              | _ => exact g3.elim
            | exit id => trivial
        · trivial
      · trivial
  · trivial

theorem callF_sound {ev : Ev} {X : Fns} (hev : EvOk P ev) (hN : NumOk P) (hI : FnsOk P X) (f : FuncId) (args : List V) (rs : List Value) (md : Option Md) (kind : CallKind) (μ : PM) (h : Hp) (w : World) (c0 cs : List Frame)
    (R : Rel P μ h w) (ha : VRs μ args rs) (hc : Cal μ kind c0 md cs) : COk P f kind c0 (lone (Frame.enter P f rs.toArray kind) cs w) μ h w (callF P X ev f args md h) := by
  unfold callF
  split
  · rename_i r hr
    exact hI.sum f args md h r hr rs kind μ w c0 cs R ha hc
  · exact callB_sound hev hN hI f args rs md kind μ h w c0 cs R ha hc
/-! ### A round -/
theorem setPs_fold {n : Nat} : ∀ (ps : List Nat) (args : List V) (rs : List Value) (F : Frm) (t : Array Value), FR μ F n t → VRs μ args rs → FR μ (setPs (ps.map Pos.of) args F) n ((ps.zip rs).foldl (fun tmps (t, a) => tmps.setIfInBounds t a) t)
  | [], _, _, F, t, hF, _ => by simpa [setPs] using hF
  | p :: ps, [], rs, F, t, hF, ha => by cases ha; simpa [setPs] using hF
  | p :: ps, v :: args, _, F, t, hF, ha => by
    cases ha with | cons h1 h2 =>
    simp only [List.map_cons, setPs, List.zip_cons_cons, List.foldl_cons]
    exact setPs_fold ps args _ _ _ (hF.set h1) h2
theorem loop_sound (R : Rel P μ h w) {l : Nat} {ld : Loc} {r : Lp} (hl : μ l = some ld) (hg : h.get l = some (.loop r)) : ∃ q, w.heap[ld.r]? = some (.loop q) ∧ LoopR P μ r q := by
  obtain ⟨o, ho, hR⟩ := R.ob l ld hl
  rw [hg] at ho; cases ho
  exact hR
/-- The record is turned. -/
theorem setLoop_sound (R : Rel P μ h w) {l : Nat} {ld : Loc} {r : Lp} (hl : μ l = some ld) (hg : h.get l = some (.loop r)) {q : Loop} (hq : w.heap[ld.r]? = some (.loop q)) (hL : LoopR P μ r q) (st : LoopState) (pd : Option Code)
    (hp : match pd with | none | some .ret | some (.exit _) => True | _ => False) :
    Ext μ h w μ (h.put l (.loop { r with state := st, pending := pd })) (w.putObj ld.r (.loop { q with state := st, pending := pd })) ∧
    Rel P μ (h.put l (.loop { r with state := st, pending := pd })) (w.putObj ld.r (.loop { q with state := st, pending := pd })) := by
  obtain ⟨a1, a2, a3, a4, a5, a6, a7, n, a8, a9, a10, a11, a12⟩ := hL
  exact setObj_sound R hl (by rw [hg]; trivial) _ _ _ hq (fun w' hw' => ⟨_, hw', rfl, rfl, a3, a4, a5, a6, a7, n, a8, a9, a10, a11, hp⟩)
theorem roundF_sound {ev : Ev} (hev : EvOk P ev) (l : Nat) (args : List V) (rs : List Value) (ld : Loc) (μ : PM) (h : Hp) (w : World) (c : Frame) (cs : List Frame)
    (R : Rel P μ h w) (ha : VRs μ args rs) (hl : μ l = some ld) : ROk P ld rs c cs μ h w (roundF P ev l args h) := by
  unfold roundF
  split
  · rename_i r hg
    obtain ⟨q, hq, hL⟩ := loop_sound R hl hg
    obtain ⟨a1, a2, a3, a4, a5, a6, a7, n, a8, a9, a10, a11, a12⟩ := hL
    obtain ⟨qst, qpd, qfn, qtm, qps, qas, qbd, qdf⟩ := q
    dsimp only at a1 a2 a3 a4 a5 a6 a7 a8 a11
    subst a3 a4 a5
    split
    · trivial
    · rename_i hlen
      simp only [ne_eq, Decidable.not_not] at hlen
      have hsz : rs.toArray.size = qps.size := by
        rw [List.size_toArray, ← ha.length, hlen, a6, List.length_map, Array.length_toList]
      have hy := run_yield (P := P) hq hsz
      have hF : FR μ (setPs r.params args r.F) n ((qps.zip rs.toArray).foldl (fun tmps (t, a) => tmps.setIfInBounds t a) qtm) := by
        have := setPs_fold (n := n) qps.toList args rs r.F qtm a8 ha
        rw [a6, ← Array.foldl_toList, Array.toList_zip]
        exact this
      let b : Frame := { (default : Frame) with fn := r.fn, kind := .normal, roundOf := some ld.r }
      have hb0 : Frame.round ld.r r.fn ((qps.zip rs.toArray).foldl (fun tmps (t, a) => tmps.setIfInBounds t a) qtm) r.assign r.body .normal = b.atR { tmps := (qps.zip rs.toArray).foldl (fun tmps (t, a) => tmps.setIfInBounds t a) qtm, defers := [] } [.code r.assign, .beginRound, .code r.body] := by
        simp [Frame.round, Frame.atR, b]
      have hx := hev.exec { fn := r.fn, rnd := some l } r.assign { F := setPs r.params args r.F, ds := [], md := none, h } μ n b (c :: cs) (c :: cs) { tmps := (qps.zip rs.toArray).foldl (fun tmps (t, a) => tmps.setIfInBounds t a) qtm, defers := [] } w [.beginRound, .code r.body]
        ⟨R, hF, trivial, .none rfl⟩ rfl ⟨ld, hl, rfl⟩ a9
      rw [← hb0] at hx
      cases hxr : ev.exec { fn := r.fn, rnd := some l } r.assign { F := setPs r.params args r.F, ds := [], md := none, h } with
      | bad y => trivial
      | x e s =>
        rw [hxr] at hx
        cases e with
        | normal =>
          obtain ⟨μ1, t1, w1, cs1, e1, g1, g2, g3, g4⟩ := hx
          cases e1 with
          | normal =>
            obtain rfl := g2.cal.normal_inv rfl
            dsimp only
            split
            · rename_i r' hds hg1
              split
              · rename_i hst
                have hl1 := g1.le _ _ hl
                obtain ⟨q1, hq1, hL1⟩ := loop_sound g2.rel hl1 hg1
                have hst1 : q1.state = .ready := by rw [hL1.1, hst]
                obtain ⟨x1, x2⟩ := setLoop_sound g2.rel hl1 hg1 hq1 hL1 .busy r'.pending hL1.2.2.2.2.2.2.2.choose_spec.2.2.2.2
                have hpd : q1.pending = r'.pending := hL1.2.1
                have hbr := run_beginRound (P := P) hq1 hst1
                rw [show ({ q1 with state := .busy } : Loop) = { q1 with state := .busy, pending := r'.pending } by rw [← hpd]] at hbr
                have hsb := stepR_beginRound (P := P) (b := b) (a := t1) (k := [.code r.body]) (cs := c :: cs) (w := w1) rfl hbr
                have hdf : t1.defers = [] := by have := g2.df; rw [hds] at this; exact this.nil_inv
                have hx2 := hev.exec { fn := r.fn, rnd := some l } r.body { s with h := s.h.put l (.loop { r' with state := .busy }) } μ1 n b (c :: cs) (c :: cs) t1 _ []
                  ⟨x2, g2.fr.mono x1.le, g2.df.mono x1.le, g2.cal⟩ rfl ⟨ld, hl1, rfl⟩ a10
                cases hxr2 : ev.exec { fn := r.fn, rnd := some l } r.body { s with h := s.h.put l (.loop { r' with state := .busy }) } with
                | bad y => trivial
                | x e2 s2 =>
                  rw [hxr2] at hx2
                  obtain ⟨μ2, t2, w2, cs2, e2', k1, k2, k3, k4⟩ := hx2
                  obtain rfl := k2.cal.normal_inv rfl
                  dsimp only
                  split
                  · rename_i r2 hds2 hg2
                    have hl2 := k1.le _ _ hl1
                    obtain ⟨q2, hq2, hL2⟩ := loop_sound k2.rel hl2 hg2
                    have hend := fun jump => run_endRound (P := P) jump hq2
                    have pre : StepsIn I0 P (lone (Frame.round ld.r r.fn ((qps.zip rs.toArray).foldl (fun tmps (t, a) => tmps.setIfInBounds t a) qtm) r.assign r.body .normal) (c :: cs) w) (lone (b.atR t1 [.code r.body]) (c :: cs) (w1.putObj ld.r (.loop { q1 with state := .busy, pending := r'.pending }))) :=
                      StepsIn.trans g4 (.one trivial hsb)
                    cases e2 with
                    | normal =>
                      cases e2' with
                      | normal =>
                        obtain ⟨y1, y2⟩ := setLoop_sound k2.rel hl2 hg2 hq2 hL2 .ready none trivial
                        have hfin := stepR_round_end (P := P) (b := b) (a := t2) (c := c) (cs := cs) (w := w2) rfl rfl (hend none)
                        exact ⟨μ2, _, .bool true, r.fn, _, r.assign, r.body, hy, (g1.trans x1).trans (k1.trans y1), y2, .bool true, pre.trans (StepsIn.trans k4 (.one trivial hfin))⟩
                      | _ => exact k3.elim
                    | ret =>
                      cases e2' with
                      | ret =>
                        obtain ⟨y1, y2⟩ := setLoop_sound k2.rel hl2 hg2 hq2 hL2 .done (some .ret) trivial
                        obtain ⟨k₁, hs⟩ := k4.2 rfl
                        have hfin := stepR_round_ret (P := P) (b := b) (a := t2) (k := k₁) (c := c) (cs := cs) (w := w2) rfl rfl (hend (some .ret))
                        exact ⟨μ2, _, .bool false, r.fn, _, r.assign, r.body, hy, (g1.trans x1).trans (k1.trans y1), y2, .bool false, pre.trans (StepsIn.trans hs (.one trivial hfin))⟩
                      | _ => exact k3.elim
                    | exit id =>
                      cases e2' with
                      | exit id' =>
                        have hid : id = id' := k3
                        subst hid
                        obtain ⟨y1, y2⟩ := setLoop_sound k2.rel hl2 hg2 hq2 hL2 .done (some (.exit id)) trivial
                        obtain ⟨k₁, hk, hs⟩ := k4.2 rfl rfl
                        have hfin := stepR_round_exit (P := P) (b := b) (a := t2) (k := k₁) (c := c) (cs := cs) (w := w2) rfl rfl hk (hend (some (.exit id)))
                        exact ⟨μ2, _, .bool false, r.fn, _, r.assign, r.body, hy, (g1.trans x1).trans (k1.trans y1), y2, .bool false, pre.trans (StepsIn.trans hs (.one trivial hfin))⟩
                      | _ => exact k3.elim
                    | panic ch => trivial
                  · trivial
              · trivial
            · trivial
          | _ => exact g3.elim
        | _ => trivial
  · trivial
end Go.Vm
/- Code, by its forms. -/
namespace Go.Vm
open Go.RowKit

variable {P : Program} {μ : PM} {h : Hp} {w : World} {F : Frm} {a : Act}

section
variable {b : Frame} {k : List Item} {cs : List Frame}
theorem stepR_scope {c : Code} : step P (lone (b.atR a (.code (.scope c) :: k)) cs w) = .next (lone (b.atR a (.code c :: .inScope c :: k)) cs w) :=
  step_lone_go (by simp [stepG, stepG.exec, Frame.atR])
theorem stepR_inScope {c : Code} : step P (lone (b.atR a (.inScope c :: k)) cs w) = .next (lone (b.atR a k) cs w) :=
  step_lone_go (by simp [stepG, stepG.exec, Frame.atR])
end
theorem lone_todo {b b' : Frame} {a a' : Act} {k k' : List Item} {cs cs' : List Frame} {w w' : World} (h : lone (b.atR a k) cs w = lone (b'.atR a' k') cs' w') : k = k' := by
  simp only [lone] at h
  injection h with h1 h2 h3
  simp only [Array.mk.injEq, List.cons.injEq, Goroutine.mk.injEq, Frame.atR, Frame.mk.injEq, and_true] at h2
  exact h2.1.2.2.1
theorem lone_mode {fr fr' : Frame} {cs cs' : List Frame} {w w' : World} (h : lone fr cs w = lone fr' cs' w') : fr = fr' := by
  simp only [lone] at h
  injection h with h1 h2 h3
  simp only [Array.mk.injEq, List.cons.injEq, Goroutine.mk.injEq, and_true] at h2
  exact h2.1
theorem exitTo_length (id : Nat) : ∀ (k k' : List Item), exitTo id k = some k' → k'.length ≤ k.length
  | [], k', h => by simp [exitTo] at h
  | x :: k, k', h => by
    cases x <;> simp only [exitTo] at h <;> first
      | (have := exitTo_length id k k' h; simp; omega)
      | (split at h <;> first | (have := exitTo_length id k k' h; simp; omega) | (simp at h; subst h; simp))
theorem loop_again {b : Frame} {k : List Item} {cs cs' : List Frame} {c : Code} {e : Exit} {a' : Act} {w' : World} {x : X} (hx : ER μ x e) (h : ArrivesIn I0 P (lone (b.atR a (.code (.loop c) :: k)) cs w) b k cs' e a' w') :
    ArrivesIn I0 P (lone (b.atR a (.inLoop c :: k)) cs w) b k cs' e a' w' := by
  have key : ∀ t, lone (b.atR a (.code (.loop c) :: k)) cs w ≠ t → StepsIn I0 P (lone (b.atR a (.code (.loop c) :: k)) cs w) t → StepsIn I0 P (lone (b.atR a (.inLoop c :: k)) cs w) t := fun t hne hs => by
    cases hs with
    | refl => exact (hne rfl).elim
    | head _ hst hrest =>
      rw [stepR_loop] at hst
      injection hst with hst
      subst hst
      exact .head trivial stepR_inLoop hrest
  cases e with
  | normal => exact key _ (fun he => by have := congrArg List.length (lone_todo he); simp at this) h
  | exit id =>
    refine ⟨fun k' hk => key _ (fun he => ?_) (h.1 k' hk), fun hr hk => ?_⟩
    · have h1 := congrArg List.length (lone_todo he)
      have h2 := exitTo_length id k k' hk
      simp at h1; omega
    · obtain ⟨k₁, h1, h2⟩ := h.2 hr hk
      exact ⟨k₁, h1, key _ (fun he => by have := lone_todo he; simp at this) h2⟩
  | goto l => cases x <;> exact hx.elim
  | ret =>
    refine ⟨fun hr => ?_, fun hr => ?_⟩
    · obtain ⟨todo, hs⟩ := h.1 hr
      exact ⟨todo, key _ (fun he => by have := congrArg Frame.mode (lone_mode he); simp [Frame.atR] at this) hs⟩
    · obtain ⟨k₁, hs⟩ := h.2 hr
      exact ⟨k₁, key _ (fun he => by have := lone_todo he; simp at this) hs⟩
  | panic ch =>
    obtain ⟨todo, hs⟩ := h
    exact ⟨todo, key _ (fun he => by have := congrArg Frame.mode (lone_mode he); simp [Frame.atR] at this) hs⟩
  | outgrown => cases x <;> exact hx.elim

theorem XOk.pass {n : Nat} {b : Frame} {c0 : List Frame} {k : List Item} {x : Item} {m m1 : Machine} {r : XR} (hp : x.plain = true) (hs : StepsIn I0 P m m1) (hn : ∀ s, r ≠ .x .normal s) (hx : XOk P n b c0 (x :: k) m1 μ h w r) : XOk P n b c0 k m μ h w r := by
  cases r with
  | bad y => trivial
  | x e s =>
    obtain ⟨μ', a', w', cs', e', g1, g2, g3, g4⟩ := hx
    refine ⟨μ', a', w', cs', e', g1, g2, g3, .of_steps hs (.pass hp (fun _ _ => .inl ?_) g4)⟩
    rintro rfl
    cases e <;> first | exact g3.elim | exact hn s rfl
/-- Regions whose order is drawn. -/
def DrawOk (P : Program) (ev : Ev) : Prop := ∀ (ops : Array Oper) (id n : Nat) (b : Frame) (c0 cs : List Frame) (k : List Item) (rnd : Option Nat) (s : S) (μ : PM) (a : Act) (w : World), (∀ o ∈ ops, okOp P n o = true) → drawOk ops = true →
  SR P μ n b.kind c0 s a cs w → RndR μ b rnd → XOk P n b c0 k (lone (b.atR a (.code (.region id ops true) :: k)) cs w) μ s.h w (drawV P ev ops (Region.before ops) ops.toList 0 { s, reads := [], effs := [], als := [] })

theorem execF_sound {ev : Ev} (hev : EvOk P ev) (hE : ExtOk P) (hN : NumOk P) (hD : DrawOk P ev) (ctx : Ctx) (c : Code) (s : S) (μ : PM) (n : Nat) (b : Frame) (c0 cs : List Frame) (a : Act) (w : World) (k : List Item)
    (hs : SR P μ n b.kind c0 s a cs w) (hfn : b.fn = ctx.fn) (hr : RndR μ b ctx.rnd) (hc : okCode P n c = true) : XOk P n b c0 k (lone (b.atR a (.code c :: k)) cs w) μ s.h w (execF P ev ctx c s) := by
  cases c with
  | skip => exact ⟨μ, a, w, cs, .normal, .refl _ _ _, hs, trivial, .one trivial stepR_skip⟩
  | label l => exact ⟨μ, a, w, cs, .normal, .refl _ _ _, hs, trivial, .one trivial stepR_label⟩
  | exit id => exact ⟨μ, a, w, cs, .exit id, .refl _ _ _, hs, rfl, fun _ hk => .one trivial (stepR_exit hk), fun _ hk => ⟨k, hk, .refl _⟩⟩
  | ret => exact ⟨μ, a, w, cs, .ret, .refl _ _ _, hs, trivial, fun hn => ⟨_, .one trivial (stepR_ret hn)⟩, fun _ => ⟨k, .refl _⟩⟩
  | region id ops draw =>
    simp only [okCode, Bool.and_eq_true, List.all_eq_true] at hc
    have hok : ∀ o ∈ ops, okOp P n o = true := fun o ho => hc.1 o (Array.mem_toList_iff.2 ho)
    cases draw with
    | false =>
      have := ops_sound hev hE hN (b := b) (c0 := c0) (k := k) (rnd := ctx.rnd) hok ops.toList 0 rfl s μ a cs w hs hr
      rw [← List.range_eq_range', Array.length_toList] at this
      exact .of_steps (.one trivial stepR_region) (.refl _ _ _) this
    | true => exact hD ops id n b c0 cs k ctx.rnd s μ a w hok (by simpa using hc.2) hs hr
  | seq x y =>
    simp only [okCode, Bool.and_eq_true] at hc
    have h1 := hev.exec ctx x s μ n b c0 cs a w (.code y :: k) hs hfn hr hc.1
    simp only [execF]
    cases hx : ev.exec ctx x s with
    | bad z => trivial
    | x e s' =>
      rw [hx] at h1
      cases e with
      | normal =>
        obtain ⟨μ', a', w', cs', e', g1, g2, g3, g4⟩ := h1
        cases e' with
        | normal =>
          have h2 := hev.exec ctx y s' μ' n b c0 cs' a' w' k g2 hfn (hr.mono g1.le) hc.2
          exact .of_steps (.head trivial stepR_seq g4) g1 h2
        | _ => exact g3.elim
      | exit id => exact XOk.pass (x := .code y) rfl (.one trivial stepR_seq) (fun s h => by cases h) h1
      | ret => exact XOk.pass (x := .code y) rfl (.one trivial stepR_seq) (fun s h => by cases h) h1
      | panic ch => exact XOk.pass (x := .code y) rfl (.one trivial stepR_seq) (fun s h => by cases h) h1
  | cond c x y =>
    simp only [okCode, Bool.and_eq_true] at hc
    have hv := hs.fr.eval hs.rel hc.1.1
    simp only [execF]
    split
    · rename_i hb
      rw [hb] at hv
      exact .of_steps (.one trivial (stepR_cond hv.bool_inv)) (.refl _ _ _) (hev.exec ctx x s μ n b c0 cs a w k hs hfn hr hc.1.2)
    · rename_i hb
      rw [hb] at hv
      exact .of_steps (.one trivial (stepR_cond hv.bool_inv)) (.refl _ _ _) (hev.exec ctx y s μ n b c0 cs a w k hs hfn hr hc.2)
    · trivial
  | block id x =>
    simp only [okCode] at hc
    have h1 := hev.exec ctx x s μ n b c0 cs a w (.inBlock id :: k) hs hfn hr hc
    simp only [execF]
    cases hx : ev.exec ctx x s with
    | bad z => trivial
    | x e s' =>
      rw [hx] at h1
      obtain ⟨μ', a', w', cs', e', g1, g2, g3, g4⟩ := h1
      cases e with
      | normal =>
        cases e' with
        | normal => exact ⟨μ', a', w', cs', .normal, g1, g2, trivial, .head trivial stepR_block (StepsIn.trans g4 (.one trivial stepR_inBlock))⟩
        | _ => exact g3.elim
      | exit i =>
        cases e' with
        | exit i' =>
          have hi : i = i' := g3
          subst hi
          dsimp only
          split
          · rename_i hid
            subst hid
            exact ⟨μ', a', w', cs', .normal, g1, g2, trivial, .head trivial stepR_block (g4.1 k (by simp [exitTo]))⟩
          · rename_i hid
            have this : (id == i) = false := by simp; exact fun h => hid h.symm
            have hxx : exitTo i (.inBlock id :: k) = exitTo i k := by simp [exitTo, this]
            exact ⟨μ', a', w', cs', .exit i, g1, g2, rfl, fun k' hk => .head trivial stepR_block (g4.1 k' (by rw [hxx]; exact hk)),
              fun hr' hk => let ⟨k₁, h1, h2⟩ := g4.2 hr' (by rw [hxx]; exact hk); ⟨k₁, h1, .head trivial stepR_block h2⟩⟩
        | _ => exact g3.elim
      | ret =>
        cases e' with
        | ret => exact ⟨μ', a', w', cs', .ret, g1, g2, trivial, .of_steps (.one trivial stepR_block) g4⟩
        | _ => exact g3.elim
      | panic ch =>
        cases e' with
        | panic q => exact ⟨μ', a', w', cs', .panic q, g1, g2, g3, .of_steps (.one trivial stepR_block) g4⟩
        | _ => exact g3.elim
  | loop x =>
    have hc' : okCode P n x = true := by simpa [okCode] using hc
    have h1 := hev.exec ctx x s μ n b c0 cs a w (.inLoop x :: k) hs hfn hr hc'
    simp only [execF]
    cases hx : ev.exec ctx x s with
    | bad z => trivial
    | x e s' =>
      rw [hx] at h1
      cases e with
      | normal =>
        obtain ⟨μ', a', w', cs', e', g1, g2, g3, g4⟩ := h1
        cases e' with
        | normal =>
          have h2 := hev.exec ctx (.loop x) s' μ' n b c0 cs' a' w' k g2 hfn (hr.mono g1.le) hc
          refine .of_steps (.head trivial stepR_loop g4) g1 ?_
          dsimp only
          cases hx2 : ev.exec ctx (.loop x) s' with
          | bad z => trivial
          | x e2 s2 =>
            rw [hx2] at h2
            obtain ⟨μ2, a2, w2, cs2, e2', k1, k2, k3, k4⟩ := h2
            exact ⟨μ2, a2, w2, cs2, e2', k1, k2, k3, loop_again k3 k4⟩
        | _ => exact g3.elim
      | exit id => exact XOk.pass (x := .inLoop x) rfl (.one trivial stepR_loop) (fun s h => by cases h) h1
      | ret => exact XOk.pass (x := .inLoop x) rfl (.one trivial stepR_loop) (fun s h => by cases h) h1
      | panic ch => exact XOk.pass (x := .inLoop x) rfl (.one trivial stepR_loop) (fun s h => by cases h) h1
  | scope x =>
    have hc' : okCode P n x = true := by simpa [okCode] using hc
    have h1 := hev.exec ctx x s μ n b c0 cs a w (.inScope x :: k) hs hfn hr hc'
    simp only [execF]
    cases hx : ev.exec ctx x s with
    | bad z => trivial
    | x e s' =>
      rw [hx] at h1
      obtain ⟨μ', a', w', cs', e', g1, g2, g3, g4⟩ := h1
      cases e with
      | normal =>
        cases e' with
        | normal => exact ⟨μ', a', w', cs', .normal, g1, g2, trivial, .head trivial stepR_scope (StepsIn.trans g4 (.one trivial stepR_inScope))⟩
        | _ => exact g3.elim
      | exit i =>
        cases e' with
        | exit i' =>
          have hi : i = i' := g3
          subst hi
          have hxx : exitTo i (.inScope x :: k) = exitTo i k := by simp [exitTo]
          exact ⟨μ', a', w', cs', .exit i, g1, g2, rfl, fun k' hk => .head trivial stepR_scope (g4.1 k' (by rw [hxx]; exact hk)),
            fun hr' hk => let ⟨k₁, h1, h2⟩ := g4.2 hr' (by rw [hxx]; exact hk); ⟨k₁, h1, .head trivial stepR_scope h2⟩⟩
        | _ => exact g3.elim
      | ret =>
        cases e' with
        | ret => exact ⟨μ', a', w', cs', .ret, g1, g2, trivial, .of_steps (.one trivial stepR_scope) g4⟩
        | _ => exact g3.elim
      | panic ch =>
        cases e' with
        | panic q => exact ⟨μ', a', w', cs', .panic q, g1, g2, g3, .of_steps (.one trivial stepR_scope) g4⟩
        | _ => exact g3.elim
  | rangeFunc f ps assign body =>
    simp only [okCode, Bool.and_eq_true, List.all_eq_true, decide_eq_true_eq] at hc
    obtain ⟨⟨⟨hcf, hcp⟩, hca⟩, hcb⟩ := hc
    have hcp' : ∀ p ∈ ps, p < n := fun p hp => hcp p (Array.mem_toList_iff.2 hp)
    have main : ∀ (d : Nat) (ds : List Dfr) (h1 : Hp) (μ1 : PM) (w1 : World) (mark : List Deferred) (ldd : Loc), Ext μ s.h w μ1 h1 w1 → Rel P μ1 h1 w1 → μ1 d = some ldd → DsR μ1 ds (mark ++ a.defers) →
        (Instr.enterLoop b.fn a.tmps ps assign body b.roundOf).run P w = .ok (w1.heap.size, mark) (w1.alloc (.loop { state := .ready, pending := none, fn := b.fn, tmps := a.tmps, params := ps, assign, body, defers := ldd.r })) →
        XOk P n b c0 k (lone (b.atR a (.code (.rangeFunc f ps assign body) :: k)) cs w) μ s.h w
          (match opr s.F f with
            | .func g first caps => if !((P.funcs[g]?).bind (·.body)).isSome then .bad "range over a function" else (match ev.call g (first ++ [.yield h1.next] ++ caps) none (h1.new (.loop { state := .ready, pending := none, fn := ctx.fn, F := s.F, params := ps.toList.map Pos.of, assign, body, defers := d })) with
              | .ret _ _ h3 => (match h3.get h1.next with
                | some (.loop r) => if r.state == .busy then .bad "busy" else
                    (match r.pending with
                     | none => .x .normal { s with ds, h := h3.put h1.next (.loop { r with state := .exhausted }) }
                     | some c => ev.exec ctx c { s with ds, h := h3.put h1.next (.loop { r with state := .exhausted }) })
                | _ => .bad "loop gone")
              | .pan c _ h3 => .x (.panic c) { s with ds, h := h3 }
              | .bad w => .bad w)
            | _ => .bad "range over a function") := by
      intro d ds h1 μ1 w1 mark ldd hx1 R1 hd hds he
      obtain ⟨R2, hx2⟩ := new_sound R1 (.loop { state := .ready, pending := none, fn := b.fn, tmps := a.tmps, params := ps, assign, body, defers := ldd.r }) (.loop { state := .ready, pending := none, fn := ctx.fn, F := s.F, params := ps.toList.map Pos.of, assign, body, defers := d }) 0
        ⟨_, alloc_last _ _, rfl, rfl, hfn, rfl, rfl, rfl, ⟨ldd, PM.le_add _ R1.dom _ _ hd, rfl⟩, n, (hs.fr.mono hx1.le).mono (PM.le_add _ R1.dom), hca, hcb, hcp', trivial⟩
      generalize hμ2 : μ1.add h1.next ⟨w1.heap.size, 0, 0⟩ = μ2 at R2 hx2
      generalize hh2 : h1.new (.loop { state := .ready, pending := none, fn := ctx.fn, F := s.F, params := ps.toList.map Pos.of, assign, body, defers := d }) = h2 at R2 hx2 ⊢
      have hl : μ2 h1.next = some ⟨w1.heap.size, 0, 0⟩ := by rw [← hμ2]; exact PM.add_same _ _ _
      have hx12 := hx1.trans hx2
      have hf := (hs.fr.mono hx12.le).eval R2 hcf
      split
      · rename_i g0 first caps hff
        split
        · trivial
        · rename_i hbody
          rw [hff] at hf
          generalize hX : a.eval f = X at hf
          cases hf with | @func _ _ _ fs' cs' q1 q2 =>
          have hargs : VRs μ2 (first ++ [.yield h1.next] ++ caps) (fs' ++ [.func (.yield w1.heap.size) #[] #[]] ++ cs') := (q1.append (.single (.yield hl))).append q2
          have hres : (resolve a.eval (rangeCall f w1.heap.size) 0).run P (w1.alloc (.loop { state := .ready, pending := none, fn := b.fn, tmps := a.tmps, params := ps, assign, body, defers := ldd.r })) = .ok { target := .fn (.func g0) cs'.toArray, args := fs'.toArray ++ #[.func (.yield w1.heap.size) #[] #[]] } (w1.alloc (.loop { state := .ready, pending := none, fn := b.fn, tmps := a.tmps, params := ps, assign, body, defers := ldd.r })) := by
            have e0 : resolve a.eval (rangeCall f w1.heap.size) 0 = Deferred.ofValue (a.eval f) #[.func (.yield w1.heap.size) #[] #[]] := by
              unfold resolve rangeCall
              simp only [List.map_toArray, List.map_cons, List.map_nil]
              rfl
            rw [e0, hX]
            rfl
          have hinv2 : (invoke (.fn (.func g0) cs'.toArray) (fs'.toArray ++ #[.func (.yield w1.heap.size) #[] #[]])).run P (w1.alloc (.loop { state := .ready, pending := none, fn := b.fn, tmps := a.tmps, params := ps, assign, body, defers := ldd.r })) = .ok (.enter g0 (fs' ++ [Value.func (.yield w1.heap.size) #[] #[]] ++ cs').toArray) (w1.alloc (.loop { state := .ready, pending := none, fn := b.fn, tmps := a.tmps, params := ps, assign, body, defers := ldd.r })) := by
            simp only [Bool.not_eq_true, Bool.not_eq_false', Bool.not_eq_eq_eq_not, Bool.not_true, Bool.not_eq_false, Option.isSome_iff_exists, Option.bind_eq_some_iff] at hbody
            obtain ⟨c, gn, hgn, hgb⟩ := hbody
            have hn := hN g0 gn hgn
            simp [invoke, callFunc, hgn, hn, hgb]
          have henter := stepR_rangeFunc (P := P) (b := b) (a := a) (k := k) (cs := cs) (w := w) he hres hinv2
          have hcall := hev.call g0 _ _ none .normal μ2 h2 _ (b.atR { a with defers := mark ++ a.defers } (.inRangeFunc w1.heap.size :: k) :: cs) (b.atR { a with defers := mark ++ a.defers } (.inRangeFunc w1.heap.size :: k) :: cs) R2 hargs (.none rfl)
          cases hcr : ev.call g0 (first ++ [.yield h1.next] ++ caps) none h2 with
          | bad y => trivial
          | ret v md h3 =>
            rw [hcr] at hcall
            obtain ⟨μ3, w3, cs3, r3, fr, k1, k2, k3, k4, k5, k6, k7, k8⟩ := hcall
            obtain rfl := k4.normal_inv rfl
            have hlv := step_leave_returned (P := P) (c := b.atR { a with defers := mark ++ a.defers } (.inRangeFunc w1.heap.size :: k)) (cs := cs) (going_leaving k7 k8)
            rw [finish_atR_inRangeFunc] at hlv
            dsimp only
            split
            · rename_i r hg3
              obtain ⟨q, hq, hL⟩ := loop_sound k2 (k1.le _ _ hl) hg3
              split
              · trivial
              · rename_i hnb
                have hqb : q.state ≠ .busy := by
                  rw [hL.1]
                  intro hb
                  rw [hb] at hnb
                  exact hnb rfl
                have hpq : q.pending = r.pending := hL.2.1
                have hend := run_endLoop (P := P) hq hqb
                obtain ⟨y1, y2⟩ := setLoop_sound k2 (k1.le _ _ hl) hg3 hq hL .exhausted r.pending hL.2.2.2.2.2.2.2.choose_spec.2.2.2.2
                rw [show ({ q with state := .exhausted } : Loop) = { q with state := .exhausted, pending := r.pending } by rw [← hpq]] at hend
                have sback := (StepsIn.head (I := I0) trivial henter (k5.trans (.head trivial hlv (.one trivial (stepR_endRangeFunc (b := b) (a := { a with defers := mark ++ a.defers }) (k := k) (cs := cs) hend)))))
                rw [hpq] at sback
                have hxx := (hx12.trans k1).trans y1
                have hS : SR P μ3 n b.kind c0 { s with ds, h := h3.put h1.next (.loop { r with state := .exhausted }) } { a with defers := mark ++ a.defers } cs _ := ⟨y2, hs.fr.mono hxx.le, (hds.mono hx2.le).mono k1.le, hs.cal.mono hxx.le⟩
                cases hpd : r.pending with
                | none =>
                  rw [hpd] at sback hS hxx
                  refine ⟨μ3, _, _, cs, .normal, ?_, hS, trivial, ?_⟩
                  · exact hxx
                  · exact sback
                | some cc =>
                  have hokc : okCode P n cc = true := by
                    have := hL.2.2.2.2.2.2.2.choose_spec.2.2.2.2
                    rw [hpd] at this
                    cases cc <;> first | exact this.elim | rfl
                  have h4 := hev.exec ctx cc { s with ds, h := h3.put h1.next (.loop { r with state := .exhausted }) } μ3 n b c0 cs _ _ k hS hfn (hr.mono hxx.le) hokc
                  simp only [hpd] at h4 sback hxx
                  exact .of_steps sback hxx h4
            · trivial
          | pan c md h3 =>
            rw [hcr] at hcall
            obtain ⟨μ3, w3, cs3, ch, fr, k1, k2, k3, k4, k5, k6, k7, k8⟩ := hcall
            obtain rfl := k4.normal_inv rfl
            have hlv := step_leave_panicked (P := P) (c := b.atR { a with defers := mark ++ a.defers } (.inRangeFunc w1.heap.size :: k)) (cs := cs) (going_leaving k7 k8)
            rw [Frame.raise_atR] at hlv
            exact ⟨μ3, { a with defers := mark ++ a.defers }, w3, cs, .panic ch, hx12.trans k1, ⟨k2, hs.fr.mono (hx12.trans k1).le, (hds.mono hx2.le).mono k1.le, hs.cal.mono (hx12.trans k1).le⟩, k3, _, .head trivial henter (k5.trans (.one trivial hlv))⟩
      · trivial
    simp only [execF]
    cases hrn : ctx.rnd with
    | none =>
      rw [hrn] at hr
      have hro : b.roundOf = none := hr
      obtain ⟨R1, hx1⟩ := new_sound hs.rel (.deferred (some [])) (.deferred true) 0 (alloc_last _ _)
      exact main s.h.next (.mark s.h.next :: s.ds) _ _ _ [{ target := .collected w.heap.size, args := #[] }] ⟨w.heap.size, 0, 0⟩ hx1 R1 (PM.add_same _ _ _) ⟨⟨_, PM.add_same _ _ _, rfl⟩, hs.df.mono hx1.le⟩ (by
        rw [hro, run_enterLoop_outer, World.size_alloc])
    | some l0 =>
      rw [hrn] at hr
      obtain ⟨ld0, hl0, hro⟩ := hr
      dsimp only
      cases hg0 : s.h.get l0 with
      | none => exact True.intro
      | some o =>
        cases o with
        | loop r =>
          obtain ⟨q, hq, hL⟩ := loop_sound hs.rel hl0 hg0
          obtain ⟨_, _, _, _, _, _, ⟨ldd, hd1, hd2⟩, _⟩ := hL
          exact main r.defers s.ds s.h μ w [] ldd (.refl _ _ _) hs.rel hd1 hs.df (by
            rw [hro, run_enterLoop_inner hq, hd2])
        | _ => exact True.intro
  | goto l => simp [okCode] at hc
  | refuse y => exact trivial

theorem evS_ok {ev : Ev} {X : Fns} (hev : EvOk P ev) (hE : ExtOk P) (hN : NumOk P) (hI : FnsOk P X) (hD : DrawOk P ev) : EvOk P (evS P X ev) :=
  ⟨fun ctx c s μ n b c0 cs a w k hs hfn hr hc => execF_sound hev hE hN hD ctx c s μ n b c0 cs a w k hs hfn hr hc,
   fun f args rs md kind μ h w c0 cs R ha hc => callF_sound hev hN hI f args rs md kind μ h w c0 cs R ha hc,
   fun l args rs ld μ h w c cs R ha hl => roundF_sound hev l args rs ld μ h w c cs R ha hl⟩
/-- Runs with n to spare. -/
def evN (P : Program) (X : Fns) : Nat → Ev
  | 0 => evBad
  | n + 1 => evS P X (evN P X n)
theorem evN_ok {X : Fns} (hE : ExtOk P) (hN : NumOk P) (hI : FnsOk P X) (hD : ∀ ev, EvOk P ev → DrawOk P ev) : ∀ n, EvOk P (evN P X n)
  | 0 => evBad_ok P
  | n + 1 => evS_ok (evN_ok hE hN hI hD n) hE hN hI (hD _ (evN_ok hE hN hI hD n))
end Go.Vm
