/- The machine's side: frames, callers, regions in the text's order. -/
import Derived.Test.YtbckpoddpghdcaaGreatDoorVmEff2
import Derived.CallsIn
import Derived.Recover
import Derived.RangeFuncIn
namespace Go.Vm
open Go.RowKit
set_option linter.unusedSimpArgs false
set_option linter.unusedVariables false

variable {P : Program} {μ : PM} {h : Hp} {w : World} {F : Frm} {a : Act}

/-! ### Temporaries -/
theorem FR.eval (R : Rel P μ h w) {n : Nat} (hF : FR μ F n a.tmps) {x : Operand} (hx : constOk P n x = true) : VR μ (opr F x) (a.eval x) := by
  cases x with
  | tmp t =>
    simp only [constOk, decide_eq_true_eq] at hx
    exact hF.2 t hx
  | const v =>
    simp only [constOk, Option.isSome_iff_exists] at hx
    obtain ⟨u, hu⟩ := hx
    simp only [opr, hu, Option.getD_some, Act.eval]
    exact toV_sound v hu
  | global g =>
    simp only [constOk, decide_eq_true_eq] at hx
    exact .ptr (o := 0) (R.glob g (Nat.le_of_lt hx))
  | func f => exact .func (fs' := []) (cs' := []) .nil .nil
theorem FR.set {n : Nat} {t : Array Value} (hF : FR μ F n t) {d : Nat} {v : V} {r : Value} (hv : VR μ v r) : FR μ (F.set (Pos.of d) v) n (t.setIfInBounds d r) := by
  refine ⟨by simp [hF.1], fun i hi => ?_⟩
  by_cases hd : i = d
  · subst hd
    rw [T.get_set_same]
    simp only [Option.getD_some, Array.getD_eq_getD_getElem?]
    rw [Array.getElem?_setIfInBounds_self_of_lt (by rw [hF.1]; exact hi)]
    exact hv
  · rw [T.get_set_ne (fun e => hd (Pos.of_inj e).symm)]
    simp only [Array.getD_eq_getD_getElem?]
    rw [Array.getElem?_setIfInBounds_ne (Ne.symm hd), ← Array.getD_eq_getD_getElem?]
    exact hF.2 i hi
theorem FR.put {n : Nat} (hF : FR μ F n a.tmps) (d : Option Tmp) {v : V} {r : Value} (hv : VR μ v r) : FR μ (setO d v F) n (a.put d r).tmps := by
  cases d with
  | none => exact hF
  | some d => exact hF.set hv
theorem vr_undef : VR μ vundef undef := .tuple .nil
theorem okOp_op (R : Rel P μ h w) {n : Nat} (hF : FR μ F n a.tmps) {o : Oper} (ho : okOp P n o = true) : OpOk P μ F a o := by
  unfold okOp at ho
  simp only [Bool.and_eq_true] at ho
  obtain ⟨⟨⟨_, h1⟩, h2⟩, _⟩ := ho
  rw [List.all_eq_true] at h1 h2
  exact ⟨fun x hx => hF.eval R (h1 x (Array.mem_toList_iff.2 hx)), h2⟩

/-! ### Chains, modes, callers -/
def ChR (μ : PM) : List PE → List PanicEntry → Prop
  | [], [] => True
  | (v, b) :: l, e :: m => VR μ v e.v ∧ e.recovered = b ∧ e.goexit = false ∧ ChR μ l m
  | _, _ => False
def MR (μ : PM) : Md → FrameMode → Prop
  | .returning, .returning => True
  | .panicking c, .panicking ch => ChR μ c ch
  | _, _ => False
inductive Cal (μ : PM) (kind : CallKind) : List Frame → Option Md → List Frame → Prop where
  | none {cs : List Frame} (hk : kind = .normal) : Cal μ kind cs none cs
  | some {c0 : Frame} {rest : List Frame} {u : Md} {m : FrameMode} (hk : kind = .deferred) (h : MR μ u m) : Cal μ kind (c0 :: rest) (some u) ({ c0 with mode := m } :: rest)
def DsR (μ : PM) : List Dfr → List Deferred → Prop
  | [], [] => True
  | d :: l, e :: m => DfrR μ d e ∧ DsR μ l m
  | _, _ => False
theorem ChR.mono {μ ν : PM} (hle : μ.le ν) : ∀ {l : List PE} {m : List PanicEntry}, ChR μ l m → ChR ν l m
  | [], [], _ => trivial
  | (_, _) :: _, _ :: _, h => ⟨h.1.mono hle, h.2.1, h.2.2.1, ChR.mono hle h.2.2.2⟩
  | [], _ :: _, h => h.elim
  | (_, _) :: _, [], h => h.elim
theorem MR.mono {μ ν : PM} (hle : μ.le ν) {u : Md} {m : FrameMode} (h : MR μ u m) : MR ν u m := by
  cases u <;> cases m <;> first | exact h | exact ChR.mono hle h
theorem Cal.mono {μ ν : PM} (hle : μ.le ν) {kind : CallKind} {c0 cs : List Frame} {md : Option Md} (h : Cal μ kind c0 md cs) : Cal ν kind c0 md cs := by
  cases h with
  | none hk => exact .none hk
  | some hk h => exact .some hk (h.mono hle)
theorem DfrR.mono {μ ν : PM} (hle : μ.le ν) {d : Dfr} {e : Deferred} (h : DfrR μ d e) : DfrR ν d e := by
  cases d with
  | fn f args => obtain ⟨rs, h1, h2⟩ := h; exact ⟨rs, h1.mono hle, h2⟩
  | mark b => obtain ⟨l, h1, h2⟩ := h; exact ⟨l, hle _ _ h1, h2⟩
theorem DsR.mono {μ ν : PM} (hle : μ.le ν) : ∀ {l : List Dfr} {m : List Deferred}, DsR μ l m → DsR ν l m
  | [], [], _ => trivial
  | _ :: _, _ :: _, h => ⟨h.1.mono hle, DsR.mono hle h.2⟩
  | [], _ :: _, h => h.elim
  | _ :: _, [], h => h.elim

structure SR (P : Program) (μ : PM) (n : Nat) (kind : CallKind) (c0 : List Frame) (s : S) (a : Act) (cs : List Frame) (w : World) : Prop where
  rel : Rel P μ s.h w
  fr : FR μ s.F n a.tmps
  df : DsR μ s.ds a.defers
  cal : Cal μ kind c0 s.md cs

abbrev I0 : Machine → Prop := fun _ => True
def ER (μ : PM) : X → Exit → Prop
  | .normal, .normal | .ret, .ret => True
  | .exit i, .exit j => i = j
  | .panic c, .panic ch => ChR μ c ch
  | _, _ => False
theorem ER.mono {μ ν : PM} (hle : μ.le ν) {x : X} {e : Exit} (h : ER μ x e) : ER ν x e := by
  cases x <;> cases e <;> first | exact h | exact ChR.mono hle h
/-- What a run of the machine from m on comes to. -/
def XOk (P : Program) (n : Nat) (b : Frame) (c0 : List Frame) (k : List Item) (m : Machine) (μ : PM) (h : Hp) (w : World) : XR → Prop
  | .bad _ => True
  | .x e s' => ∃ μ' a' w' cs' e', Ext μ h w μ' s'.h w' ∧ SR P μ' n b.kind c0 s' a' cs' w' ∧ ER μ' e e' ∧ ArrivesIn I0 P m b k cs' e' a' w'
theorem XOk.of_steps {n : Nat} {b : Frame} {c0 : List Frame} {k : List Item} {m m1 : Machine} {μ μ1 : PM} {h h1 : Hp} {w w1 : World} {r : XR} (hs : StepsIn I0 P m m1) (hx : Ext μ h w μ1 h1 w1) (k2 : XOk P n b c0 k m1 μ1 h1 w1 r) : XOk P n b c0 k m μ h w r := by
  cases r with
  | bad _ => trivial
  | x e s' =>
    obtain ⟨μ', a', w', cs', e', g1, g2, g3, g4⟩ := k2
    exact ⟨μ', a', w', cs', e', hx.trans g1, g2, g3, .of_steps hs g4⟩

/-- Calls. -/
def COk (P : Program) (f : FuncId) (kind : CallKind) (c0 : List Frame) (m : Machine) (μ : PM) (h : Hp) (w : World) : CR → Prop
  | .bad _ => True
  | .ret v md h' => ∃ μ' w' cs' r fr, Ext μ h w μ' h' w' ∧ Rel P μ' h' w' ∧ VR μ' v r ∧ Cal μ' kind c0 md cs' ∧ StepsIn I0 P m (lone fr cs' w') ∧ fr.fn = f ∧ fr.kind = kind ∧ fr.going P w' (.returned r)
  | .pan c md h' => ∃ μ' w' cs' ch fr, Ext μ h w μ' h' w' ∧ Rel P μ' h' w' ∧ ChR μ' c ch ∧ Cal μ' kind c0 md cs' ∧ StepsIn I0 P m (lone fr cs' w') ∧ fr.fn = f ∧ fr.kind = kind ∧ fr.going P w' (.panicked ch)
/-- Rounds. -/
def ROk (P : Program) (ld : Loc) (rs : List Value) (c : Frame) (cs : List Frame) (μ : PM) (h : Hp) (w : World) : CR → Prop
  | .ret v _ h' => ∃ μ' w' r f tmps assign body, (Instr.yield ld.r rs.toArray).run P w = .ok (.round ld.r f tmps assign body) w ∧ Ext μ h w μ' h' w' ∧ Rel P μ' h' w' ∧ VR μ' v r ∧
      StepsIn I0 P (lone (Frame.round ld.r f tmps assign body .normal) (c :: cs) w) (lone (c.finish r) cs w')
  | .bad _ => True
  | .pan _ _ _ => False
def RndR (μ : PM) (b : Frame) : Option Nat → Prop
  | none => b.roundOf = none
  | some l => ∃ ld, μ l = some ld ∧ b.roundOf = some ld.r

structure EvOk (P : Program) (ev : Ev) : Prop where
  exec : ∀ (ctx : Ctx) (c : Code) (s : S) (μ : PM) (n : Nat) (b : Frame) (c0 cs : List Frame) (a : Act) (w : World) (k : List Item),
    SR P μ n b.kind c0 s a cs w → b.fn = ctx.fn → RndR μ b ctx.rnd → okCode P n c = true → XOk P n b c0 k (lone (b.atR a (.code c :: k)) cs w) μ s.h w (ev.exec ctx c s)
  call : ∀ (f : FuncId) (args : List V) (rs : List Value) (md : Option Md) (kind : CallKind) (μ : PM) (h : Hp) (w : World) (c0 cs : List Frame),
    Rel P μ h w → VRs μ args rs → Cal μ kind c0 md cs → COk P f kind c0 (lone (Frame.enter P f rs.toArray kind) cs w) μ h w (ev.call f args md h)
  round : ∀ (l : Nat) (args : List V) (rs : List Value) (ld : Loc) (μ : PM) (h : Hp) (w : World) (c : Frame) (cs : List Frame),
    Rel P μ h w → VRs μ args rs → μ l = some ld → ROk P ld rs c cs μ h w (ev.round l args h)
theorem evBad_ok (P : Program) : EvOk P evBad := ⟨fun _ _ _ _ _ _ _ _ _ _ _ _ _ _ _ => trivial, fun _ _ _ _ _ _ _ _ _ _ _ _ _ => trivial, fun _ _ _ _ _ _ _ _ _ _ _ _ => trivial⟩

/-! ### One operation of a region -/
section steps
variable {b : Frame} {k : List Item} {cs : List Frame} {ops : Array Oper} {i : Nat} {rest : List Nat} {o : Oper} {w' : World}
theorem fin_atR (ho : ops[i]? = some o) (v : Value) : (b.atR a (.inRegion ops (i :: rest) :: k)).finish v = b.atR (a.put o.dst v) (.inRegion ops rest :: k) := by
  rw [Frame.finish_atR, ho]; rfl
theorem step_val {r : Value} (ho : ops[i]? = some o) (hw : Region.wanted o (yielded ops a.tmps) = true) (hr : (o.semAt b.roundOf a.eval).run P w = .ok (.value r) w') :
    step P (lone (b.atR a (.inRegion ops (i :: rest) :: k)) cs w) = .next (lone (b.atR (a.put o.dst r) (.inRegion ops rest :: k)) cs w') :=
  step_lone_go (by rw [stepGR_op (P := P) (b := b) (k := k) (cs := cs) (w := w) (rest := rest) ho hw, ← fin_atR ho]; simp [stepG.apply, hr])
theorem step_skp (ho : ops[i]? = some o) (hw : Region.wanted o (yielded ops a.tmps) = true) (hr : (o.semAt b.roundOf a.eval).run P w = .ok .skip w') :
    step P (lone (b.atR a (.inRegion ops (i :: rest) :: k)) cs w) = .next (lone (b.atR (a.put o.dst undef) (.inRegion ops rest :: k)) cs w') :=
  step_lone_go (by rw [stepGR_op (P := P) (b := b) (k := k) (cs := cs) (w := w) (rest := rest) ho hw, ← fin_atR ho]; simp [stepG.apply, hr])
theorem step_dfr {d : Deferred} (ho : ops[i]? = some o) (hw : Region.wanted o (yielded ops a.tmps) = true) (hr : (o.semAt b.roundOf a.eval).run P w = .ok (.defer d) w') :
    step P (lone (b.atR a (.inRegion ops (i :: rest) :: k)) cs w) = .next (lone (b.atR ({ a with defers := d :: a.defers }.put o.dst undef) (.inRegion ops rest :: k)) cs w') :=
  step_lone_go (by
    have : ({ b.atR a (.inRegion ops (i :: rest) :: k) with defers := d :: a.defers } : Frame).finish undef =
        b.atR ({ a with defers := d :: a.defers }.put o.dst undef) (.inRegion ops rest :: k) := fin_atR (a := { a with defers := d :: a.defers }) ho undef
    rw [stepGR_op (P := P) (b := b) (k := k) (cs := cs) (w := w) (rest := rest) ho hw]
    simp only [stepG.apply, Sem.runT_eq, hr, GStep.bare_after]
    exact congrArg (fun fr => GStep.go { frame := fr, callers := cs, status := .running, dying := none } w') this)
theorem step_ent {f : FuncId} {args : Array Value} (ho : ops[i]? = some o) (hw : Region.wanted o (yielded ops a.tmps) = true) (hr : (o.semAt b.roundOf a.eval).run P w = .ok (.enter f args) w') :
    step P (lone (b.atR a (.inRegion ops (i :: rest) :: k)) cs w) = .next (lone (Frame.enter P f args .normal) (b.atR a (.inRegion ops (i :: rest) :: k) :: cs) w') :=
  step_lone_go (by rw [stepGR_op (P := P) (b := b) (k := k) (cs := cs) (w := w) (rest := rest) ho hw]; simp [stepG.apply, hr, Frame.atR])
theorem step_rnd {l : Nat} {f : FuncId} {tmps : Array Value} {assign body : Code} (ho : ops[i]? = some o) (hw : Region.wanted o (yielded ops a.tmps) = true) (hr : (o.semAt b.roundOf a.eval).run P w = .ok (.round l f tmps assign body) w') :
    step P (lone (b.atR a (.inRegion ops (i :: rest) :: k)) cs w) = .next (lone (Frame.round l f tmps assign body .normal) (b.atR a (.inRegion ops (i :: rest) :: k) :: cs) w') :=
  step_lone_go (by rw [stepGR_op (P := P) (b := b) (k := k) (cs := cs) (w := w) (rest := rest) ho hw]; simp [stepG.apply, hr, Frame.atR])
theorem step_pan {v : Value} (ho : ops[i]? = some o) (hw : Region.wanted o (yielded ops a.tmps) = true) (hr : (o.semAt b.roundOf a.eval).run P w = .halt (.panic v) w') :
    step P (lone (b.atR a (.inRegion ops (i :: rest) :: k)) cs w) = .next (lone { b.atR a (.inRegion ops (i :: rest) :: k) with mode := .panicking [{ v, recovered := false }] } cs w') :=
  step_lone_go (by rw [stepGR_op (P := P) (b := b) (k := k) (cs := cs) (w := w) (rest := rest) ho hw, ← Frame.raise_atR]; simp [stepG.apply, hr])
theorem step_rec (hk : b.kind = .deferred) (hn : b.roundOf = none) (ho : ops[i]? = some o) (hw : Region.wanted o (yielded ops a.tmps) = true) (hr : (o.semAt b.roundOf a.eval).run P w = .ok .recover w') :
    step P (lone (b.atR a (.inRegion ops (i :: rest) :: k)) cs w) = .next (match recoverD cs with
      | some (v, cs') => lone (b.atR (a.put o.dst v) (.inRegion ops rest :: k)) cs' w'
      | none => lone (b.atR (a.put o.dst .nilIface) (.inRegion ops rest :: k)) cs w') := by
  have hk' : (b.atR a (.inRegion ops (i :: rest) :: k)).kind = .deferred := hk
  have htr := tryRecover_deferred hk' cs
  have hg := stepGR_op (P := P) (b := b) (k := k) (cs := cs) (w := w) (rest := rest) ho hw
  cases hrec : recoverD cs with
  | none =>
    refine step_lone_go ?_
    rw [hg, ← fin_atR ho]
    rw [hn] at hr
    simp only [Frame.atR, hn] at htr ⊢
    simp [stepG.apply, hr, htr, hrec]
  | some p =>
    obtain ⟨v, cs'⟩ := p
    refine step_lone_go ?_
    rw [hg, ← fin_atR ho]
    rw [hn] at hr
    simp only [Frame.atR, hn] at htr ⊢
    simp [stepG.apply, hr, htr, hrec]
end steps

theorem wanted_eq {n : Nat} (hF : FR μ F n a.tmps) {ops : Array Oper} (hd : ∀ o ∈ ops, ∀ d, o.dst = some d → d < n) (o : Oper) : wantedV ops F o = Region.wanted o (yielded ops a.tmps) := by
  unfold wantedV Region.wanted
  cases o.guard with
  | none => rfl
  | some g =>
    obtain ⟨j, want⟩ := g
    dsimp only
    unfold yielded
    cases hj : ops[j]? with
    | none => simp
    | some p =>
      cases hp : p.dst with
      | none => simp [hp]
      | some d =>
        have hdn := hd p (Array.mem_of_getElem? hj) d hp
        have hv := hF.2 d hdn
        have hlt : d < a.tmps.size := by rw [hF.1]; exact hdn
        simp only [Option.bind_some, hp, Option.map_some, Array.getElem?_eq_getElem hlt]
        simp only [Array.getD_eq_getD_getElem?, Array.getElem?_eq_getElem hlt, Option.getD_some] at hv
        cases hg : F.get (Pos.of d) with
        | none =>
          rw [hg] at hv
          simp only [Option.getD_none, vundef] at hv
          generalize a.tmps[d] = r at hv ⊢
          cases hv with | tuple hl => cases hl; rfl
        | some v =>
          rw [hg] at hv
          simp only [Option.getD_some] at hv
          generalize a.tmps[d] = r at hv ⊢
          cases hv <;> first | rfl | (simp; done)
theorem opV_sound (hE : ExtOk P) (hN : NumOk P) (R : Rel P μ h w) {o : Oper} (ok : OpOk P μ F a o) : OutR P μ h w (execOp a.eval o) (opV P F h o) := by
  unfold opV
  split
  · split
    · rename_i ob f hf
      obtain ⟨obj, cap, r, h1, h2, h3⟩ := alloc_sound ok hf
      obtain ⟨g1, g2⟩ := new_sound R obj ob cap (h3 w _ (PM.le_add _ R.dom))
      exact ⟨_, _, _, h1 w, g2, g1, h2 _ _ _ (PM.add_same _ _ _)⟩
    · trivial
  · exact eff_sound hE hN R ok
  · split
    · rename_i v hv
      obtain ⟨r, h1, h2⟩ := pure_sound ok hv
      exact ⟨r, w, μ, h2 w, .refl _ _ _, R, h1⟩
    · split
      · rename_i v hv
        obtain ⟨r, h1, h2⟩ := read_sound R ok hv
        exact ⟨r, w, μ, h2, .refl _ _ _, R, h1⟩
      · exact eff_sound hE hN R ok
theorem opV_dfr {o : Oper} {c : Call} (ho : o.op = .defer c) : (∃ y, opV P F h o = .bad y) ∨ ∃ d, opV P F h o = .defer d := by
  have hk : kindO o = .ef := by unfold kindO; rw [ho]
  unfold opV
  rw [hk]
  dsimp only
  unfold effV
  rw [ho]
  dsimp only
  split
  · split
    · exact .inr ⟨_, rfl⟩
    · exact .inl ⟨_, rfl⟩
  · exact .inl ⟨_, rfl⟩

theorem RndR.mono {μ ν : PM} (hle : μ.le ν) {b : Frame} {rnd : Option Nat} (h : RndR μ b rnd) : RndR ν b rnd := by
  cases rnd with
  | none => exact h
  | some l => obtain ⟨ld, h1, h2⟩ := h; exact ⟨ld, hle _ _ h1, h2⟩
theorem put_defers (a : Act) (d : Option Tmp) (v : Value) : (a.put d v).defers = a.defers := by cases d <;> rfl
theorem SR.put {n : Nat} {kind : CallKind} {c0 cs : List Frame} {s : S} {μ' : PM} {h' : Hp} {w' : World} (k : SR P μ n kind c0 s a cs w) (hx : Ext μ s.h w μ' h' w') (R : Rel P μ' h' w') (d : Option Tmp) {v : V} {r : Value} (hv : VR μ' v r) :
    SR P μ' n kind c0 { s with F := setO d v s.F, h := h' } (a.put d r) cs w' :=
  ⟨R, (k.fr.mono hx.le).put d hv, by rw [put_defers]; exact k.df.mono hx.le, k.cal.mono hx.le⟩
theorem Cal.normal_inv {kind : CallKind} {c0 cs : List Frame} {md : Option Md} (h : Cal μ kind c0 md cs) (hk : kind = .normal) : cs = c0 := by
  cases h with
  | none _ => rfl
  | some h1 _ => rw [hk] at h1; cases h1
theorem going_leaving {fr : Frame} {w : World} {e : Ending} (hk : fr.kind = .normal) (hg : fr.going P w e) : fr.leaving P w e := by
  cases e with
  | returned v => obtain ⟨h1, h2, fn, h3, h4⟩ := hg; exact ⟨h1, h2, hk, fn, h3, h4⟩
  | panicked ch => exact hg
  | outgrown => trivial

theorem ops_sound {ev : Ev} (hev : EvOk P ev) (hE : ExtOk P) (hN : NumOk P) {ops : Array Oper} {n : Nat} {b : Frame} {c0 : List Frame} {k : List Item} {rnd : Option Nat} (hok : ∀ o ∈ ops, okOp P n o = true) :
    ∀ (l : List Oper) (i : Nat), ops.toList.drop i = l → ∀ (s : S) (μ : PM) (a : Act) (cs : List Frame) (w : World), SR P μ n b.kind c0 s a cs w → RndR μ b rnd →
      XOk P n b c0 k (lone (b.atR a (.inRegion ops (List.range' i l.length) :: k)) cs w) μ s.h w (opsV P ev rnd ops l s)
  | [], i, hl, s, μ, a, cs, w, hs, hr => by
    refine ⟨μ, a, w, cs, .normal, .refl _ _ _, hs, trivial, ?_⟩
    exact .one trivial stepR_region_end
  | o :: rest, i, hl, s, μ, a, cs, w, hs, hr => by
    have hi : ops[i]? = some o := by
      have : ops.toList[i]? = some o := by
        have := List.getElem?_drop (xs := ops.toList) (i := i) (j := 0)
        rw [hl] at this
        simpa using this.symm
      rwa [Array.getElem?_toList] at this
    have hrest : ops.toList.drop (i + 1) = rest := by
      rw [← List.drop_drop (i := 1) (j := i), hl]
      rfl
    have hmem : o ∈ ops := Array.mem_of_getElem? hi
    have hoo := hok o hmem
    have hOp : OpOk P μ s.F a o := okOp_op hs.rel hs.fr hoo
    have hdst : ∀ o ∈ ops, ∀ d, o.dst = some d → d < n := fun o ho d hd => by
      have := hok o ho
      unfold okOp at this
      simp only [Bool.and_eq_true] at this
      have := this.1.1.1
      rw [hd] at this
      simpa using this
    have hwt := wanted_eq hs.fr hdst o
    rw [List.length_cons, List.range'_succ]
    unfold opsV
    rw [hwt]
    have IH := fun (s' : S) (μ' : PM) (a' : Act) (cs' : List Frame) (w' : World) => ops_sound hev hE hN (b := b) (c0 := c0) (k := k) (rnd := rnd) hok rest (i + 1) hrest s' μ' a' cs' w'
    split
    · rename_i hw
      have hout := opV_sound hE hN hs.rel hOp
      have hsem : (∀ c, o.op ≠ .defer c) → o.semAt b.roundOf a.eval = execOp a.eval o := fun hnd => Oper.semAt_eq _ _ _ hnd
      have hnd : (∀ y, opV P s.F s.h o ≠ .bad y) → (∀ d, opV P s.F s.h o ≠ .defer d) → ∀ c, o.op ≠ .defer c := fun h1 h2 c hc => by
        rcases opV_dfr (P := P) (F := s.F) (h := s.h) hc with ⟨y, hy⟩ | ⟨d, hd⟩
        · exact h1 y hy
        · exact h2 d hd
      cases hov : opV P s.F s.h o with
      | bad y => trivial
      | val v h' =>
        rw [hov] at hout hnd
        obtain ⟨r, w', μ', g1, g2, g3, g4⟩ := hout
        have he := hsem (hnd (fun _ h => by cases h) (fun _ h => by cases h))
        exact .of_steps (.one trivial (step_val hi hw (by rw [he]; exact g1))) g2 (IH _ μ' _ cs w' (hs.put g2 g3 o.dst g4) (hr.mono g2.le))
      | skip h' =>
        rw [hov] at hout hnd
        obtain ⟨w', μ', g1, g2, g3⟩ := hout
        have he := hsem (hnd (fun _ h => by cases h) (fun _ h => by cases h))
        exact .of_steps (.one trivial (step_skp hi hw (by rw [he]; exact g1))) g2 (IH _ μ' _ cs w' (hs.put g2 g3 o.dst vr_undef) (hr.mono g2.le))
      | enter f args =>
        rw [hov] at hout hnd
        obtain ⟨rs, g1, g2⟩ := hout
        have he := hsem (hnd (fun _ h => by cases h) (fun _ h => by cases h))
        have hst := step_ent (P := P) (b := b) (k := k) (cs := cs) (rest := List.range' (i + 1) rest.length) hi hw (by rw [he]; exact g2)
        have hcall := hev.call f args rs none .normal μ s.h w (b.atR a (.inRegion ops (i :: List.range' (i + 1) rest.length) :: k) :: cs) (b.atR a (.inRegion ops (i :: List.range' (i + 1) rest.length) :: k) :: cs) hs.rel g1 (.none rfl)
        dsimp only
        cases hcr : ev.call f args none s.h with
        | bad y => trivial
        | ret v md h' =>
          rw [hcr] at hcall
          obtain ⟨μ', w', cs', r, fr, k1, k2, k3, k4, k5, k6, k7, k8⟩ := hcall
          obtain rfl := k4.normal_inv rfl
          have hlv := step_leave_returned (P := P) (c := b.atR a (.inRegion ops (i :: List.range' (i + 1) rest.length) :: k)) (cs := cs) (going_leaving k7 k8)
          rw [fin_atR hi] at hlv
          exact .of_steps (.head trivial hst (k5.trans (.one trivial hlv))) k1 (IH _ μ' _ cs w' (hs.put k1 k2 o.dst k3) (hr.mono k1.le))
        | pan c md h' =>
          rw [hcr] at hcall
          obtain ⟨μ', w', cs', ch, fr, k1, k2, k3, k4, k5, k6, k7, k8⟩ := hcall
          obtain rfl := k4.normal_inv rfl
          have hlv := step_leave_panicked (P := P) (c := b.atR a (.inRegion ops (i :: List.range' (i + 1) rest.length) :: k)) (cs := cs) (going_leaving k7 k8)
          rw [Frame.raise_atR] at hlv
          exact ⟨μ', a, w', cs, .panic ch, k1, ⟨k2, hs.fr.mono k1.le, hs.df.mono k1.le, hs.cal.mono k1.le⟩, k3, _, .head trivial hst (k5.trans (.one trivial hlv))⟩
      | round l args =>
        rw [hov] at hout hnd
        obtain ⟨ld, rs, g0, g1, g2⟩ := hout
        have he := hsem (hnd (fun _ h => by cases h) (fun _ h => by cases h))
        have hround := hev.round l args rs ld μ s.h w (b.atR a (.inRegion ops (i :: List.range' (i + 1) rest.length) :: k)) cs hs.rel g1 g0
        dsimp only
        cases hcr : ev.round l args s.h with
        | bad y => trivial
        | ret v md h' =>
          rw [hcr] at hround
          obtain ⟨μ', w', r, f, tmps, assign, body, k0, k1, k2, k3, k4⟩ := hround
          have hst := step_rnd (P := P) (b := b) (k := k) (cs := cs) (rest := List.range' (i + 1) rest.length) hi hw (by rw [he, g2]; exact k0)
          rw [fin_atR hi] at k4
          exact .of_steps (.head trivial hst k4) k1 (IH _ μ' _ cs w' (hs.put k1 k2 o.dst k3) (hr.mono k1.le))
        | pan c md h' => rw [hcr] at hround; exact hround.elim
      | panic v =>
        rw [hov] at hout hnd
        obtain ⟨r, g1, g2⟩ := hout
        have he := hsem (hnd (fun _ h => by cases h) (fun _ h => by cases h))
        exact ⟨μ, a, w, cs, .panic [{ v := r, recovered := false }], .refl _ _ _, hs, ⟨g1, rfl, rfl, trivial⟩, _, .one trivial (step_pan hi hw (by rw [he]; exact g2))⟩
      | defer d =>
        rw [hov] at hout
        obtain ⟨r, g1, g2⟩ := hout
        dsimp only
        cases rnd with
        | some l => trivial
        | none =>
          have hro : b.roundOf = none := hr
          have hst := step_dfr (P := P) (b := b) (k := k) (cs := cs) (rest := List.range' (i + 1) rest.length) hi hw (by rw [hro, Oper.semAt_none]; exact g2)
          refine .of_steps (.one trivial hst) (.refl _ _ _) (IH _ μ _ cs w ⟨hs.rel, ?_, ?_, hs.cal⟩ hr)
          · exact FR.put (a := { a with defers := r :: a.defers }) hs.fr o.dst vr_undef
          · rw [put_defers]; exact ⟨g1, hs.df⟩
      | recover =>
        rw [hov] at hout hnd
        have he := hsem (hnd (fun _ h => by cases h) (fun _ h => by cases h))
        dsimp only
        cases rnd with
        | some l => trivial
        | none =>
          have hro : b.roundOf = none := hr
          have hcal := hs.cal
          have mdEta : ∀ md, s.md = md → s = { s with md := md } := fun md h => by subst h; rfl
          cases hmd : s.md with
          | none => simp only [Option.isSome_none, Bool.false_eq_true, if_false]; trivial
          | some u =>
            rw [hmd] at hcal
            cases hcal with
            | @some cf rst _ m hk hm =>
            have hst := step_rec (P := P) (b := b) (k := k) (cs := { cf with mode := m } :: rst) (rest := List.range' (i + 1) rest.length) hk hro hi hw (by rw [he]; exact hout)
            have quiet : recoverD ({ cf with mode := m } :: rst) = none → XOk P n b (cf :: rst) k (lone (b.atR a (.inRegion ops (i :: List.range' (i + 1) rest.length) :: k)) ({ cf with mode := m } :: rst) w) μ s.h w (opsV P ev none ops rest { F := setO o.dst .nilIface s.F, ds := s.ds, md := some u, h := s.h }) := fun hn => by
              rw [hn] at hst
              have h2 := IH _ μ _ _ w (hs.put (.refl _ _ _) hs.rel o.dst .nilIface) hr
              simp only [hmd] at h2
              exact .of_steps (.one trivial hst) (.refl _ _ _) h2
            simp only [Option.isSome_none, Bool.false_eq_true, if_false]
            cases u with
            | returning =>
              cases m with
              | returning => exact quiet rfl
              | _ => exact hm.elim
            | panicking c =>
              cases m with
              | panicking ch =>
                cases c with
                | nil =>
                  cases ch with
                  | nil => exact quiet rfl
                  | cons _ _ => exact hm.elim
                | cons p c =>
                  obtain ⟨v, bb⟩ := p
                  cases ch with
                  | nil => exact hm.elim
                  | cons e ch =>
                    obtain ⟨ev', er, eg⟩ := e
                    obtain ⟨m1, m2, m3, m4⟩ := hm
                    simp only at m1 m2 m3
                    subst m2 m3
                    cases er with
                    | true => exact quiet rfl
                    | false =>
                      have hrec : recoverD ({ cf with mode := .panicking ({ v := ev', recovered := false, goexit := false } :: ch) } :: rst) = some (ev', { cf with mode := .panicking ({ v := ev', recovered := true } :: ch) } :: rst) := rfl
                      rw [hrec] at hst
                      exact .of_steps (.one trivial hst) (.refl _ _ _) (IH _ μ _ _ w ⟨hs.rel, hs.fr.put o.dst m1, by rw [put_defers]; exact hs.df, .some hk ⟨m1, rfl, rfl, m4⟩⟩ hr)
              | _ => exact hm.elim
    · rename_i hw
      have hst := stepR_op_skip (P := P) (b := b) (a := a) (k := k) (cs := cs) (w := w) (ops := ops) (i := i) (rest := List.range' (i + 1) rest.length) (by
        rw [hi]; simp only [Option.map_some, Option.getD_some]; simpa using hw)
      rw [hi] at hst
      simp only [Option.bind_some] at hst
      exact .of_steps (.one trivial hst) (.refl _ _ _) (IH _ μ _ cs w (hs.put (.refl _ _ _) hs.rel o.dst vr_undef) hr)
end Go.Vm
