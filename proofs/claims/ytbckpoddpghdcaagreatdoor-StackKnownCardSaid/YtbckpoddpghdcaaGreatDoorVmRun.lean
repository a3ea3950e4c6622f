/- Calls: how a frame leaves. -/
import Derived.Test.YtbckpoddpghdcaaGreatDoorVmExec
import Derived.RangeFuncLeaves
import Derived.RangeFuncRecord
namespace Go.Vm
open Go.RowKit
set_option linter.unusedSimpArgs false
set_option linter.unusedVariables false

variable {P : Program} {μ : PM} {h : Hp} {w : World} {F : Frm} {a : Act}

theorem results_list (R : Rel P μ h w) {n : Nat} {tmps : Array Value} (hF : FR μ F n tmps) : ∀ (l : List ResultVar) (vs : List V), resultsV P F h l = some vs →
    (∀ r ∈ l, match r with | .tmp t => t < n | .cell a t => a < n ∧ wfT P t = true) →
    ∃ rs, VRs μ vs rs ∧ (l.mapM (fun | .tmp t => Pure.pure (tmps.getD t undef) | .cell a t => do loadVar t (← asAddr (tmps.getD a undef)) : ResultVar → Sem Value)).run P w = .ok rs w
  | [], vs, hv, _ => by
    simp only [resultsV, Option.some.injEq] at hv
    subst hv
    exact ⟨[], .nil, rfl⟩
  | r :: l, vs, hv, hok => by
    simp only [resultsV] at hv
    split at hv
    · rename_i v vs' h1 h2
      simp only [Option.some.injEq] at hv
      subst hv
      obtain ⟨rs, g1, g2⟩ := results_list R hF l vs' h2 (fun r hr => hok r (List.mem_cons_of_mem _ hr))
      have hr := hok r List.mem_cons_self
      cases r with
      | tmp t =>
        simp only [Option.some.injEq] at h1
        subst h1
        refine ⟨_, .cons (hF.2 t hr) g1, ?_⟩
        rw [List.mapM_cons]
        simp only [Sem.run_bind, Sem.run_pure, Result.andThen_ok]
        rw [g2]
        rfl
      | cell x t =>
        simp only at h1 hr
        split at h1
        · rename_i b o hx
          have hxv := hF.2 x hr.1
          rw [hx] at hxv
          simp only [Option.getD_some] at hxv
          obtain ⟨d, hd⟩ := wf_und hr.2
          generalize hX : tmps.getD x undef = X at hxv
          cases hxv with | @ptr _ _ ld hb =>
          obtain ⟨r', k1, k2⟩ := loadVar_sound R ⟨d, hd⟩ hb h1
          refine ⟨_, .cons k1 g1, ?_⟩
          rw [List.mapM_cons]
          simp only [Sem.run_bind, hX]
          rw [show (asAddr (.pointer (some ⟨ld.r, ld.off + o, none⟩))).run P w = .ok ⟨ld.r, ld.off + o, none⟩ w from rfl]
          simp only [Result.andThen_ok]
          rw [k2]
          simp only [Result.andThen_ok, Sem.run_bind]
          rw [g2]
          rfl
        · cases h1
    · cases hv
theorem results_sound (R : Rel P μ h w) {n : Nat} {tmps : Array Value} (hF : FR μ F n tmps) {fn : Func} {vs : List V} (hv : resultsV P F h fn.results.toList = some vs)
    (hok : ∀ r ∈ fn.results.toList, match r with | .tmp t => t < n | .cell a t => a < n ∧ wfT P t = true) :
    ∃ r, VR μ (match vs with | [v] => v | l => .tuple l) r ∧ (results fn tmps).run P w = .ok r w := by
  obtain ⟨rs, h1, h2⟩ := results_list R hF fn.results.toList vs hv hok
  refine ⟨if h : rs.toArray.size = 1 then rs.toArray[0] else .tuple rs.toArray, ?_, ?_⟩
  · cases h1 with
    | nil => exact .tuple .nil
    | cons a t =>
      cases t with
      | nil => simpa using a
      | cons b t =>
        simp
        exact .tuple (.cons a (.cons b t))
  · unfold results
    rw [Array.mapM_eq_mapM_toList, Sem.run_bind, map_eq_pure_bind, Sem.run_bind]
    exact Eq.trans (congrArg (fun x : Result (List Value) => ((x.andThen fun a w' => Sem.run P (Pure.pure a.toArray) w').andThen fun a w' => Sem.run P (Pure.pure (if h : a.size = 1 then a[0] else Value.tuple a)) w')) h2) rfl

theorem settle_sound {u : Md} {m : FrameMode} (hm : MR μ u m) : MR μ (settleV u) (settle m) := by
  have drop : ∀ {l : List PE} {q : List PanicEntry}, ChR μ l q → q.dropWhile (!·.goexit) = [] := by
    intro l
    induction l with
    | nil => intro q hq; cases q with | nil => rfl | cons _ _ => exact hq.elim
    | cons p l ih =>
      intro q hq
      obtain ⟨v, b⟩ := p
      cases q with
      | nil => exact hq.elim
      | cons e q =>
        rw [List.dropWhile_cons, if_pos (by rw [hq.2.2.1]; rfl)]
        exact ih hq.2.2.2
  cases u with
  | returning =>
    cases m with
    | returning => exact trivial
    | _ => exact hm.elim
  | panicking c =>
    cases m with
    | panicking ch =>
      cases c with
      | nil => cases ch with | nil => exact trivial | cons _ _ => exact hm.elim
      | cons p c =>
        obtain ⟨v, b⟩ := p
        cases ch with
        | nil => exact hm.elim
        | cons e ch =>
          obtain ⟨ev, er, eg⟩ := e
          obtain ⟨m1, m2, m3, m4⟩ := hm
          simp only at m2
          subst m2
          cases er with
          | true =>
            simp only [settle, drop m4]
            exact trivial
          | false => exact ⟨m1, rfl, m3, m4⟩
    | _ => exact hm.elim
theorem ChR.append : ∀ {l l2 : List PE} {m m2 : List PanicEntry}, ChR μ l m → ChR μ l2 m2 → ChR μ (l ++ l2) (m ++ m2)
  | [], _, [], _, _, h2 => h2
  | (_, _) :: _, _, _ :: _, _, h1, h2 => ⟨h1.1, h1.2.1, h1.2.2.1, ChR.append h1.2.2.2 h2⟩
  | [], _, _ :: _, _, h, _ => h.elim
  | (_, _) :: _, _, [], _, h, _ => h.elim
theorem raised_sound {u : Md} {m : FrameMode} {c : List PE} {ch : List PanicEntry} (hm : MR μ u m) (hc : ChR μ c ch) : MR μ (raisedV u c) (raised m ch) := by
  cases u with
  | returning =>
    cases m with
    | returning => exact hc
    | _ => exact hm.elim
  | panicking o =>
    cases m with
    | panicking q => exact ChR.append hc hm
    | _ => exact hm.elim

/-! ### How a frame leaves -/
theorem COk.of_steps {f : FuncId} {kind : CallKind} {c0 : List Frame} {m m1 : Machine} {μ1 : PM} {h1 : Hp} {w1 : World} {r : CR} (hs : StepsIn I0 P m m1) (hx : Ext μ h w μ1 h1 w1) (k : COk P f kind c0 m1 μ1 h1 w1 r) : COk P f kind c0 m μ h w r := by
  cases r with
  | bad _ => trivial
  | ret v md h' =>
    obtain ⟨μ', w', cs', r, fr, k1, k2, k3, k4, k5, k6⟩ := k
    exact ⟨μ', w', cs', r, fr, hx.trans k1, k2, k3, k4, hs.trans k5, k6⟩
  | pan c md h' =>
    obtain ⟨μ', w', cs', r, fr, k1, k2, k3, k4, k5, k6⟩ := k
    exact ⟨μ', w', cs', r, fr, hx.trans k1, k2, k3, k4, hs.trans k5, k6⟩
theorem DsR.nil_inv {l : List Deferred} (h : DsR μ [] l) : l = [] := by cases l with | nil => rfl | cons _ _ => exact h.elim
theorem take_sound (R : Rel P μ h w) {b : Nat} {l : Loc} (hb : μ b = some l) (hg : h.get b = some (.deferred true)) :
    ∃ w', (Instr.takeDeferred l.r).run P w = .ok [] w' ∧ Ext μ h w μ (h.put b (.deferred false)) w' ∧ Rel P μ (h.put b (.deferred false)) w' := by
  obtain ⟨o, ho, hR⟩ := R.ob b l hb
  rw [hg] at ho; cases ho
  have hR' : w.heap[l.r]? = some (.deferred (some [])) := hR
  obtain ⟨x1, x2⟩ := setObj_sound R hb (by rw [hg]; trivial) _ (.deferred none) (.deferred false) hR' (fun w' hw' => hw')
  refine ⟨_, ?_, x1, x2⟩
  simp [Instr.takeDeferred, getObj, setObj, Sem.run, hR']

theorem leave_sound {ev : Ev} (hev : EvOk P ev) (hN : NumOk P) {fn : Func} {f : FuncId} {n : Nat} {kind : CallKind} {c0 : List Frame} {omd : Option Md} {F : Frm} (hf : P.funcs[f]? = some fn)
    (hok : ∀ r ∈ fn.results.toList, match r with | .tmp t => t < n | .cell a t => a < n ∧ wfT P t = true) :
    ∀ (ds : List Dfr) (u : Md) (h : Hp) (μ : PM) (w : World) (fr : Frame) (cs : List Frame), Rel P μ h w → FR μ F n fr.tmps → DsR μ ds fr.defers → MR μ u fr.mode → fr.fn = f → fr.kind = kind → Cal μ kind c0 omd cs →
      COk P f kind c0 (lone fr cs w) μ h w (leaveV P ev fn F omd ds u h)
  | [], .returning, h, μ, w, fr, cs, R, hF, hd, hm, hfn, hk, hc => by
    have hm' : fr.mode = .returning := by cases hq : fr.mode <;> rw [hq] at hm <;> first | rfl | exact hm.elim
    unfold leaveV
    split
    · rename_i v hv
      obtain ⟨r, g1, g2⟩ := results_sound R hF hv hok
      exact ⟨μ, w, cs, r, fr, .refl _ _ _, R, g1, hc, .refl _, hfn, hk, hm', hd.nil_inv, fn, by rw [hfn]; exact hf, g2⟩
    · rename_i l hl1 hl
      obtain ⟨r, g1, g2⟩ := results_sound R hF hl hok
      refine ⟨μ, w, cs, r, fr, .refl _ _ _, R, ?_, hc, .refl _, hfn, hk, hm', hd.nil_inv, fn, by rw [hfn]; exact hf, g2⟩
      cases l with
      | nil => exact g1
      | cons x l => cases l with
        | nil => exact (hl1 x rfl).elim
        | cons y l => exact g1
    · trivial
  | [], .panicking c, h, μ, w, fr, cs, R, hF, hd, hm, hfn, hk, hc => by
    unfold leaveV
    cases hq : fr.mode with
    | panicking ch =>
      rw [hq] at hm
      exact ⟨μ, w, cs, ch, fr, .refl _ _ _, R, hm, hc, .refl _, hfn, hk, hq, hd.nil_inv, fn, by rw [hfn]; exact hf⟩
    | _ => rw [hq] at hm; exact hm.elim
  | .mark b :: ds, u, h, μ, w, fr, cs, R, hF, hd, hm, hfn, hk, hc => by
    have hrun : fr.mode ≠ .run := fun hq => by rw [hq] at hm; cases u <;> exact hm.elim
    unfold leaveV
    split
    · rename_i hg
      cases hds : fr.defers with
      | nil => rw [hds] at hd; exact hd.elim
      | cons d rest =>
        rw [hds] at hd
        obtain ⟨⟨l, hb, rfl⟩, hd2⟩ := hd
        obtain ⟨w', g1, g2, g3⟩ := take_sound R hb hg
        have hst := step_collected (P := P) (cs := cs) hrun hds rfl g1
        have IH := leave_sound hev hN (n := n) (kind := kind) (c0 := c0) (omd := omd) (F := F) hf hok ds u _ μ w' { fr with defers := [] ++ rest } cs g3 hF hd2 hm hfn hk hc
        exact COk.of_steps (.one trivial hst) g2 IH
    · trivial
  | .fn g args :: ds, u, h, μ, w, fr, cs, R, hF, hd, hm, hfn, hk, hc => by
    have hrun : fr.mode ≠ .run := fun hq => by rw [hq] at hm; cases u <;> exact hm.elim
    unfold leaveV
    split
    · trivial
    · rename_i hbody
      cases hds : fr.defers with
      | nil => rw [hds] at hd; exact hd.elim
      | cons d rest =>
        rw [hds] at hd
        obtain ⟨⟨rs, hargs, first, caps, rfl, rfl⟩, hd2⟩ := hd
        have hinv : (invoke (.fn (.func g) caps.toArray) first.toArray).run P w = .ok (.enter g (first ++ caps).toArray) w := by
          simp only [Bool.not_eq_true, Bool.not_eq_false', Bool.not_eq_eq_eq_not, Bool.not_true, Bool.not_eq_false, Option.isSome_iff_exists, Option.bind_eq_some_iff] at hbody
          obtain ⟨c, gn, hgn, hgb⟩ := hbody
          have hn := hN g gn hgn
          simp [invoke, callFunc, hgn, hn, hgb]
        have hst := step_defer (P := P) (cs := cs) hrun hds rfl hinv
        have hcall := hev.call g args (first ++ caps) (some u) .deferred μ h w ({ fr with defers := rest } :: cs) ({ { fr with defers := rest } with mode := fr.mode } :: cs) R hargs (.some rfl hm)
        cases hcr : ev.call g args (some u) h with
        | bad y => trivial
        | ret v md h' =>
          rw [hcr] at hcall
          obtain ⟨μ', w', cs', r, fx, k1, k2, k3, k4, k5, k6, k7, k8⟩ := hcall
          cases k4 with
          | none hk' => cases hk'
          | @some _ _ u' m' hk' hm' =>
            have h2 := step_going_returned (P := P) (c := { { fr with defers := rest } with mode := m' }) (cs := cs) k7 k8
            have IH := leave_sound hev hN (n := n) (kind := kind) (c0 := c0) (omd := omd) (F := F) hf hok ds (settleV u') h' μ' w' { { { fr with defers := rest } with mode := m' } with mode := settle m' } cs k2 (hF.mono k1.le) (hd2.mono k1.le) (settle_sound hm') hfn hk (hc.mono k1.le)
            exact COk.of_steps (.head trivial hst (k5.trans (.one trivial h2))) k1 IH
        | pan c md h' =>
          rw [hcr] at hcall
          obtain ⟨μ', w', cs', ch, fx, k1, k2, k3, k4, k5, k6, k7, k8⟩ := hcall
          cases k4 with
          | none hk' => cases hk'
          | @some _ _ u' m' hk' hm' =>
            have h2 := step_going_panicked (P := P) (c := { { fr with defers := rest } with mode := m' }) (cs := cs) k8
            have IH := leave_sound hev hN (n := n) (kind := kind) (c0 := c0) (omd := omd) (F := F) hf hok ds (raisedV u' c) h' μ' w' { { { fr with defers := rest } with mode := m' } with mode := raised m' ch } cs k2 (hF.mono k1.le) (hd2.mono k1.le) (raised_sound hm' k3) hfn hk (hc.mono k1.le)
            exact COk.of_steps (.head trivial hst (k5.trans (.one trivial h2))) k1 IH

/-! ### A call -/
theorem setArgs_get : ∀ (l : List V) (i : Nat) (F : Frm) (j : Nat), (setArgs l i F).get (Pos.of j) = if i ≤ j ∧ j < i + l.length then l[j - i]? else F.get (Pos.of j)
  | [], i, F, j => by rw [setArgs, if_neg (by simp)]
  | v :: l, i, F, j => by
    rw [setArgs, setArgs_get l (i + 1)]
    simp only [List.length_cons]
    by_cases hj : j = i
    · subst hj
      rw [if_neg (by omega), if_pos (by omega), T.get_set_same]
      simp
    · by_cases h1 : i + 1 ≤ j ∧ j < i + 1 + l.length
      · rw [if_pos h1, if_pos (by omega), show j - i = (j - (i + 1)) + 1 by omega]; rfl
      · rw [if_neg h1, if_neg (by omega), T.get_set_ne (fun e => hj (Pos.of_inj e).symm)]
theorem enter_fr {args : List V} {rs : List Value} (ha : VRs μ args rs) {n : Nat} (hn : args.length ≤ n) : FR μ (setArgs args 0 .nil) n (rs.toArray ++ Array.replicate (n - rs.toArray.size) undef) := by
  have hl := ha.length
  refine ⟨by simp; omega, fun i hi => ?_⟩
  rw [setArgs_get]
  simp only [Nat.zero_le, true_and, Nat.zero_add, Nat.sub_zero, Array.getD_eq_getD_getElem?]
  by_cases h1 : i < args.length
  · rw [if_pos h1, List.getElem?_eq_getElem h1]
    obtain ⟨r, g1, g2⟩ := ha.get (List.getElem?_eq_getElem h1)
    rw [Array.getElem?_append_left (by simp; omega)]
    simp only [List.getElem?_toArray, g1, Option.getD_some]
    exact g2
  · rw [if_neg h1, T.get_nil]
    rw [Array.getElem?_append_right (by simp; omega)]
    simp only [List.size_toArray, Array.getElem?_replicate]
    rw [if_pos (by omega)]
    exact vr_undef
/-- slices.Insert of one int: taken as told. -/
def InsOk (P : Program) (ins : FuncId → Bool) : Prop := ∀ (f : FuncId) (fn : Func) (args : List V) (rs : List Value) (μ : PM) (h h' : Hp) (v : V) (w : World) (cs : List Frame), P.funcs[f]? = some fn → ins f = true →
  Rel P μ h w → VRs μ args rs → insertV P (elemP P fn) h args = .val v h' → COk P f .normal cs (lone (Frame.enter P f rs.toArray .normal) cs w) μ h w (.ret v none h')
structure FnsOk (P : Program) (X : Fns) : Prop where
  ok : ∀ f, X.ok f = true → okFn P f = true
  ins : InsOk P X.ins
theorem callF_sound {ev : Ev} {X : Fns} (hev : EvOk P ev) (hN : NumOk P) (hI : FnsOk P X) (f : FuncId) (args : List V) (rs : List Value) (md : Option Md) (kind : CallKind) (μ : PM) (h : Hp) (w : World) (c0 cs : List Frame)
    (R : Rel P μ h w) (ha : VRs μ args rs) (hc : Cal μ kind c0 md cs) : COk P f kind c0 (lone (Frame.enter P f rs.toArray kind) cs w) μ h w (callF P X ev f args md h) := by
  unfold callF
  split
  · rename_i fn hf
    split
    · rename_i hname
      split
      · rename_i v h' hv
        cases hc with | none hk =>
        subst hk
        exact hI.ins f fn args rs μ h h' v w _ hf hname R ha hv
      · trivial
    · split
      · rename_i c hb
        split
        · rename_i hok
          simp only [Bool.and_eq_true, decide_eq_true_eq] at hok
          obtain ⟨hok, hlen⟩ := hok
          replace hok := hI.ok f hok
          unfold okFn at hok
          rw [hf] at hok
          dsimp only at hok
          rw [hb] at hok
          simp only [Bool.and_eq_true, List.all_eq_true] at hok
          obtain ⟨hcode, hres⟩ := hok
          have hres' : ∀ r ∈ fn.results.toList, match r with | .tmp t => t < fn.ntmps | .cell a t => a < fn.ntmps ∧ wfT P t = true := fun r hr => by
            have := hres r hr
            cases r with
            | tmp t => simpa using this
            | cell a t => simpa using this
          let b : Frame := { (default : Frame) with fn := f, kind := kind, roundOf := none }
          have henter : Frame.enter P f rs.toArray kind = b.atR { tmps := rs.toArray ++ Array.replicate (fn.ntmps - rs.toArray.size) undef, defers := [] } [.code c] := by
            simp [Frame.enter, Frame.atR, hf, hb, b]
          have hx := hev.exec { fn := f, rnd := none } c { F := setArgs args 0 .nil, ds := [], md, h } μ fn.ntmps b c0 cs { tmps := rs.toArray ++ Array.replicate (fn.ntmps - rs.toArray.size) undef, defers := [] } w []
            ⟨R, enter_fr ha hlen, trivial, hc⟩ rfl rfl hcode
          rw [← henter] at hx
          have leave : ∀ (s : S) (u : Md) (μ' : PM) (a' : Act) (w' : World) (cs' : List Frame) (todo : List Item) (m : FrameMode), SR P μ' fn.ntmps kind c0 s a' cs' w' → MR μ' u m →
              COk P f kind c0 (lone { b.atR a' todo with mode := m } cs' w') μ' s.h w' (leaveV P ev fn s.F s.md s.ds u s.h) := fun s u μ' a' w' cs' todo m hs hm =>
            leave_sound hev hN (n := fn.ntmps) (omd := s.md) (F := s.F) hf hres' s.ds u s.h μ' w' { b.atR a' todo with mode := m } cs' hs.rel hs.fr hs.df hm rfl rfl hs.cal
          cases hxr : ev.exec { fn := f, rnd := none } c { F := setArgs args 0 .nil, ds := [], md, h } with
          | bad y => trivial
          | x e s =>
            rw [hxr] at hx
            obtain ⟨μ', a', w', cs', e', g1, g2, g3, g4⟩ := hx
            cases e with
            | normal =>
              cases e' with
              | normal =>
                have hend : StepsIn I0 P (lone (b.atR a' []) cs' w') (lone { b.atR a' [] with mode := .returning } cs' w') := .one trivial (stepR_end rfl)
                exact COk.of_steps (StepsIn.trans g4 hend) g1 (leave s .returning μ' a' w' cs' [] .returning g2 trivial)
              | _ => exact g3.elim
            | ret =>
              cases e' with
              | ret =>
                obtain ⟨todo, hst⟩ := g4.1 rfl
                exact COk.of_steps hst g1 (leave s .returning μ' a' w' cs' todo .returning g2 trivial)
              | _ => exact g3.elim
            | panic ch =>
              cases e' with
              | panic q =>
                obtain ⟨todo, hst⟩ := g4
                exact COk.of_steps hst g1 (leave s (.panicking ch) μ' a' w' cs' todo (.panicking q) g2 g3)
              | _ => exact g3.elim
            | exit id => trivial
        · trivial
      · trivial
  · trivial

/-! ### A round -/
theorem setPs_fold {n : Nat} : ∀ (ps : List Nat) (args : List V) (rs : List Value) (F : Frm) (t : Array Value), FR μ F n t → VRs μ args rs → FR μ (setPs (ps.map Pos.of) args F) n ((ps.zip rs).foldl (fun tmps (t, a) => tmps.setIfInBounds t a) t)
  | [], _, _, F, t, hF, _ => by simpa [setPs] using hF
  | p :: ps, [], rs, F, t, hF, ha => by cases ha; simpa [setPs] using hF
  | p :: ps, v :: args, _, F, t, hF, ha => by
    cases ha with | cons h1 h2 =>
    simp only [List.map_cons, setPs, List.zip_cons_cons, List.foldl_cons]
    exact setPs_fold ps args _ _ _ (hF.set h1) h2
theorem loop_sound (R : Rel P μ h w) {l : Nat} {ld : Loc} {r : Lp} (hl : μ l = some ld) (hg : h.get l = some (.loop r)) : ∃ q, w.heap[ld.r]? = some (.loop q) ∧ LoopR P μ r q := by
  obtain ⟨o, ho, hR⟩ := R.ob l ld hl
  rw [hg] at ho; cases ho
  exact hR
/-- The record is turned. -/
theorem setLoop_sound (R : Rel P μ h w) {l : Nat} {ld : Loc} {r : Lp} (hl : μ l = some ld) (hg : h.get l = some (.loop r)) {q : Loop} (hq : w.heap[ld.r]? = some (.loop q)) (hL : LoopR P μ r q) (st : LoopState) (pd : Option Code)
    (hp : match pd with | none | some .ret | some (.exit _) => True | _ => False) :
    Ext μ h w μ (h.put l (.loop { r with state := st, pending := pd })) (w.putObj ld.r (.loop { q with state := st, pending := pd })) ∧
    Rel P μ (h.put l (.loop { r with state := st, pending := pd })) (w.putObj ld.r (.loop { q with state := st, pending := pd })) := by
  obtain ⟨a1, a2, a3, a4, a5, a6, a7, n, a8, a9, a10, a11, a12⟩ := hL
  exact setObj_sound R hl (by rw [hg]; trivial) _ _ _ hq (fun w' hw' => ⟨_, hw', rfl, rfl, a3, a4, a5, a6, a7, n, a8, a9, a10, a11, hp⟩)
theorem roundF_sound {ev : Ev} (hev : EvOk P ev) (l : Nat) (args : List V) (rs : List Value) (ld : Loc) (μ : PM) (h : Hp) (w : World) (c : Frame) (cs : List Frame)
    (R : Rel P μ h w) (ha : VRs μ args rs) (hl : μ l = some ld) : ROk P ld rs c cs μ h w (roundF P ev l args h) := by
  unfold roundF
  split
  · rename_i r hg
    obtain ⟨q, hq, hL⟩ := loop_sound R hl hg
    obtain ⟨a1, a2, a3, a4, a5, a6, a7, n, a8, a9, a10, a11, a12⟩ := hL
    obtain ⟨qst, qpd, qfn, qtm, qps, qas, qbd, qdf⟩ := q
    dsimp only at a1 a2 a3 a4 a5 a6 a7 a8 a11
    subst a3 a4 a5
    split
    · trivial
    · rename_i hlen
      simp only [ne_eq, Decidable.not_not] at hlen
      have hsz : rs.toArray.size = qps.size := by
        rw [List.size_toArray, ← ha.length, hlen, a6, List.length_map, Array.length_toList]
      have hy := run_yield (P := P) hq hsz
      have hF : FR μ (setPs r.params args r.F) n ((qps.zip rs.toArray).foldl (fun tmps (t, a) => tmps.setIfInBounds t a) qtm) := by
        have := setPs_fold (n := n) qps.toList args rs r.F qtm a8 ha
        rw [a6, ← Array.foldl_toList, Array.toList_zip]
        exact this
      let b : Frame := { (default : Frame) with fn := r.fn, kind := .normal, roundOf := some ld.r }
      have hb0 : Frame.round ld.r r.fn ((qps.zip rs.toArray).foldl (fun tmps (t, a) => tmps.setIfInBounds t a) qtm) r.assign r.body .normal = b.atR { tmps := (qps.zip rs.toArray).foldl (fun tmps (t, a) => tmps.setIfInBounds t a) qtm, defers := [] } [.code r.assign, .beginRound, .code r.body] := by
        simp [Frame.round, Frame.atR, b]
      have hx := hev.exec { fn := r.fn, rnd := some l } r.assign { F := setPs r.params args r.F, ds := [], md := none, h } μ n b (c :: cs) (c :: cs) { tmps := (qps.zip rs.toArray).foldl (fun tmps (t, a) => tmps.setIfInBounds t a) qtm, defers := [] } w [.beginRound, .code r.body]
        ⟨R, hF, trivial, .none rfl⟩ rfl ⟨ld, hl, rfl⟩ a9
      rw [← hb0] at hx
      cases hxr : ev.exec { fn := r.fn, rnd := some l } r.assign { F := setPs r.params args r.F, ds := [], md := none, h } with
      | bad y => trivial
      | x e s =>
        rw [hxr] at hx
        cases e with
        | normal =>
          obtain ⟨μ1, t1, w1, cs1, e1, g1, g2, g3, g4⟩ := hx
          cases e1 with
          | normal =>
            obtain rfl := g2.cal.normal_inv rfl
            dsimp only
            split
            · rename_i r' hds hg1
              split
              · rename_i hst
                have hl1 := g1.le _ _ hl
                obtain ⟨q1, hq1, hL1⟩ := loop_sound g2.rel hl1 hg1
                have hst1 : q1.state = .ready := by rw [hL1.1, hst]
                obtain ⟨x1, x2⟩ := setLoop_sound g2.rel hl1 hg1 hq1 hL1 .busy r'.pending hL1.2.2.2.2.2.2.2.choose_spec.2.2.2.2
                have hpd : q1.pending = r'.pending := hL1.2.1
                have hbr := run_beginRound (P := P) hq1 hst1
                rw [show ({ q1 with state := .busy } : Loop) = { q1 with state := .busy, pending := r'.pending } by rw [← hpd]] at hbr
                have hsb := stepR_beginRound (P := P) (b := b) (a := t1) (k := [.code r.body]) (cs := c :: cs) (w := w1) rfl hbr
                have hdf : t1.defers = [] := by have := g2.df; rw [hds] at this; exact this.nil_inv
                have hx2 := hev.exec { fn := r.fn, rnd := some l } r.body { s with h := s.h.put l (.loop { r' with state := .busy }) } μ1 n b (c :: cs) (c :: cs) t1 _ []
                  ⟨x2, g2.fr.mono x1.le, g2.df.mono x1.le, g2.cal⟩ rfl ⟨ld, hl1, rfl⟩ a10
                cases hxr2 : ev.exec { fn := r.fn, rnd := some l } r.body { s with h := s.h.put l (.loop { r' with state := .busy }) } with
                | bad y => trivial
                | x e2 s2 =>
                  rw [hxr2] at hx2
                  obtain ⟨μ2, t2, w2, cs2, e2', k1, k2, k3, k4⟩ := hx2
                  obtain rfl := k2.cal.normal_inv rfl
                  dsimp only
                  split
                  · rename_i r2 hds2 hg2
                    have hl2 := k1.le _ _ hl1
                    obtain ⟨q2, hq2, hL2⟩ := loop_sound k2.rel hl2 hg2
                    have hend := fun jump => run_endRound (P := P) jump hq2
                    have pre : StepsIn I0 P (lone (Frame.round ld.r r.fn ((qps.zip rs.toArray).foldl (fun tmps (t, a) => tmps.setIfInBounds t a) qtm) r.assign r.body .normal) (c :: cs) w) (lone (b.atR t1 [.code r.body]) (c :: cs) (w1.putObj ld.r (.loop { q1 with state := .busy, pending := r'.pending }))) :=
                      StepsIn.trans g4 (.one trivial hsb)
                    cases e2 with
                    | normal =>
                      cases e2' with
                      | normal =>
                        obtain ⟨y1, y2⟩ := setLoop_sound k2.rel hl2 hg2 hq2 hL2 .ready none trivial
                        have hfin := stepR_round_end (P := P) (b := b) (a := t2) (c := c) (cs := cs) (w := w2) rfl rfl (hend none)
                        exact ⟨μ2, _, .bool true, r.fn, _, r.assign, r.body, hy, (g1.trans x1).trans (k1.trans y1), y2, .bool true, pre.trans (StepsIn.trans k4 (.one trivial hfin))⟩
                      | _ => exact k3.elim
                    | ret =>
                      cases e2' with
                      | ret =>
                        obtain ⟨y1, y2⟩ := setLoop_sound k2.rel hl2 hg2 hq2 hL2 .done (some .ret) trivial
                        obtain ⟨k₁, hs⟩ := k4.2 rfl
                        have hfin := stepR_round_ret (P := P) (b := b) (a := t2) (k := k₁) (c := c) (cs := cs) (w := w2) rfl rfl (hend (some .ret))
                        exact ⟨μ2, _, .bool false, r.fn, _, r.assign, r.body, hy, (g1.trans x1).trans (k1.trans y1), y2, .bool false, pre.trans (StepsIn.trans hs (.one trivial hfin))⟩
                      | _ => exact k3.elim
                    | exit id =>
                      cases e2' with
                      | exit id' =>
                        have hid : id = id' := k3
                        subst hid
                        obtain ⟨y1, y2⟩ := setLoop_sound k2.rel hl2 hg2 hq2 hL2 .done (some (.exit id)) trivial
                        obtain ⟨k₁, hk, hs⟩ := k4.2 rfl rfl
                        have hfin := stepR_round_exit (P := P) (b := b) (a := t2) (k := k₁) (c := c) (cs := cs) (w := w2) rfl rfl hk (hend (some (.exit id)))
                        exact ⟨μ2, _, .bool false, r.fn, _, r.assign, r.body, hy, (g1.trans x1).trans (k1.trans y1), y2, .bool false, pre.trans (StepsIn.trans hs (.one trivial hfin))⟩
                      | _ => exact k3.elim
                    | panic ch => trivial
                  · trivial
              · trivial
            · trivial
          | _ => exact g3.elim
        | _ => trivial
  · trivial
end Go.Vm
