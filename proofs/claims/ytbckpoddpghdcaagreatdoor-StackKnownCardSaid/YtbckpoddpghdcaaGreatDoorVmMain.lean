/- Code, by its forms. -/
import Derived.Test.YtbckpoddpghdcaaGreatDoorVmRun
import Derived.RangeFuncNested
namespace Go.Vm
open Go.RowKit
set_option linter.unusedSimpArgs false
set_option linter.unusedVariables false

variable {P : Program} {μ : PM} {h : Hp} {w : World} {F : Frm} {a : Act}

section
variable {b : Frame} {k : List Item} {cs : List Frame}
theorem stepR_scope {c : Code} : step P (lone (b.atR a (.code (.scope c) :: k)) cs w) = .next (lone (b.atR a (.code c :: .inScope c :: k)) cs w) :=
  step_lone_go (by simp [stepG, stepG.exec, Frame.atR])
theorem stepR_inScope {c : Code} : step P (lone (b.atR a (.inScope c :: k)) cs w) = .next (lone (b.atR a k) cs w) :=
  step_lone_go (by simp [stepG, stepG.exec, Frame.atR])
end
theorem lone_todo {b b' : Frame} {a a' : Act} {k k' : List Item} {cs cs' : List Frame} {w w' : World} (h : lone (b.atR a k) cs w = lone (b'.atR a' k') cs' w') : k = k' := by
  simp only [lone] at h
  injection h with h1 h2 h3
  simp only [Array.mk.injEq, List.cons.injEq, Goroutine.mk.injEq, Frame.atR, Frame.mk.injEq, and_true] at h2
  exact h2.1.2.2.1
theorem lone_mode {fr fr' : Frame} {cs cs' : List Frame} {w w' : World} (h : lone fr cs w = lone fr' cs' w') : fr = fr' := by
  simp only [lone] at h
  injection h with h1 h2 h3
  simp only [Array.mk.injEq, List.cons.injEq, Goroutine.mk.injEq, and_true] at h2
  exact h2.1
theorem exitTo_length (id : Nat) : ∀ (k k' : List Item), exitTo id k = some k' → k'.length ≤ k.length
  | [], k', h => by simp [exitTo] at h
  | x :: k, k', h => by
    cases x <;> simp only [exitTo] at h <;> first
      | (have := exitTo_length id k k' h; simp; omega)
      | (split at h <;> first | (have := exitTo_length id k k' h; simp; omega) | (simp at h; subst h; simp))
theorem loop_again {b : Frame} {k : List Item} {cs cs' : List Frame} {c : Code} {e : Exit} {a' : Act} {w' : World} {x : X} (hx : ER μ x e) (h : ArrivesIn I0 P (lone (b.atR a (.code (.loop c) :: k)) cs w) b k cs' e a' w') :
    ArrivesIn I0 P (lone (b.atR a (.inLoop c :: k)) cs w) b k cs' e a' w' := by
  have key : ∀ t, lone (b.atR a (.code (.loop c) :: k)) cs w ≠ t → StepsIn I0 P (lone (b.atR a (.code (.loop c) :: k)) cs w) t → StepsIn I0 P (lone (b.atR a (.inLoop c :: k)) cs w) t := fun t hne hs => by
    cases hs with
    | refl => exact (hne rfl).elim
    | head _ hst hrest =>
      rw [stepR_loop] at hst
      injection hst with hst
      subst hst
      exact .head trivial stepR_inLoop hrest
  cases e with
  | normal => exact key _ (fun he => by have := congrArg List.length (lone_todo he); simp at this) h
  | exit id =>
    refine ⟨fun k' hk => key _ (fun he => ?_) (h.1 k' hk), fun hr hk => ?_⟩
    · have h1 := congrArg List.length (lone_todo he)
      have h2 := exitTo_length id k k' hk
      simp at h1; omega
    · obtain ⟨k₁, h1, h2⟩ := h.2 hr hk
      exact ⟨k₁, h1, key _ (fun he => by have := lone_todo he; simp at this) h2⟩
  | goto l => cases x <;> exact hx.elim
  | ret =>
    refine ⟨fun hr => ?_, fun hr => ?_⟩
    · obtain ⟨todo, hs⟩ := h.1 hr
      exact ⟨todo, key _ (fun he => by have := congrArg Frame.mode (lone_mode he); simp [Frame.atR] at this) hs⟩
    · obtain ⟨k₁, hs⟩ := h.2 hr
      exact ⟨k₁, key _ (fun he => by have := lone_todo he; simp at this) hs⟩
  | panic ch =>
    obtain ⟨todo, hs⟩ := h
    exact ⟨todo, key _ (fun he => by have := congrArg Frame.mode (lone_mode he); simp [Frame.atR] at this) hs⟩
  | outgrown => cases x <;> exact hx.elim

theorem XOk.pass {n : Nat} {b : Frame} {c0 : List Frame} {k : List Item} {x : Item} {m m1 : Machine} {r : XR} (hp : x.plain = true) (hs : StepsIn I0 P m m1) (hn : ∀ s, r ≠ .x .normal s) (hx : XOk P n b c0 (x :: k) m1 μ h w r) : XOk P n b c0 k m μ h w r := by
  cases r with
  | bad y => trivial
  | x e s =>
    obtain ⟨μ', a', w', cs', e', g1, g2, g3, g4⟩ := hx
    refine ⟨μ', a', w', cs', e', g1, g2, g3, .of_steps hs (.pass hp (fun _ _ => .inl ?_) g4)⟩
    rintro rfl
    cases e <;> first | exact g3.elim | exact hn s rfl
/-- Regions whose order is drawn. -/
def DrawOk (P : Program) (ev : Ev) : Prop := ∀ (ops : Array Oper) (id n : Nat) (b : Frame) (c0 cs : List Frame) (k : List Item) (rnd : Option Nat) (s : S) (μ : PM) (a : Act) (w : World), (∀ o ∈ ops, okOp P n o = true) → drawOk ops = true →
  SR P μ n b.kind c0 s a cs w → RndR μ b rnd → XOk P n b c0 k (lone (b.atR a (.code (.region id ops true) :: k)) cs w) μ s.h w (drawV P ev ops (Region.before ops) ops.toList 0 { s, reads := [], effs := [], als := [] })

theorem execF_sound {ev : Ev} (hev : EvOk P ev) (hE : ExtOk P) (hN : NumOk P) (hD : DrawOk P ev) (ctx : Ctx) (c : Code) (s : S) (μ : PM) (n : Nat) (b : Frame) (c0 cs : List Frame) (a : Act) (w : World) (k : List Item)
    (hs : SR P μ n b.kind c0 s a cs w) (hfn : b.fn = ctx.fn) (hr : RndR μ b ctx.rnd) (hc : okCode P n c = true) : XOk P n b c0 k (lone (b.atR a (.code c :: k)) cs w) μ s.h w (execF P ev ctx c s) := by
  cases c with
  | skip => exact ⟨μ, a, w, cs, .normal, .refl _ _ _, hs, trivial, .one trivial stepR_skip⟩
  | label l => exact ⟨μ, a, w, cs, .normal, .refl _ _ _, hs, trivial, .one trivial stepR_label⟩
  | exit id => exact ⟨μ, a, w, cs, .exit id, .refl _ _ _, hs, rfl, fun _ hk => .one trivial (stepR_exit hk), fun _ hk => ⟨k, hk, .refl _⟩⟩
  | ret => exact ⟨μ, a, w, cs, .ret, .refl _ _ _, hs, trivial, fun hn => ⟨_, .one trivial (stepR_ret hn)⟩, fun _ => ⟨k, .refl _⟩⟩
  | region id ops draw =>
    simp only [okCode, Bool.and_eq_true, List.all_eq_true] at hc
    have hok : ∀ o ∈ ops, okOp P n o = true := fun o ho => hc.1 o (Array.mem_toList_iff.2 ho)
    cases draw with
    | false =>
      have := ops_sound hev hE hN (b := b) (c0 := c0) (k := k) (rnd := ctx.rnd) hok ops.toList 0 rfl s μ a cs w hs hr
      rw [← List.range_eq_range', Array.length_toList] at this
      exact .of_steps (.one trivial stepR_region) (.refl _ _ _) this
    | true => exact hD ops id n b c0 cs k ctx.rnd s μ a w hok (by simpa using hc.2) hs hr
  | seq x y =>
    simp only [okCode, Bool.and_eq_true] at hc
    have h1 := hev.exec ctx x s μ n b c0 cs a w (.code y :: k) hs hfn hr hc.1
    simp only [execF]
    cases hx : ev.exec ctx x s with
    | bad z => trivial
    | x e s' =>
      rw [hx] at h1
      cases e with
      | normal =>
        obtain ⟨μ', a', w', cs', e', g1, g2, g3, g4⟩ := h1
        cases e' with
        | normal =>
          have h2 := hev.exec ctx y s' μ' n b c0 cs' a' w' k g2 hfn (hr.mono g1.le) hc.2
          exact .of_steps (.head trivial stepR_seq g4) g1 h2
        | _ => exact g3.elim
      | exit id => exact XOk.pass (x := .code y) rfl (.one trivial stepR_seq) (fun s h => by cases h) h1
      | ret => exact XOk.pass (x := .code y) rfl (.one trivial stepR_seq) (fun s h => by cases h) h1
      | panic ch => exact XOk.pass (x := .code y) rfl (.one trivial stepR_seq) (fun s h => by cases h) h1
  | cond c x y =>
    simp only [okCode, Bool.and_eq_true] at hc
    have hv := hs.fr.eval hs.rel hc.1.1
    simp only [execF]
    split
    · rename_i hb
      rw [hb] at hv
      exact .of_steps (.one trivial (stepR_cond hv.bool_inv)) (.refl _ _ _) (hev.exec ctx x s μ n b c0 cs a w k hs hfn hr hc.1.2)
    · rename_i hb
      rw [hb] at hv
      exact .of_steps (.one trivial (stepR_cond hv.bool_inv)) (.refl _ _ _) (hev.exec ctx y s μ n b c0 cs a w k hs hfn hr hc.2)
    · trivial
  | block id x =>
    simp only [okCode] at hc
    have h1 := hev.exec ctx x s μ n b c0 cs a w (.inBlock id :: k) hs hfn hr hc
    simp only [execF]
    cases hx : ev.exec ctx x s with
    | bad z => trivial
    | x e s' =>
      rw [hx] at h1
      obtain ⟨μ', a', w', cs', e', g1, g2, g3, g4⟩ := h1
      cases e with
      | normal =>
        cases e' with
        | normal => exact ⟨μ', a', w', cs', .normal, g1, g2, trivial, .head trivial stepR_block (StepsIn.trans g4 (.one trivial stepR_inBlock))⟩
        | _ => exact g3.elim
      | exit i =>
        cases e' with
        | exit i' =>
          have hi : i = i' := g3
          subst hi
          dsimp only
          split
          · rename_i hid
            subst hid
            exact ⟨μ', a', w', cs', .normal, g1, g2, trivial, .head trivial stepR_block (g4.1 k (by simp [exitTo]))⟩
          · rename_i hid
            have this : (id == i) = false := by simp; exact fun h => hid h.symm
            have hxx : exitTo i (.inBlock id :: k) = exitTo i k := by simp [exitTo, this]
            exact ⟨μ', a', w', cs', .exit i, g1, g2, rfl, fun k' hk => .head trivial stepR_block (g4.1 k' (by rw [hxx]; exact hk)),
              fun hr' hk => let ⟨k₁, h1, h2⟩ := g4.2 hr' (by rw [hxx]; exact hk); ⟨k₁, h1, .head trivial stepR_block h2⟩⟩
        | _ => exact g3.elim
      | ret =>
        cases e' with
        | ret => exact ⟨μ', a', w', cs', .ret, g1, g2, trivial, .of_steps (.one trivial stepR_block) g4⟩
        | _ => exact g3.elim
      | panic ch =>
        cases e' with
        | panic q => exact ⟨μ', a', w', cs', .panic q, g1, g2, g3, .of_steps (.one trivial stepR_block) g4⟩
        | _ => exact g3.elim
  | loop x =>
    have hc' : okCode P n x = true := by simpa [okCode] using hc
    have h1 := hev.exec ctx x s μ n b c0 cs a w (.inLoop x :: k) hs hfn hr hc'
    simp only [execF]
    cases hx : ev.exec ctx x s with
    | bad z => trivial
    | x e s' =>
      rw [hx] at h1
      cases e with
      | normal =>
        obtain ⟨μ', a', w', cs', e', g1, g2, g3, g4⟩ := h1
        cases e' with
        | normal =>
          have h2 := hev.exec ctx (.loop x) s' μ' n b c0 cs' a' w' k g2 hfn (hr.mono g1.le) hc
          refine .of_steps (.head trivial stepR_loop g4) g1 ?_
          dsimp only
          cases hx2 : ev.exec ctx (.loop x) s' with
          | bad z => trivial
          | x e2 s2 =>
            rw [hx2] at h2
            obtain ⟨μ2, a2, w2, cs2, e2', k1, k2, k3, k4⟩ := h2
            exact ⟨μ2, a2, w2, cs2, e2', k1, k2, k3, loop_again k3 k4⟩
        | _ => exact g3.elim
      | exit id => exact XOk.pass (x := .inLoop x) rfl (.one trivial stepR_loop) (fun s h => by cases h) h1
      | ret => exact XOk.pass (x := .inLoop x) rfl (.one trivial stepR_loop) (fun s h => by cases h) h1
      | panic ch => exact XOk.pass (x := .inLoop x) rfl (.one trivial stepR_loop) (fun s h => by cases h) h1
  | scope x =>
    have hc' : okCode P n x = true := by simpa [okCode] using hc
    have h1 := hev.exec ctx x s μ n b c0 cs a w (.inScope x :: k) hs hfn hr hc'
    simp only [execF]
    cases hx : ev.exec ctx x s with
    | bad z => trivial
    | x e s' =>
      rw [hx] at h1
      obtain ⟨μ', a', w', cs', e', g1, g2, g3, g4⟩ := h1
      cases e with
      | normal =>
        cases e' with
        | normal => exact ⟨μ', a', w', cs', .normal, g1, g2, trivial, .head trivial stepR_scope (StepsIn.trans g4 (.one trivial stepR_inScope))⟩
        | _ => exact g3.elim
      | exit i =>
        cases e' with
        | exit i' =>
          have hi : i = i' := g3
          subst hi
          have hxx : exitTo i (.inScope x :: k) = exitTo i k := by simp [exitTo]
          exact ⟨μ', a', w', cs', .exit i, g1, g2, rfl, fun k' hk => .head trivial stepR_scope (g4.1 k' (by rw [hxx]; exact hk)),
            fun hr' hk => let ⟨k₁, h1, h2⟩ := g4.2 hr' (by rw [hxx]; exact hk); ⟨k₁, h1, .head trivial stepR_scope h2⟩⟩
        | _ => exact g3.elim
      | ret =>
        cases e' with
        | ret => exact ⟨μ', a', w', cs', .ret, g1, g2, trivial, .of_steps (.one trivial stepR_scope) g4⟩
        | _ => exact g3.elim
      | panic ch =>
        cases e' with
        | panic q => exact ⟨μ', a', w', cs', .panic q, g1, g2, g3, .of_steps (.one trivial stepR_scope) g4⟩
        | _ => exact g3.elim
  | rangeFunc f ps assign body =>
    simp only [okCode, Bool.and_eq_true, List.all_eq_true, decide_eq_true_eq] at hc
    obtain ⟨⟨⟨hcf, hcp⟩, hca⟩, hcb⟩ := hc
    have hcp' : ∀ p ∈ ps, p < n := fun p hp => hcp p (Array.mem_toList_iff.2 hp)
    have main : ∀ (d : Nat) (ds : List Dfr) (h1 : Hp) (μ1 : PM) (w1 : World) (mark : List Deferred) (ldd : Loc), Ext μ s.h w μ1 h1 w1 → Rel P μ1 h1 w1 → μ1 d = some ldd → DsR μ1 ds (mark ++ a.defers) →
        (Instr.enterLoop b.fn a.tmps ps assign body b.roundOf).run P w = .ok (w1.heap.size, mark) (w1.alloc (.loop { state := .ready, pending := none, fn := b.fn, tmps := a.tmps, params := ps, assign, body, defers := ldd.r })) →
        XOk P n b c0 k (lone (b.atR a (.code (.rangeFunc f ps assign body) :: k)) cs w) μ s.h w
          (match opr s.F f with
            | .func g first caps => if !((P.funcs[g]?).bind (·.body)).isSome then .bad "range over a function" else (match ev.call g (first ++ [.yield h1.next] ++ caps) none (h1.new (.loop { state := .ready, pending := none, fn := ctx.fn, F := s.F, params := ps.toList.map Pos.of, assign, body, defers := d })) with
              | .ret _ _ h3 => (match h3.get h1.next with
                | some (.loop r) => if r.state == .busy then .bad "busy" else
                    (match r.pending with
                     | none => .x .normal { s with ds, h := h3.put h1.next (.loop { r with state := .exhausted }) }
                     | some c => ev.exec ctx c { s with ds, h := h3.put h1.next (.loop { r with state := .exhausted }) })
                | _ => .bad "loop gone")
              | .pan c _ h3 => .x (.panic c) { s with ds, h := h3 }
              | .bad w => .bad w)
            | _ => .bad "range over a function") := by
      intro d ds h1 μ1 w1 mark ldd hx1 R1 hd hds he
      obtain ⟨R2, hx2⟩ := new_sound R1 (.loop { state := .ready, pending := none, fn := b.fn, tmps := a.tmps, params := ps, assign, body, defers := ldd.r }) (.loop { state := .ready, pending := none, fn := ctx.fn, F := s.F, params := ps.toList.map Pos.of, assign, body, defers := d }) 0
        ⟨_, alloc_last _ _, rfl, rfl, hfn, rfl, rfl, rfl, ⟨ldd, PM.le_add _ R1.dom _ _ hd, rfl⟩, n, (hs.fr.mono hx1.le).mono (PM.le_add _ R1.dom), hca, hcb, hcp', trivial⟩
      generalize hμ2 : μ1.add h1.next ⟨w1.heap.size, 0, 0⟩ = μ2 at R2 hx2
      generalize hh2 : h1.new (.loop { state := .ready, pending := none, fn := ctx.fn, F := s.F, params := ps.toList.map Pos.of, assign, body, defers := d }) = h2 at R2 hx2 ⊢
      have hl : μ2 h1.next = some ⟨w1.heap.size, 0, 0⟩ := by rw [← hμ2]; exact PM.add_same _ _ _
      have hx12 := hx1.trans hx2
      have hf := (hs.fr.mono hx12.le).eval R2 hcf
      split
      · rename_i g0 first caps hff
        split
        · trivial
        · rename_i hbody
          rw [hff] at hf
          generalize hX : a.eval f = X at hf
          cases hf with | @func _ _ _ fs' cs' q1 q2 =>
          have hargs : VRs μ2 (first ++ [.yield h1.next] ++ caps) (fs' ++ [.func (.yield w1.heap.size) #[] #[]] ++ cs') := (q1.append (.single (.yield hl))).append q2
          have hres : (resolve a.eval (rangeCall f w1.heap.size) 0).run P (w1.alloc (.loop { state := .ready, pending := none, fn := b.fn, tmps := a.tmps, params := ps, assign, body, defers := ldd.r })) = .ok { target := .fn (.func g0) cs'.toArray, args := fs'.toArray ++ #[.func (.yield w1.heap.size) #[] #[]] } (w1.alloc (.loop { state := .ready, pending := none, fn := b.fn, tmps := a.tmps, params := ps, assign, body, defers := ldd.r })) := by
            have e0 : resolve a.eval (rangeCall f w1.heap.size) 0 = Deferred.ofValue (a.eval f) #[.func (.yield w1.heap.size) #[] #[]] := by
              unfold resolve rangeCall
              simp only [List.map_toArray, List.map_cons, List.map_nil]
              rfl
            rw [e0, hX]
            rfl
          have hinv2 : (invoke (.fn (.func g0) cs'.toArray) (fs'.toArray ++ #[.func (.yield w1.heap.size) #[] #[]])).run P (w1.alloc (.loop { state := .ready, pending := none, fn := b.fn, tmps := a.tmps, params := ps, assign, body, defers := ldd.r })) = .ok (.enter g0 (fs' ++ [Value.func (.yield w1.heap.size) #[] #[]] ++ cs').toArray) (w1.alloc (.loop { state := .ready, pending := none, fn := b.fn, tmps := a.tmps, params := ps, assign, body, defers := ldd.r })) := by
            simp only [Bool.not_eq_true, Bool.not_eq_false', Bool.not_eq_eq_eq_not, Bool.not_true, Bool.not_eq_false, Option.isSome_iff_exists, Option.bind_eq_some_iff] at hbody
            obtain ⟨c, gn, hgn, hgb⟩ := hbody
            have hn := hN g0 gn hgn
            simp [invoke, callFunc, hgn, hn, hgb]
          have henter := stepR_rangeFunc (P := P) (b := b) (a := a) (k := k) (cs := cs) (w := w) he hres hinv2
          have hcall := hev.call g0 _ _ none .normal μ2 h2 _ (b.atR { a with defers := mark ++ a.defers } (.inRangeFunc w1.heap.size :: k) :: cs) (b.atR { a with defers := mark ++ a.defers } (.inRangeFunc w1.heap.size :: k) :: cs) R2 hargs (.none rfl)
          cases hcr : ev.call g0 (first ++ [.yield h1.next] ++ caps) none h2 with
          | bad y => trivial
          | ret v md h3 =>
            rw [hcr] at hcall
            obtain ⟨μ3, w3, cs3, r3, fr, k1, k2, k3, k4, k5, k6, k7, k8⟩ := hcall
            obtain rfl := k4.normal_inv rfl
            have hlv := step_leave_returned (P := P) (c := b.atR { a with defers := mark ++ a.defers } (.inRangeFunc w1.heap.size :: k)) (cs := cs) (going_leaving k7 k8)
            rw [finish_atR_inRangeFunc] at hlv
            dsimp only
            split
            · rename_i r hg3
              obtain ⟨q, hq, hL⟩ := loop_sound k2 (k1.le _ _ hl) hg3
              split
              · trivial
              · rename_i hnb
                have hqb : q.state ≠ .busy := by
                  rw [hL.1]
                  intro hb
                  rw [hb] at hnb
                  exact hnb rfl
                have hpq : q.pending = r.pending := hL.2.1
                have hend := run_endLoop (P := P) hq hqb
                obtain ⟨y1, y2⟩ := setLoop_sound k2 (k1.le _ _ hl) hg3 hq hL .exhausted r.pending hL.2.2.2.2.2.2.2.choose_spec.2.2.2.2
                rw [show ({ q with state := .exhausted } : Loop) = { q with state := .exhausted, pending := r.pending } by rw [← hpq]] at hend
                have sback := (StepsIn.head (I := I0) trivial henter (k5.trans (.head trivial hlv (.one trivial (stepR_endRangeFunc (b := b) (a := { a with defers := mark ++ a.defers }) (k := k) (cs := cs) hend)))))
                rw [hpq] at sback
                have hxx := (hx12.trans k1).trans y1
                have hS : SR P μ3 n b.kind c0 { s with ds, h := h3.put h1.next (.loop { r with state := .exhausted }) } { a with defers := mark ++ a.defers } cs _ := ⟨y2, hs.fr.mono hxx.le, (hds.mono hx2.le).mono k1.le, hs.cal.mono hxx.le⟩
                cases hpd : r.pending with
                | none =>
                  rw [hpd] at sback hS hxx
                  refine ⟨μ3, _, _, cs, .normal, ?_, hS, trivial, ?_⟩
                  · exact hxx
                  · exact sback
                | some cc =>
                  have hokc : okCode P n cc = true := by
                    have := hL.2.2.2.2.2.2.2.choose_spec.2.2.2.2
                    rw [hpd] at this
                    cases cc <;> first | exact this.elim | rfl
                  have h4 := hev.exec ctx cc { s with ds, h := h3.put h1.next (.loop { r with state := .exhausted }) } μ3 n b c0 cs _ _ k hS hfn (hr.mono hxx.le) hokc
                  simp only [hpd] at h4 sback hxx
                  exact .of_steps sback hxx h4
            · trivial
          | pan c md h3 =>
            rw [hcr] at hcall
            obtain ⟨μ3, w3, cs3, ch, fr, k1, k2, k3, k4, k5, k6, k7, k8⟩ := hcall
            obtain rfl := k4.normal_inv rfl
            have hlv := step_leave_panicked (P := P) (c := b.atR { a with defers := mark ++ a.defers } (.inRangeFunc w1.heap.size :: k)) (cs := cs) (going_leaving k7 k8)
            rw [Frame.raise_atR] at hlv
            exact ⟨μ3, { a with defers := mark ++ a.defers }, w3, cs, .panic ch, hx12.trans k1, ⟨k2, hs.fr.mono (hx12.trans k1).le, (hds.mono hx2.le).mono k1.le, hs.cal.mono (hx12.trans k1).le⟩, k3, _, .head trivial henter (k5.trans (.one trivial hlv))⟩
      · trivial
    simp only [execF]
    cases hrn : ctx.rnd with
    | none =>
      rw [hrn] at hr
      have hro : b.roundOf = none := hr
      obtain ⟨R1, hx1⟩ := new_sound hs.rel (.deferred (some [])) (.deferred true) 0 (alloc_last _ _)
      exact main s.h.next (.mark s.h.next :: s.ds) _ _ _ [{ target := .collected w.heap.size, args := #[] }] ⟨w.heap.size, 0, 0⟩ hx1 R1 (PM.add_same _ _ _) ⟨⟨_, PM.add_same _ _ _, rfl⟩, hs.df.mono hx1.le⟩ (by
        rw [hro, run_enterLoop_outer, World.size_alloc])
    | some l0 =>
      rw [hrn] at hr
      obtain ⟨ld0, hl0, hro⟩ := hr
      dsimp only
      cases hg0 : s.h.get l0 with
      | none => exact True.intro
      | some o =>
        cases o with
        | loop r =>
          obtain ⟨q, hq, hL⟩ := loop_sound hs.rel hl0 hg0
          obtain ⟨_, _, _, _, _, _, ⟨ldd, hd1, hd2⟩, _⟩ := hL
          exact main r.defers s.ds s.h μ w [] ldd (.refl _ _ _) hs.rel hd1 hs.df (by
            rw [hro, run_enterLoop_inner hq, hd2])
        | _ => exact True.intro
  | goto l => simp [okCode] at hc
  | refuse y => simp [okCode] at hc

theorem evS_ok {ev : Ev} {X : Fns} (hev : EvOk P ev) (hE : ExtOk P) (hN : NumOk P) (hI : FnsOk P X) (hD : DrawOk P ev) : EvOk P (evS P X ev) :=
  ⟨fun ctx c s μ n b c0 cs a w k hs hfn hr hc => execF_sound hev hE hN hD ctx c s μ n b c0 cs a w k hs hfn hr hc,
   fun f args rs md kind μ h w c0 cs R ha hc => callF_sound hev hN hI f args rs md kind μ h w c0 cs R ha hc,
   fun l args rs ld μ h w c cs R ha hl => roundF_sound hev l args rs ld μ h w c cs R ha hl⟩
/-- Runs with n to spare. -/
def evN (P : Program) (X : Fns) : Nat → Ev
  | 0 => evBad
  | n + 1 => evS P X (evN P X n)
theorem evN_ok {X : Fns} (hE : ExtOk P) (hN : NumOk P) (hI : FnsOk P X) (hD : ∀ ev, EvOk P ev → DrawOk P ev) : ∀ n, EvOk P (evN P X n)
  | 0 => evBad_ok P
  | n + 1 => evS_ok (evN_ok hE hN hI hD n) hE hN hI (hD _ (evN_ok hE hN hI hD n))
end Go.Vm
