/- What the other operations come to; functions without a body are taken as told (VmExt). -/
import Derived.Test.YtbckpoddpghdcaaGreatDoorVmEff
namespace Go.Vm
open Go.RowKit
set_option linter.unusedSimpArgs false
set_option linter.unusedVariables false

variable {P : Program} {μ : PM} {h : Hp} {w : World} {F : Frm} {a : Act}

theorem follow_sound : ∀ (path : List FieldStep) (t : TypeId) (v : V) (v' : Value) (xt : TypeId) (x : V), followV P path t v = some (xt, x) → VR μ v v' → ∃ x', VR μ x x' ∧ Yields P (follow path t (.val v')) (xt, .val x')
  | [], t, v, v', xt, x, h, hv => by
    simp only [followV, Option.some.injEq, Prod.mk.injEq] at h
    obtain ⟨rfl, rfl⟩ := h
    exact ⟨v', hv, .pure _⟩
  | s :: rest, t, v, v', xt, x, h, hv => by
    simp only [followV] at h
    split at h
    · cases h
    · rename_i hd
      split at h
      · rename_i fs l hfs
        split at h
        · rename_i f hf
          split at h
          · rename_i hu
            split at h
            · rename_i y hy
              cases hv with | @agg _ l' hl =>
              obtain ⟨d, hd2⟩ := Option.isSome_iff_exists.1 hu
              obtain ⟨j, hj⟩ := info_of_underlying hd2
              obtain ⟨r, h1, h2⟩ := part_sound hd2 hj hl hy
              obtain ⟨x', g1, g2⟩ := follow_sound rest f.type y r xt x h h1
              refine ⟨x', g1, ?_⟩
              unfold fieldsOf at hfs
              split at hfs
              · rename_i fsa hs
                simp only [Option.some.injEq] at hfs
                subst hfs
                have hf' : fsa[s.index]? = some f := by rw [← Array.getElem?_toList]; exact hf
                unfold follow
                refine (yields_underlying hs).bind ?_
                simp only [hf']
                show Yields P (if s.deref = true then _ else _) _
                rw [if_neg hd]
                exact h2.bind g2
              · cases hfs
            · cases h
          · cases h
        · cases h
      · cases h
theorem method_sound {t : TypeId} {v x : V} {v' : Value} {name : String} {f : FuncId} (hm : methodV P t v name = some (f, x)) (hv : VR μ v v') (n : Nat) : ∃ x', VR μ x x' ∧ Yields P (method (n + 1) t v' name) (f, x') := by
  unfold methodV at hm
  split at hm
  · rename_i m hfind
    simp only [Option.bind_eq_some_iff] at hfind
    obtain ⟨i, hi, hfind⟩ := hfind
    split at hm
    · rename_i xt y g ptr hfo hfu
      obtain ⟨y', h1, h2⟩ := follow_sound m.path.toList t v v' xt y hfo hv
      have fin : ∀ {r : Value}, Yields P (receiverAt xt (.val y') ptr (if m.path.isEmpty then some ((name.splitOn ".").getLastD name) else none)) r → Yields P (method (n + 1) t v' name) (g, r) := fun hr => by
        unfold method
        refine (yields_typeInfo hi).bind ?_
        simp only [hfind]
        refine h2.bind ?_
        simp only [hfu]
        exact hr.bind (.pure _)
      split at hm
      · rename_i e hxt
        split at hm
        · rename_i hp
          simp only [Option.some.injEq, Prod.mk.injEq] at hm
          obtain ⟨rfl, rfl⟩ := hm
          subst hp
          refine ⟨y', h1, fin ?_⟩
          unfold receiverAt
          refine (yields_underlying hxt).bind ?_
          exact .pure _
        · cases hm
      · rename_i d hnp hxt
        split at hm
        · cases hm
        · rename_i hp
          simp only [Option.some.injEq, Prod.mk.injEq] at hm
          obtain ⟨rfl, rfl⟩ := hm
          simp only [Bool.not_eq_true] at hp
          subst hp
          refine ⟨y', h1, fin ?_⟩
          unfold receiverAt
          refine (yields_underlying hxt).bind ?_
          cases d <;> first | exact .pure _ | (exfalso; exact hnp _ rfl)
      · cases hm
    · cases hm
  · cases hm

/-- Functions without a body: as the table of externs tells. -/
def ExtOk (P : Program) : Prop := ∀ (μ : PM) (h : Hp) (w : World) (f : FuncId) (fn : Func) (args : List V) (rs : List Value), Rel P μ h w → P.funcs[f]? = some fn → fn.body = none → VRs μ args rs →
  OutR P μ h w (callFunc f rs.toArray) (externV P h fn.name args)
/-- No function that has a body is 'runtime.NumGoroutine'. -/
def NumOk (P : Program) : Prop := ∀ (f : FuncId) (fn : Func), P.funcs[f]? = some fn → fn.name ≠ "runtime.NumGoroutine"

theorem OutR.congr {s s' : Sem Next} {o : OR} (e : s'.run P w = s.run P w) (k : OutR P μ h w s o) : OutR P μ h w s' o := by
  cases o <;> simp only [OutR] at k ⊢ <;> first | trivial | (simpa only [e] using k)
theorem call_sound (hE : ExtOk P) (hN : NumOk P) (R : Rel P μ h w) {f : FuncId} {args : List V} {rs : List Value} (ha : VRs μ args rs) : OutR P μ h w (callFunc f rs.toArray) (callV P h f args) := by
  unfold callV
  split
  · trivial
  · rename_i fn hf
    split
    · rename_i hb
      exact hE μ h w f fn args rs R hf (by simpa using hb) ha
    · rename_i hb
      refine ⟨rs, ha, ?_⟩
      have hn := hN f fn hf
      unfold callFunc
      simp [hf, hn, hb]
      intro hnone
      simp [hnone] at hb
theorem invoke_sound (hE : ExtOk P) (hN : NumOk P) (R : Rel P μ h w) {f : V} {f' : Value} {args : List V} {rs : List Value} (hf : VR μ f f') (ha : VRs μ args rs) :
    OutR P μ h w (do let d ← Deferred.ofValue f' rs.toArray; invoke d.target d.args) (invokeV P h f args) := by
  unfold invokeV
  split
  · rename_i g first caps
    cases hf with | @func _ _ _ fs' cs' h1 h2 =>
    refine OutR.congr (s := callFunc g ((fs' ++ rs ++ cs')).toArray) ?_ (call_sound hE hN R ((h1.append ha).append h2))
    simp [Deferred.ofValue, invoke]
  · rename_i l
    cases hf with | @yield _ ld hl =>
    refine ⟨ld, rs, hl, ha, ?_⟩
    simp [Deferred.ofValue, invoke]
  · trivial

theorem convertBytes_sound (R : Rel P μ h w) {s d e : TypeId} {u : TypeDesc} {q : List UInt8} (hs : P.underlying s = some u) (hd : P.underlying d = some (.slice e)) (he : P.underlying e = some (.int .u8)) (h1 : sizeT P e = 1) (h40 : q.length ≤ 2 ^ 40) :
    OutR P μ h w (do Pure.pure (.value (← convert s d (.string ⟨q.toArray⟩)))) (newAmb h (ofBytes q) e q.length) := by
  unfold newAmb
  have hge := grownCap_ge w (⟨q.toArray⟩ : ByteArray).size 0 e
  have hsize : (⟨q.toArray⟩ : ByteArray).size = q.length := by simp [ByteArray.size]
  rw [hsize] at hge
  have hc : (Lib.bytesCells w e ⟨q.toArray⟩).toList = (q.map fun b => Value.int .u8 (b.toNat : Int)) ++ (Array.replicate (grownCap w q.length 0 e - q.length) (Value.int .u8 0)).toList := by
    simp [Lib.bytesCells, hsize]
  have hcs : (Lib.bytesCells w e ⟨q.toArray⟩).size = grownCap w q.length 0 e := by
    rw [← Array.length_toList, hc]
    simp
    omega
  obtain ⟨g1, g2⟩ := new_any (P := P) (w' := Lib.bytesWorld w e ⟨q.toArray⟩) R (.cells { l := ofBytes q, elem := e, exact := false, rw := true, frz := (0, 0) }) (grownCap w q.length 0 e) (Lib.bytesWorld_size w e _) (fun r hr => Lib.bytesWorld_at_old w e _ r hr)
    (by simp [Lib.bytesWorld, World.freeze, World.alloc, World.drew, -World.alloc_eq, -World.drew_eq]) (by simp [Lib.bytesWorld, World.freeze, World.alloc, World.drew, -World.alloc_eq, -World.drew_eq]) (by simp [Lib.bytesWorld, World.freeze, World.alloc, World.drew, -World.alloc_eq, -World.drew_eq])
    ⟨_, e, _, Lib.bytesWorld_at_new w e _, fun i v hi => by
      obtain ⟨r, k1, k2⟩ := (ofBytes_sound (μ := μ.add h.next ⟨w.heap.size, 0, grownCap w q.length 0 e⟩) q).get hi
      refine ⟨r, ?_, k2⟩
      have hlt := (List.getElem?_eq_some_iff.1 k1).1
      rw [Nat.zero_add, ← Array.getElem?_toList, hc, List.getElem?_append_left hlt]
      exact k1, fun _ j j1 j2 j3 _ => by
      rcases j3 with h3 | h3
      · cases h3
      · dsimp only at j1; omega, fun _ => rfl, (fun h => by cases h), fun _ _ => ⟨rfl, by
      dsimp only
      rw [show P.cellsOf e = 1 from h1, hcs]; omega, by
      dsimp only
      rw [show P.cellsOf e = 1 from h1]
      simp only [ofBytes, List.length_map]; omega, by
      have := grownCap_le_maxLen w q.length 0 e (by unfold maxLen; omega)
      unfold maxLen at this; dsimp only; omega⟩, fun h => by cases h⟩
  refine OutR.ofVal ⟨_, _, _, Lib.run_convert_string_bytes w s d e ⟨q.toArray⟩ hs hd he, g2, g1, ?_⟩
  rw [hsize]
  exact amb_val (vs := ofBytes q) hge

theorem OutR.ite {C : Prop} [Decidable C] {s : Sem Next} {o : OR} {y : String} (k : C → OutR P μ h w s o) : OutR P μ h w s (if C then o else .bad y) := by
  split
  · rename_i hc; exact k hc
  · trivial
theorem append_all (R : Rel P μ h w) {tys : Array TypeId} {ty : TypeId} {A : Option (Nat × Nat)} {len : Nat} {c : Cap} {x : V} {s' x' : Value} (h1 : VR μ (.slice A len c) s') (h2 : VR μ x x') (hty : ∀ t ∈ tys.toList.take 1, wfT P t = true) :
    OutR P μ h w (do Pure.pure (.value (← Builtin.append_ tys ty #[s', x']))) (builtinV P h .append tys [.slice A len c, x]) := by
  unfold builtinV
  dsimp only
  split
  · rename_i e hte
    refine OutR.ite fun hts => ?_
    unfold orBad
    split
    · rename_i p hsrc
      obtain ⟨n, new⟩ := p
      simp only [Option.bind_eq_some_iff] at hte
      obtain ⟨t, ht0, hte⟩ := hte
      have hw : wfT P t = true := hty t (by
        rw [List.mem_iff_getElem?]
        exact ⟨0, by simp [List.getElem?_take, ht0]⟩)
      exact append_sound R ht0 hte hw hts h1 h2 hsrc
    · trivial
  · trivial
theorem builtin_sound (R : Rel P μ h w) {b : Builtin} {tys : Array TypeId} {ty : TypeId} {cs : Array Bool} {L : List V} {A : List Value} (hargs : VRs μ L A) (hty : ∀ t ∈ tys.toList.take 1, wfT P t = true) :
    OutR P μ h w (builtin b tys ty cs A.toArray) (builtinV P h b tys L) := by
  cases b
  case append =>
    cases hargs with
    | nil => exact trivial
    | cons h1 ht =>
      cases ht with
      | nil => cases h1 <;> exact trivial
      | cons h2 ht =>
        cases ht with
        | cons h3 ht => cases h1 <;> exact trivial
        | nil =>
          cases h1 with
          | sliceN hle => exact append_all R (.sliceN hle) h2 hty
          | slice hb hc hl ha => exact append_all R (.slice hb hc hl ha) h2 hty
          | _ => exact trivial
  case copy =>
    cases hargs with
    | nil => exact trivial
    | cons h1 ht =>
      cases ht with
      | nil => cases h1 <;> exact trivial
      | cons h2 ht => cases ht <;> cases h1 <;> exact trivial
  case clear =>
    cases hargs with
    | nil => exact trivial
    | cons h1 ht => cases ht <;> cases h1 <;> exact trivial
  case recover =>
    cases hargs with
    | nil => exact rfl
    | cons h1 ht => exact trivial
  case panic =>
    cases hargs with
    | nil => exact trivial
    | cons h1 ht =>
      cases ht with
      | nil =>
        cases h1 with
        | iface h1 => exact ⟨_, .iface h1, rfl⟩
        | _ => exact trivial
      | cons h2 ht => exact trivial


  all_goals exact trivial
theorem resolve_builtin (ρ : Operand → Value) (b : Builtin) (args : Array Operand) (tys : Array TypeId) (ty : TypeId) : ∃ cs, (do let d ← resolve ρ { callee := .builtin b, args, argTypes := tys } ty; invoke d.target d.args : Sem Next) = builtin b tys ty cs (args.map ρ) :=
  ⟨_, rfl⟩
theorem eff_sound (hE : ExtOk P) (hN : NumOk P) (R : Rel P μ h w) {o : Oper} (ok : OpOk P μ F a o) : OutR P μ h w (execOp a.eval o) (effV P F h o) := by
  obtain ⟨opd, typ⟩ := ok
  unfold OpR at opd
  unfold opTypes at typ
  unfold effV execOp
  cases ho : o.op <;> simp only [ho] at typ opd ⊢ <;> try trivial
  case store t x y =>
    have hx := opd x (by simp [Op.operands])
    have hy := opd y (by simp [Op.operands])
    split
    · rename_i b i hb
      rw [hb] at hx
      try dsimp only
      split
      · rename_i hl
        unfold orBad
        split
        · rename_i h' hs
          exact OutR.ofSkip (store_sound R (typ t (by simp)) hx hy hl hs)
        · trivial
      · trivial
    · trivial
  case convert s d x =>
    have hx := opd x (by simp [Op.operands])
    split
    · rename_i u e q hs hd hq
      rw [hq] at hx
      rw [hx.str_inv]
      split
      · rename_i he
        split
        · rename_i h1
          exact convertBytes_sound R hs hd he h1.1 h1.2
        · trivial
      · trivial
    · trivial
    · trivial
    · trivial
  case mapUpdate t m k v => exact update_sound R (opd m (by simp [Op.operands])) (opd k (by simp [Op.operands])) (opd v (by simp [Op.operands]))
  case insert t m k v => exact update_sound R (opd m (by simp [Op.operands])) (opd k (by simp [Op.operands])) (opd v (by simp [Op.operands]))
  case panic x =>
    have hx := opd x (by simp [Op.operands])
    split
    · rename_i t v hv
      rw [hv] at hx
      generalize a.eval x = X at hx ⊢
      cases hx with | @iface _ _ v' hx =>
      exact ⟨_, .iface hx, rfl⟩
    · trivial
  case defer c =>
    obtain ⟨callee, args, tys⟩ := c
    cases callee with
    | builtin b => trivial
    | invoke r m => trivial
    | value f =>
      have hf := opd f (by simp [Op.operands, Call.operands])
      have hargs : VRs μ (oprs F args) (args.map a.eval).toList := oprs_sound fun x hx => opd x (by simp [Op.operands, Call.operands, hx])
      try dsimp only
      split
      · rename_i g first caps hv
        rw [hv] at hf
        simp only [resolve]
        generalize a.eval f = X at hf ⊢
        cases hf with | @func _ _ _ fs' cs' h1 h2 =>
        refine ⟨_, ⟨_, (h1.append hargs).append h2, fs' ++ (args.map a.eval).toList, cs', rfl, rfl⟩, ?_⟩
        simp [Deferred.ofValue]
      · trivial
  case call c =>
    obtain ⟨callee, args, tys⟩ := c
    cases callee with
    | value f =>
      have hf := opd f (by simp [Op.operands, Call.operands])
      have hargs : VRs μ (oprs F args) (args.map a.eval).toList := oprs_sound fun x hx => opd x (by simp [Op.operands, Call.operands, hx])
      have := invoke_sound hE hN R hf hargs
      rw [Array.toArray_toList] at this
      exact this
    | invoke r name =>
      have hr := opd r (by simp [Op.operands, Call.operands])
      have hargs : VRs μ (oprs F args) (args.map a.eval).toList := oprs_sound fun x hx => opd x (by simp [Op.operands, Call.operands, hx])
      dsimp only
      split
      · rename_i t v hv
        rw [hv] at hr
        unfold orBad
        split
        · rename_i p hm
          obtain ⟨g, x⟩ := p
          simp only [resolve]
          generalize a.eval r = X at hr ⊢
          cases hr with | @iface _ _ v' hr =>
          obtain ⟨x', h1, h2⟩ := method_sound hm hr (P.types.size + Made.depth - 1)
          refine OutR.congr (s := callFunc g (x' :: (args.map a.eval).toList).toArray) ?_ (call_sound hE hN R (.cons h1 hargs))
          have hd : P.types.size + Made.depth - 1 + 1 = P.types.size + Made.depth := by
            have : Made.depth ≠ 0 := by decide
            omega
          rw [hd] at h2
          have e1 : (#[Value.iface t v'] ++ Array.map a.eval args).extract 1 (#[Value.iface t v'] ++ Array.map a.eval args).size = Array.map a.eval args := by
            apply Array.ext'
            simp
            exact List.take_of_length_le (by simp)
          have e2 : (#[x'] ++ Array.map a.eval args) = (x' :: (args.map a.eval).toList).toArray := by
            apply Array.ext'
            simp
          show (invoke (.fn (.method name) #[]) (#[Value.iface t v'] ++ Array.map a.eval args)).run P w = _
          have e0 : (#[Value.iface t v'] ++ Array.map a.eval args)[0]? = some (.iface t v') := by
            rw [Array.getElem?_append_left (by simp)]; rfl
          unfold invoke
          simp only [e0, e1, callMethod, Sem.run_bind, run_program, Result.andThen_ok]
          rw [h2 w]
          simp only [Result.andThen_ok, e2]
        · trivial
      · trivial
    | builtin b =>
      have hargs : VRs μ (oprs F args) (args.map a.eval).toList := oprs_sound fun x hx => opd x (by simp [Op.operands, Call.operands, hx])
      obtain ⟨cs, hcs⟩ := resolve_builtin a.eval b args tys o.type
      refine OutR.congr (s := builtin b tys o.type cs (args.map a.eval)) (by rw [← hcs]) ?_
      try dsimp only
      have := builtin_sound (ty := o.type) (cs := cs) (b := b) R hargs (fun t ht => typ t ht)
      rw [Array.toArray_toList] at this
      exact this
end Go.Vm
