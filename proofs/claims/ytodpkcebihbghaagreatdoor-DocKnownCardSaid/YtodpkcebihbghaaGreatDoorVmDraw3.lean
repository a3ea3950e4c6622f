/- Regions whose order is drawn, where effects are ordered against all that looks at memory: the text's order tells all. -/
import Derived.Test.YtodpkcebihbghaaGreatDoorVmSum
set_option linter.unusedVariables false
set_option linter.unusedSimpArgs false
namespace Go.Vm
variable {P : Program} {μ : PM} {h : Hp} {w : World} {F : Frm} {a : Act}

/-! ### What is known lies low -/
theorem VR.lowN {N : Nat} (hN : ∀ b l, μ b = some l → b < N) {v : V} {r : Value} (h : VR μ v r) : V.low N v = true :=
  VR.rec (motive_1 := fun v r _ => V.low N v = true) (motive_2 := fun l m _ => V.lows N l = true)
    (fun b => by simp [V.low]) (fun k n => by simp [V.low]) (fun s => by simp [V.low]) (by simp [V.low]) (fun h => by simp [V.low, hN _ _ h]) (fun h => by simp [V.low])
    (fun h hc hl ha => by simp [V.low, hN _ _ h]) (by simp [V.low]) (fun h => by simp [V.low, hN _ _ h]) (fun _ _ a b => by simp [V.low, a, b]) (fun h => by simp [V.low, hN _ _ h])
    (by simp [V.low]) (fun _ a => by simp [V.low, a]) (by simp [V.low]) (fun _ a => by simp [V.low, a]) (fun _ a => by simp [V.low, a]) (by simp [V.lows]) (fun _ _ a b => by simp [V.lows, a, b]) h
theorem lowO_ok (R : Rel P μ h w) {o : Oper} (ok : OpOk P μ F a o) : lowO o F h.next = true :=
  List.all_eq_true.2 fun x hx => (ok.opd x (Array.mem_toList_iff.1 hx)).lowN R.dom
mutual
theorem V.low_mono {n m : Nat} (h : n ≤ m) : ∀ {v : V}, V.low n v = true → V.low m v = true
  | .bool b, _ => by simp [V.low]
  | .int k x, _ => by simp [V.low]
  | .str s, _ => by simp [V.low]
  | .ptr none, _ => by simp [V.low]
  | .ptr (some (b, o)), e => by simp only [V.low, decide_eq_true_eq] at e ⊢; omega
  | .slice none k c, _ => by simp [V.low]
  | .slice (some (b, o)) k c, e => by simp only [V.low, decide_eq_true_eq] at e ⊢; omega
  | .map none, _ => by simp [V.low]
  | .map (some b), e => by simp only [V.low, decide_eq_true_eq] at e ⊢; omega
  | .func f a b, e => by simp only [V.low, Bool.and_eq_true] at e ⊢; exact ⟨V.lows_mono h e.1, V.lows_mono h e.2⟩
  | .yield b, e => by simp only [V.low, decide_eq_true_eq] at e ⊢; omega
  | .nilFunc, _ => by simp [V.low]
  | .iface t a, e => by simp only [V.low] at e ⊢; exact V.low_mono h e
  | .nilIface, _ => by simp [V.low]
  | .agg l, e => by simp only [V.low] at e ⊢; exact V.lows_mono h e
  | .tuple l, e => by simp only [V.low] at e ⊢; exact V.lows_mono h e
theorem V.lows_mono {n m : Nat} (h : n ≤ m) : ∀ {l : List V}, V.lows n l = true → V.lows m l = true
  | [], _ => by simp [V.lows]
  | x :: l, e => by simp only [V.lows, Bool.and_eq_true] at e ⊢; exact ⟨V.low_mono h e.1, V.lows_mono h e.2⟩
end
mutual
theorem zgl : ∀ v : V, V.beq v v = true
  | .bool b => by simp [V.beq]
  | .int k n => by simp [V.beq]
  | .str s => by simp [V.beq]
  | .ptr a => by simp [V.beq]
  | .slice a n c => by simp [V.beq]
  | .map a => by simp [V.beq]
  | .func f a b => by simp [V.beq, V.beqs_refl a, V.beqs_refl b]
  | .yield a => by simp [V.beq]
  | .nilFunc => by simp [V.beq]
  | .iface t a => by simp [V.beq, zgl a]
  | .nilIface => by simp [V.beq]
  | .agg l => by simp [V.beq, V.beqs_refl l]
  | .tuple l => by simp [V.beq, V.beqs_refl l]
theorem V.beqs_refl : ∀ l : List V, V.beqs l l = true
  | [] => by simp [V.beqs]
  | x :: l => by simp [V.beqs, zgl x, V.beqs_refl l]
end

/-! ### What looks at memory, what turns it -/
def mayRead (P : Program) (o : Oper) : Bool :=
  match o.op with
  | .load _ _ | .lookup _ _ _ _ => true
  | .slice t _ _ hi mx => hi.isSome && mx.isNone && (match P.underlying t with | some (.slice _) => true | _ => false)
  | .convert _ d _ => (match P.underlying d with | some .string => true | _ => false)
  | .binOp .eql t _ _ _ | .binOp .neq t _ _ _ => (match P.underlying t with | some (.pointer _) | some (.interface _) => true | _ => false)
  | .call c => (match c.callee with | .builtin .len => (match (c.argTypes[0]?).bind P.underlying with | some (.map _ _) => true | _ => false) | _ => false)
  | _ => false
def isEff (P : Program) (o : Oper) : Bool :=
  match kindO o with
  | .ef => true
  | .al => false
  | .pr => (match o.op with | .convert _ d _ => (match P.underlying d with | some (.slice _) => true | _ => false) | _ => false)
def isAl (o : Oper) : Bool := match kindO o with | .al => true | _ => false
def looks (P : Program) (o : Oper) : Bool := mayRead P o || isEff P o || isAl o
def dsafe (P : Program) (ops : Array Oper) : Bool :=
  let bf := Region.before ops
  let l := ops.toList.zipIdx
  l.all fun (o, j) => !isEff P o || l.all fun (x, i) => if i < j then !looks P x || prec bf i j else if j < i then !looks P x || prec bf j i else true

theorem dsafe_lt {ops : Array Oper} (hs : dsafe P ops = true) {i j : Nat} {x y : Oper} (hi : ops[i]? = some x) (hj : ops[j]? = some y) (hlt : i < j) (h : (isEff P y = true ∧ looks P x = true) ∨ (isEff P x = true ∧ looks P y = true)) : prec (Region.before ops) i j = true := by
  unfold dsafe at hs
  simp only [List.all_eq_true] at hs
  have hm : ∀ {i : Nat} {x : Oper}, ops[i]? = some x → (x, i) ∈ ops.toList.zipIdx := fun {i x} hi => by
    rw [List.mem_zipIdx_iff_getElem?]
    rw [Array.getElem?_toList]; exact hi
  rcases h with ⟨h1, h2⟩ | ⟨h1, h2⟩
  · have k := hs _ (hm hj)
    simp only [h1, Bool.not_true, Bool.false_or, List.all_eq_true] at k
    have k := k _ (hm hi)
    simp only [hlt, if_true, h2, Bool.not_true, Bool.false_or] at k
    exact k
  · have k := hs _ (hm hi)
    simp only [h1, Bool.not_true, Bool.false_or, List.all_eq_true] at k
    have k := k _ (hm hj)
    have hn : ¬ j < i := by omega
    simp only [hn, if_false, hlt, if_true, h2, Bool.not_true, Bool.false_or] at k
    exact k

theorem read_may {o : Oper} {v : V} (hk : kindO o = .pr) (hp : pureV P F o = none) (hr : readV P F h o = some v) : mayRead P o = true := by
  obtain ⟨d, op, ty, pos, aft, g⟩ := o
  cases op <;> try (simp only [readV] at hr; cases hr; done)
  case load => rfl
  case lookup => rfl
  case binOp op t x y u =>
    cases op <;> try (simp only [readV] at hr; cases hr; done)
    all_goals
      simp only [readV] at hr
      simp only [mayRead]
      unfold eqR at hr
      split at hr
      · rename_i h1 h2 h3; rw [h1]
      · rename_i h1 h2 h3; rw [h1]
      · simp at hr
  case slice t x lo hi mx =>
    simp only [readV] at hr
    unfold sliceRead at hr
    split at hr
    · rename_i h1 h2
      split at hr
      · rename_i h3 h4
        simp only [mayRead]
        cases hi with
        | none => simp [optBound] at h2
        | some hi => rw [h3]; rfl
      · cases hr
    · cases hr
  case convert s t x =>
    simp only [readV] at hr
    split at hr
    · rename_i h1 h2 h3; simp only [mayRead]; rw [h2]
    · cases hr
  case call c =>
    simp only [readV] at hr
    split at hr
    · rename_i hc
      split at hr
      · rename_i h1 h2
        simp only [mayRead, hc, h1]
      · cases hr
    · cases hr
theorem eff_is {o : Oper} (hk : kindO o = .pr) (hb : ∀ w, effV P F h o ≠ .bad w) : isEff P o = true := by
  obtain ⟨d, op, ty, pos, aft, g⟩ := o
  cases op <;> try (exact absurd rfl (hb _))
  case store => cases hk
  case mapUpdate => cases hk
  case insert => cases hk
  case defer => cases hk
  case panic => cases hk
  case convert s t x =>
    unfold isEff
    rw [hk]
    dsimp only
    simp only [effV] at hb
    split at hb
    · rename_i h1 h2 h3; rw [h2]
    · exact absurd rfl (hb _)
    · exact absurd rfl (hb _)
    · exact absurd rfl (hb _)
  case call c =>
    obtain ⟨cal, args, ats⟩ := c
    cases cal with
    | builtin b => cases b <;> first | (cases hk; done) | exact absurd rfl (hb _)
    | _ => cases hk

/-- What was read before a new block is there, is read behind it. -/
theorem get_new {b : Nat} (ob : Ob) (hb : b < h.next) : (h.new ob).get b = h.get b := by
  unfold Hp.get Hp.new
  exact T.get_set_ne (fun e => by have := Pos.of_inj e; omega) _ _
theorem low_ptr {n b o : Nat} (hl : V.low n (.ptr (some (b, o))) = true) : b < n := by simpa [V.low] using hl
theorem low_slice {n b o k : Nat} {c : Cap} (hl : V.low n (.slice (some (b, o)) k c) = true) : b < n := by simpa [V.low] using hl
theorem low_map {n b : Nat} (hl : V.low n (.map (some b)) = true) : b < n := by simpa [V.low] using hl
theorem loadL_new {b o n : Nat} (ob : Ob) (hb : b < h.next) : loadL (h.new ob) b o n = loadL h b o n := by unfold loadL; rw [get_new ob hb]
theorem load1_new {b o : Nat} (ob : Ob) (hb : b < h.next) : load1 (h.new ob) b o = load1 h b o := by unfold load1; rw [get_new ob hb]
theorem famFree_new {b o : Nat} (ob : Ob) (hb : b < h.next) : famFree (h.new ob) b o = famFree h b o := by unfold famFree; rw [get_new ob hb]
theorem lookup_new {t : TypeId} {m k v : V} {ok : Bool} (ob : Ob) (hm : V.low h.next m = true) (hr : (match lookupV P h t m k ok with | .val v _ => some v | _ => none) = some v) : (match lookupV P (h.new ob) t m k ok with | .val v _ => some v | _ => none) = some v := by
  unfold lookupV at hr ⊢
  cases ht : P.underlying t with
  | none => rw [ht] at hr; cases hr
  | some td =>
    cases td <;> rw [ht] at hr <;> try (cases hr; done)
    rename_i kt et
    dsimp only at hr ⊢
    cases hk : keyOk P kt k with
    | false => rw [hk] at hr; cases hr
    | true =>
      rw [hk] at hr
      simp only [Bool.not_true, Bool.false_eq_true, if_false] at hr ⊢
      cases m <;> try (cases hr; done)
      rename_i r
      cases r with
      | none =>
        dsimp only at hr ⊢
        cases hz : zeroV P et with
        | none => rw [hz] at hr; cases hr
        | some z => rw [hz] at hr; exact hr
      | some r =>
        dsimp only at hr ⊢
        rw [get_new ob (low_map hm)]
        cases hg : h.get r with
        | none => rw [hg] at hr; cases hr
        | some o =>
          rw [hg] at hr
          cases o <;> try (cases hr; done)
          rename_i es c
          dsimp only at hr ⊢
          cases hf : findK P kt k es 0 with
          | none => rw [hf] at hr; cases hr
          | some q =>
            rw [hf] at hr
            cases q with
            | some q => obtain ⟨i, k', v'⟩ := q; exact hr
            | none =>
              dsimp only at hr ⊢
              cases hz : zeroV P et with
              | none => rw [hz] at hr; cases hr
              | some z => rw [hz] at hr; exact hr
theorem eqR_new {t : TypeId} {x y : V} {b : Bool} (ob : Ob) (hx : V.low h.next x = true) (hy : V.low h.next y = true) (hr : eqR P h t x y = some b) : eqR P (h.new ob) t x y = some b := by
  unfold eqR at hr ⊢
  split at hr
  · rename_i h1
    rw [famFree_new ob (low_ptr hx), famFree_new ob (low_ptr hy)]
    exact hr
  · rename_i a o ty c o' ht
    have h1 : a < h.next := by simpa [V.low] using hx
    have h2 : c < h.next := by simpa [V.low] using hy
    rw [famFree_new ob h1, famFree_new ob h2]
    exact hr
  · cases hr
theorem readV_new {o : Oper} {v : V} (ob : Ob) (hl : lowO o F h.next = true) (hr : readV P F h o = some v) : readV P F (h.new ob) o = some v := by
  have low : ∀ x ∈ o.op.operands, V.low h.next (opr F x) = true := fun x hx => List.all_eq_true.1 hl x (Array.mem_toList_iff.2 hx)
  obtain ⟨d, op, ty, pos, aft, g⟩ := o
  cases op <;> try (simp only [readV] at hr; cases hr; done)
  case load t x =>
    have lx := low x (by simp [Op.operands])
    simp only [readV] at hr ⊢
    generalize opr F x = vx at hr lx ⊢
    cases vx <;> try (cases hr; done)
    rename_i q
    cases q with
    | none => cases hr
    | some q =>
      obtain ⟨b, i⟩ := q
      dsimp only at hr ⊢
      rw [loadL_new ob (low_ptr lx), load1_new ob (low_ptr lx)]
      exact hr
  case lookup t m k ok =>
    have lm := low m (by simp [Op.operands])
    simp only [readV] at hr ⊢
    exact lookup_new ob lm hr
  case binOp op t x y u =>
    have lx := low x (by simp [Op.operands])
    have ly := low y (by simp [Op.operands])
    cases op <;> try (simp only [readV] at hr; cases hr; done)
    all_goals
      simp only [readV, Option.map_eq_some_iff] at hr ⊢
      obtain ⟨b, hb, hv⟩ := hr
      exact ⟨b, eqR_new ob lx ly hb, hv⟩
  case slice t x lo hi mx =>
    have lx := low x (by simp [Op.operands])
    simp only [readV] at hr ⊢
    unfold sliceRead at hr ⊢
    split at hr
    · split at hr
      · rename_i e a len c h3 hx
        rw [hx] at lx
        have hc : capGe P (h.new ob) a e c = capGe P h a e c := by
          unfold capGe
          cases c with
          | ex n => rfl
          | tl k =>
            cases a with
            | none => rfl
            | some q => obtain ⟨b, o⟩ := q; dsimp only; rw [get_new ob (low_slice lx)]
        rw [hc]
        exact hr
      · cases hr
    · cases hr
  case convert s t x =>
    have lx := low x (by simp [Op.operands])
    simp only [readV] at hr ⊢
    split at hr
    · rename_i e a len c h1 h2 hx
      rw [hx] at lx
      cases h3 : P.underlying e with
      | none => rw [h3] at hr; cases hr
      | some td =>
        rw [h3] at hr
        cases a with
        | none =>
          cases td <;> try (cases hr; done)
          rename_i k
          cases k <;> first | exact hr | cases hr
        | some q =>
          obtain ⟨b, o⟩ := q
          cases td <;> try (cases hr; done)
          rename_i k
          cases k <;> try (cases hr; done)
          dsimp only at hr ⊢
          rw [loadL_new ob (low_slice lx)]
          exact hr
    · cases hr
  case call c =>
    obtain ⟨cal, args, ats⟩ := c
    simp only [readV] at hr ⊢
    split at hr
    · rename_i hc
      split at hr
      · rename_i kt et r h1 h2
        have lm : V.low h.next (.map (some r)) = true := by
          have : ∃ x ∈ args, opr F x = .map (some r) := by
            have hm : V.map (some r) ∈ oprs F args := by rw [h2]; simp
            unfold oprs at hm
            obtain ⟨x, h1, h2⟩ := List.mem_map.1 hm
            exact ⟨x, Array.mem_toList_iff.1 h1, h2⟩
          obtain ⟨x, hx, e⟩ := this
          rw [← e]
          refine low x ?_
          simp [Op.operands, Call.operands, hx]
        rw [get_new ob (low_map lm)]
        exact hr
      · cases hr
    · cases hr

/-- What is kept of a region on its way. -/
structure SafeInv (P : Program) (ops : Array Oper) (t : Nat) (d : DS) : Prop where
  effs : ∀ e h, (e, h) ∈ d.effs → e < t ∧ ∃ x, ops[e]? = some x ∧ isEff P x = true
  als : ∀ r ∈ d.als, r < t ∧ ∃ x, ops[r]? = some x ∧ isAl x = true
  reads : ∀ r F o v, (r, F, o, v) ∈ d.reads → r < t ∧ ops[r]? = some o ∧ mayRead P o = true ∧
    ((∃ e h l, d.effs = (e, h) :: l ∧ prec (Region.before ops) r e = true) ∨ (readV P F d.s.h o = some v ∧ lowO o F d.s.h.next = true))
theorem SafeInv.check {ops : Array Oper} {t : Nat} {d : DS} (I : SafeInv P ops t d) : recheck P (Region.before ops) d = true := by
  unfold recheck
  rw [List.all_eq_true]
  rintro ⟨r, F, o, v⟩ hm
  obtain ⟨h1, h2, h3, h4⟩ := I.reads r F o v hm
  rcases h4 with ⟨e, h, l, h5, h6⟩ | ⟨h5, h6⟩
  · simp [h5, h6]
  · simp [h5, sameV, zgl]

theorem safe_draw {ev : Ev} (hev : EvOk P ev) (hE : ExtOk P) (hN : NumOk P) {ops : Array Oper} {n : Nat} (hok : ∀ o ∈ ops, okOp P n o = true) (hs : dsafe P ops = true) (q : Nat) :
    ∀ (l : List Oper) (t : Nat), ops.toList.drop t = l → ∀ (d : DS) (s' : S) (μ : PM) (a : Act) (w : World), Rel P μ d.s.h w → FR μ d.s.F n a.tmps → SafeInv P ops t d →
      opsV P ev (some q) ops l d.s = .x .normal s' → drawV P ev ops (Region.before ops) l t d = .x .normal s'
  | [], t, hl, d, s', μ, a, w, R, hF, I, hx => by
    unfold opsV at hx
    unfold drawV
    rw [I.check, if_pos rfl]
    exact hx
  | o :: rest, t, hl, d, s', μ, a, w, R, hF, I, hx => by
    have hi : ops[t]? = some o := by
      have : ops.toList[t]? = some o := by
        have := List.getElem?_drop (xs := ops.toList) (i := t) (j := 0)
        rw [hl] at this
        simpa using this.symm
      rwa [Array.getElem?_toList] at this
    have hrest : ops.toList.drop (t + 1) = rest := by
      rw [← List.drop_drop (i := 1) (j := t), hl]
      rfl
    have hoo := hok o (Array.mem_of_getElem? hi)
    have hOp : OpOk P μ d.s.F a o := okOp_op R hF hoo
    have hlow : lowO o d.s.F d.s.h.next = true := lowO_ok R hOp
    have IH := safe_draw hev hE hN hok hs q rest (t + 1) hrest
    -- nothing is turned but a temporary
    have next : ∀ (v : V) (r : Value) (rs : List (Nat × Frm × Oper × V)), VR μ v r → (∀ x ∈ rs, x ∈ d.reads ∨ x = (t, d.s.F, o, v) ∧ mayRead P o = true ∧ readV P d.s.F d.s.h o = some v) →
        opsV P ev (some q) ops rest { d.s with F := setO o.dst v d.s.F } = .x .normal s' → drawV P ev ops (Region.before ops) rest (t + 1) { d with s := { d.s with F := setO o.dst v d.s.F }, reads := rs } = .x .normal s' := fun v r rs hv hrs hx => by
      refine IH _ s' μ (a.put o.dst r) w R (hF.put o.dst hv) ⟨fun e h hm => ?_, fun r hm => ?_, fun r F o' v' hm => ?_⟩ hx
      · obtain ⟨h1, h2⟩ := I.effs e h hm; exact ⟨by omega, h2⟩
      · obtain ⟨h1, h2⟩ := I.als r hm; exact ⟨by omega, h2⟩
      · rcases hrs _ hm with hm | ⟨hm, h1, h2⟩
        · obtain ⟨h1, h2⟩ := I.reads r F o' v' hm; exact ⟨by omega, h2⟩
        · cases hm
          exact ⟨by omega, hi, h1, .inr ⟨h2, hlow⟩⟩
    have effprec : looks P o = true → ∀ e h, (e, h) ∈ d.effs → prec (Region.before ops) e t = true := fun hlk e h hm => by
      obtain ⟨h1, x, h2, h3⟩ := I.effs e h hm
      exact dsafe_lt hs h2 hi h1 (.inr ⟨h3, hlk⟩)
    -- an effect
    have eff : isEff P o = true → opV P d.s.F d.s.h o = effV P d.s.F d.s.h o → (match effV P d.s.F d.s.h o with
        | .bad w => XR.bad (o.pos ++ " " ++ w)
        | .val v h => opsV P ev (some q) ops rest { d.s with F := setO o.dst v d.s.F, h }
        | .skip h => opsV P ev (some q) ops rest { d.s with F := setO o.dst vundef d.s.F, h }
        | .enter f args => (match ev.call f args none d.s.h with
          | .bad w => .bad w
          | .ret v _ h => opsV P ev (some q) ops rest { d.s with F := setO o.dst v d.s.F, h }
          | .pan c _ h => .x (.panic c) { d.s with h })
        | .round l args => (match ev.round l args d.s.h with
          | .bad w => .bad w
          | .ret v _ h => opsV P ev (some q) ops rest { d.s with F := setO o.dst v d.s.F, h }
          | .pan c _ h => .x (.panic c) { d.s with h })
        | .panic v => .x (.panic [(v, false)]) d.s
        | _ => .bad "") = .x .normal s' →
        (if (d.effs.all fun (e, _) => prec (Region.before ops) e t) && (d.als.all fun a => prec (Region.before ops) a t) && recheck P (Region.before ops) d && lowO o d.s.F d.s.h.next then
          let go (v : V) (h : Hp) : XR := if !decide (d.s.h.next ≤ h.next) then .bad "drawn: next" else drawV P ev ops (Region.before ops) rest (t + 1) { s := { d.s with F := setO o.dst v d.s.F, h }, reads := d.reads, effs := (t, d.s.h) :: d.effs, als := d.als }
          match effV P d.s.F d.s.h o with
          | .val v h => go v h
          | .skip h => go vundef h
          | .enter f args => (match ev.call f args none d.s.h with | .ret v _ h => go v h | .bad w => .bad w | _ => .bad "a panic in a drawn region")
          | .round l args => (match ev.round l args d.s.h with | .ret v _ h => go v h | .bad w => .bad w | _ => .bad "a panic in a drawn region")
          | .bad w => .bad (o.pos ++ " " ++ w)
          | _ => .bad (o.pos ++ " drawn")
        else .bad (o.pos ++ " drawn: order") : XR) = .x .normal s' := fun hisE hov hx => by
      have hlk : looks P o = true := by unfold looks; rw [hisE]; simp
      have c1 : (d.effs.all fun (e, _) => prec (Region.before ops) e t) = true := List.all_eq_true.2 fun ⟨e, h⟩ hm => effprec hlk e h hm
      have c2 : (d.als.all fun a => prec (Region.before ops) a t) = true := List.all_eq_true.2 fun r hm => by
        obtain ⟨h1, x, h2, h3⟩ := I.als r hm
        exact dsafe_lt hs h2 hi h1 (.inl ⟨hisE, by unfold looks; rw [h3]; simp⟩)
      rw [if_pos (by rw [c1, c2, I.check, hlow]; rfl)]
      have go : ∀ (v : V) (h' : Hp) (μ' : PM) (r : Value) (w' : World), Ext μ d.s.h w μ' h' w' → Rel P μ' h' w' → VR μ' v r → opsV P ev (some q) ops rest { d.s with F := setO o.dst v d.s.F, h := h' } = .x .normal s' →
          (if !decide (d.s.h.next ≤ h'.next) then XR.bad "drawn: next" else drawV P ev ops (Region.before ops) rest (t + 1) { s := { d.s with F := setO o.dst v d.s.F, h := h' }, reads := d.reads, effs := (t, d.s.h) :: d.effs, als := d.als }) = .x .normal s' := fun v h' μ' r w' hx R' hv hxx => by
        rw [if_neg (by simp [hx.nxt])]
        refine IH _ s' μ' (a.put o.dst r) w' R' ((hF.mono hx.le).put o.dst hv) ⟨fun e h hm => ?_, fun r hm => ?_, fun r F o' v' hm => ?_⟩ hxx
        · rcases List.mem_cons.1 hm with hm | hm
          · cases hm; exact ⟨by omega, o, hi, hisE⟩
          · obtain ⟨h1, h2⟩ := I.effs e h hm; exact ⟨by omega, h2⟩
        · obtain ⟨h1, h2⟩ := I.als r hm; exact ⟨by omega, h2⟩
        · obtain ⟨h1, h2, h3, h4⟩ := I.reads r F o' v' hm
          exact ⟨by omega, h2, h3, .inl ⟨t, d.s.h, d.effs, rfl, dsafe_lt hs h2 hi h1 (.inl ⟨hisE, by unfold looks; rw [h3]; simp⟩)⟩⟩
      have hout := opV_sound hE hN R hOp
      rw [hov] at hout
      dsimp only
      cases he : effV P d.s.F d.s.h o with
      | bad y => rw [he] at hx; cases hx
      | val v h' =>
        rw [he] at hx hout
        obtain ⟨r, w', μ', g1, g2, g3, g4⟩ := hout
        exact go v h' μ' r w' g2 g3 g4 hx
      | skip h' =>
        rw [he] at hx hout
        obtain ⟨w', μ', g1, g2, g3⟩ := hout
        exact go vundef h' μ' undef w' g2 g3 vr_undef hx
      | enter f args =>
        rw [he] at hx hout
        obtain ⟨rs, g1, g2⟩ := hout
        have hcall := hev.call f args rs none .normal μ d.s.h w [] [] R g1 (.none rfl)
        dsimp only at hx ⊢
        cases hcr : ev.call f args none d.s.h with
        | bad y => rw [hcr] at hx; cases hx
        | ret v md h' =>
          rw [hcr] at hx hcall
          obtain ⟨μ', w', cs', r, fr, k1, k2, k3, k4⟩ := hcall
          exact go v h' μ' r w' k1 k2 k3 hx
        | pan c md h' => rw [hcr] at hx; cases hx
      | round l args =>
        rw [he] at hx hout
        obtain ⟨ld, rs, g0, g1, g2⟩ := hout
        have hround := hev.round l args rs ld μ d.s.h w default [] R g1 g0
        dsimp only at hx ⊢
        cases hcr : ev.round l args d.s.h with
        | bad y => rw [hcr] at hx; cases hx
        | ret v md h' =>
          rw [hcr] at hx hround
          obtain ⟨μ', w', r, f, tmps, assign, body, k0, k1, k2, k3, k4⟩ := hround
          exact go v h' μ' r w' k1 k2 k3 hx
        | pan c md h' => rw [hcr] at hx; cases hx
      | _ => rw [he] at hx; cases hx
    have opq : ∀ {r : OR}, opV P d.s.F d.s.h o = r → wantedV ops d.s.F o = true → (match r with
        | .bad w => XR.bad (o.pos ++ " " ++ w)
        | .val v h => opsV P ev (some q) ops rest { d.s with F := setO o.dst v d.s.F, h }
        | .skip h => opsV P ev (some q) ops rest { d.s with F := setO o.dst vundef d.s.F, h }
        | .enter f args => (match ev.call f args none d.s.h with
          | .bad w => .bad w
          | .ret v _ h => opsV P ev (some q) ops rest { d.s with F := setO o.dst v d.s.F, h }
          | .pan c _ h => .x (.panic c) { d.s with h })
        | .round l args => (match ev.round l args d.s.h with
          | .bad w => .bad w
          | .ret v _ h => opsV P ev (some q) ops rest { d.s with F := setO o.dst v d.s.F, h }
          | .pan c _ h => .x (.panic c) { d.s with h })
        | .panic v => .x (.panic [(v, false)]) d.s
        | _ => .bad "") = .x .normal s' := fun {r} hr hw => by
      unfold opsV at hx
      rw [if_pos hw, hr] at hx
      cases r <;> first | exact hx | (simp at hx; done)
    have notbad : opV P d.s.F d.s.h o = effV P d.s.F d.s.h o → wantedV ops d.s.F o = true → ∀ w, effV P d.s.F d.s.h o ≠ .bad w := fun hov hw y hy => by
      have := opq (hov.trans hy) hw
      cases this
    unfold drawV
    dsimp only
    cases hw : wantedV ops d.s.F o with
    | false =>
      simp only [Bool.false_eq_true, if_false]
      refine next vundef undef d.reads vr_undef (fun x hx => .inl hx) ?_
      unfold opsV at hx
      rw [hw] at hx
      exact hx
    | true =>
      simp only [if_true]
      cases hk : kindO o with
      | al =>
        dsimp only
        cases ha : allocV P d.s.F o with
        | none =>
          have hov : opV P d.s.F d.s.h o = .bad "alloc" := by unfold opV; rw [hk]; dsimp only; rw [ha]
          have := opq hov hw
          cases this
        | some p =>
          obtain ⟨ob, f⟩ := p
          have hov : opV P d.s.F d.s.h o = .val (f d.s.h.next) (d.s.h.new ob) := by unfold opV; rw [hk]; dsimp only; rw [ha]
          have hx := opq hov hw
          have hisA : isAl o = true := by unfold isAl; rw [hk]
          have hlk : looks P o = true := by unfold looks; rw [hisA]; simp
          dsimp only at hx ⊢
          rw [if_pos (by
            rw [hlow, Bool.true_and, Bool.or_eq_true]
            refine .inl (List.all_eq_true.2 fun ⟨e, h⟩ hm => ?_)
            simp [effprec hlk e h hm])]
          have hout := opV_sound hE hN R hOp
          rw [hov] at hout
          obtain ⟨r, w', μ', g1, g2, g3, g4⟩ := hout
          refine IH _ s' μ' (a.put o.dst r) w' g3 ((hF.mono g2.le).put o.dst g4) ⟨fun e h hm => ?_, fun r hm => ?_, fun r F o' v' hm => ?_⟩ hx
          · obtain ⟨h1, h2⟩ := I.effs e h hm; exact ⟨by omega, h2⟩
          · rcases List.mem_cons.1 hm with hm | hm
            · subst hm; exact ⟨by omega, o, hi, hisA⟩
            · obtain ⟨h1, h2⟩ := I.als r hm; exact ⟨by omega, h2⟩
          · obtain ⟨h1, h2, h3, h4⟩ := I.reads r F o' v' hm
            refine ⟨by omega, h2, h3, h4.imp id fun ⟨h5, h6⟩ => ⟨readV_new ob h6 h5, ?_⟩⟩
            have hle : d.s.h.next ≤ (d.s.h.new ob).next := Nat.le_succ _
            exact List.all_eq_true.2 fun x hx => V.low_mono hle (List.all_eq_true.1 h6 x hx)
      | ef =>
        dsimp only
        have hisE : isEff P o = true := by unfold isEff; rw [hk]
        have hov : opV P d.s.F d.s.h o = effV P d.s.F d.s.h o := by unfold opV; rw [hk]
        exact eff hisE hov (opq hov hw)
      | pr =>
        dsimp only
        cases hp : pureV P d.s.F o with
        | some v =>
          have hov : opV P d.s.F d.s.h o = .val v d.s.h := by unfold opV; rw [hk]; dsimp only; rw [hp]
          obtain ⟨r, h1, _⟩ := pure_sound hOp hp
          exact next v r d.reads h1 (fun x hx => .inl hx) (opq hov hw)
        | none =>
          dsimp only
          cases hr : readV P d.s.F d.s.h o with
          | some v =>
            have hov : opV P d.s.F d.s.h o = .val v d.s.h := by unfold opV; rw [hk]; dsimp only; rw [hp]; dsimp only; rw [hr]
            have hmr := read_may hk hp hr
            have hlk : looks P o = true := by unfold looks; rw [hmr]; simp
            dsimp only
            rw [if_pos (by
              rw [hlow, Bool.true_and]
              refine List.all_eq_true.2 fun ⟨e, h⟩ hm => ?_
              simp [effprec hlk e h hm])]
            obtain ⟨r, h1, _⟩ := read_sound R hOp hr
            exact next v r _ h1 (fun x hx => (List.mem_cons.1 hx).elim (fun e => .inr ⟨e, hmr, hr⟩) .inl) (opq hov hw)
          | none =>
            have hov : opV P d.s.F d.s.h o = effV P d.s.F d.s.h o := by unfold opV; rw [hk]; dsimp only; rw [hp]; dsimp only; rw [hr]
            exact eff (eff_is hk (notbad hov hw)) hov (opq hov hw)

end Go.Vm
/- Regions whose order is drawn, run as the text has them, where what is not ordered is looked at again: reads that may come ahead of an effect or behind it. -/
namespace Go.Vm
variable {P : Program} {μ : PM} {h : Hp} {w : World} {F : Frm} {a : Act}

def sameO (r : OR) (v : V) : Bool := match r with | .val v' _ => V.beq v' v | _ => false
/-- The effects ahead that may come behind; the reads ahead that may come behind. -/
def lateD (P : Program) (ops : Array Oper) (bf : Array Nat) (t : Nat) : List Nat := (List.range t).filter fun e => (match ops[e]? with | some x => isEff P x | none => false) && !prec bf e t
def earlyD (P : Program) (ops : Array Oper) (bf : Array Nat) (t : Nat) : List Nat := (List.range t).filter fun r => (match ops[r]? with | some x => mayRead P x | none => false) && !prec bf r t
/-- Effects are ordered against effects and allocations ahead of them. -/
def statD (P : Program) (ops : Array Oper) (bf : Array Nat) : Bool := (List.range ops.size).all fun j => match ops[j]? with
  | some o => !isEff P o || (!mayRead P o && (List.range j).all fun i => match ops[i]? with | some x => !(isEff P x || isAl x) || prec bf i j | none => true)
  | none => true
def outT (ev : Ev) (h : Hp) : OR → Option (V × Hp)
  | .val v h => some (v, h)
  | .skip h => some (vundef, h)
  | .enter f args => (match ev.call f args none h with | .ret v _ h => some (v, h) | _ => none)
  | .round l args => (match ev.round l args h with | .ret v _ h => some (v, h) | _ => none)
  | _ => none
abbrev RdL := List (Nat × Frm × Oper × V)
def chkT (P : Program) (ops : Array Oper) (bf : Array Nat) (t : Nat) (o : Oper) (F : Frm) (h : Hp) (v : V) (E : List (Nat × Hp)) (R : RdL) : Bool :=
  if isEff P o then (earlyD P ops bf t).all fun r => (match R.lookup r with | some (F, q, u) => sameO (opV P F h q) u | none => true)
  else if looks P o then (lateD P ops bf t).all fun e => (match E.lookup e with | some he => (!mayRead P o || sameO (opV P F he o) v) && lowO o F he.next | none => true)
  else true
def drawT (P : Program) (ev : Ev) (ops : Array Oper) (bf : Array Nat) : List Oper → Nat → S → List (Nat × Hp) → RdL → XR
  | [], _, s, _, _ => .x .normal s
  | o :: rest, t, s, E, R =>
    if wantedV ops s.F o then (match outT ev s.h (opV P s.F s.h o) with
      | some (v, h) => if chkT P ops bf t o s.F h v E R then drawT P ev ops bf rest (t + 1) { s with F := setO o.dst v s.F, h } (if isEff P o then (t, s.h) :: E else E) (if mayRead P o then (t, s.F, o, v) :: R else R) else .bad "drawn"
      | none => .bad "drawn")
    else drawT P ev ops bf rest (t + 1) { s with F := setO o.dst vundef s.F } E R

theorem outT_sound {ev : Ev} (hev : EvOk P ev) (hE : ExtOk P) (hN : NumOk P) (R : Rel P μ h w) {o : Oper} (ok : OpOk P μ F a o) {v : V} {h' : Hp} (hx : outT ev h (opV P F h o) = some (v, h')) :
    ∃ μ' r w', Ext μ h w μ' h' w' ∧ Rel P μ' h' w' ∧ VR μ' v r := by
  have hout := opV_sound hE hN R ok
  cases he : opV P F h o with
  | val v1 h1 =>
    rw [he] at hx hout
    cases hx
    obtain ⟨r, w', μ', g1, g2, g3, g4⟩ := hout
    exact ⟨μ', r, w', g2, g3, g4⟩
  | skip h1 =>
    rw [he] at hx hout
    cases hx
    obtain ⟨w', μ', g1, g2, g3⟩ := hout
    exact ⟨μ', undef, w', g2, g3, vr_undef⟩
  | enter f args =>
    rw [he] at hx hout
    obtain ⟨rs, g1, g2⟩ := hout
    have hcall := hev.call f args rs none .normal μ h w [] [] R g1 (.none rfl)
    simp only [outT] at hx
    cases hcr : ev.call f args none h with
    | bad y => rw [hcr] at hx; cases hx
    | ret v1 md h1 =>
      rw [hcr] at hx hcall
      cases hx
      obtain ⟨μ', w', cs', r, fr, k1, k2, k3, k4⟩ := hcall
      exact ⟨μ', r, w', k1, k2, k3⟩
    | pan c md h1 => rw [hcr] at hx; cases hx
  | round l args =>
    rw [he] at hx hout
    obtain ⟨ld, rs, g0, g1, g2⟩ := hout
    have hround := hev.round l args rs ld μ h w default [] R g1 g0
    simp only [outT] at hx
    cases hcr : ev.round l args h with
    | bad y => rw [hcr] at hx; cases hx
    | ret v1 md h1 =>
      rw [hcr] at hx hround
      cases hx
      obtain ⟨μ', w', r, f, tmps, assign, body, k0, k1, k2, k3, k4⟩ := hround
      exact ⟨μ', r, w', k1, k2, k3⟩
    | pan c md h1 => rw [hcr] at hx; cases hx
  | _ => rw [he] at hx; cases hx

structure TInv (P : Program) (ops : Array Oper) (bf : Array Nat) (t : Nat) (d : DS) (E : List (Nat × Hp)) (R : RdL) : Prop where
  effs : ∀ e h, (e, h) ∈ d.effs → e < t ∧ (∃ x, ops[e]? = some x ∧ isEff P x = true) ∧ E.lookup e = some h
  als : ∀ r ∈ d.als, r < t ∧ ∃ x, ops[r]? = some x ∧ isAl x = true
  reads : ∀ r F o v, (r, F, o, v) ∈ d.reads → r < t ∧ ops[r]? = some o ∧ (kindO o = .pr ∧ pureV P F o = none ∧ mayRead P o = true ∧ lowO o F d.s.h.next = true) ∧ R.lookup r = some (F, o, v) ∧
    ((∃ e h l, d.effs = (e, h) :: l ∧ prec bf r e = true) ∨ readV P F d.s.h o = some v)
theorem TInv.check {ops : Array Oper} {bf : Array Nat} {t : Nat} {d : DS} {E : List (Nat × Hp)} {R : RdL} (I : TInv P ops bf t d E R) : recheck P bf d = true := by
  unfold recheck
  rw [List.all_eq_true]
  rintro ⟨r, F, o, v⟩ hm
  obtain ⟨h1, h2, h3, h0, h4⟩ := I.reads r F o v hm
  rcases h4 with ⟨e, h, l, h5, h6⟩ | h5
  · simp [h5, h6]
  · simp [h5, sameV, zgl]
theorem lookup_push {α : Type} {t e : Nat} (h : e < t) (x : α) (l : List (Nat × α)) (c : Bool) : (if c then (t, x) :: l else l).lookup e = l.lookup e := by
  cases c
  · rfl
  · have : (e == t) = false := by simp; omega
    simp [List.lookup, this]
theorem same_read {o : Oper} {v : V} (hk : kindO o = .pr) (hp : pureV P F o = none) (hne : isEff P o = false) (hs : sameO (opV P F h o) v = true) : readV P F h o = some v := by
  unfold opV at hs
  rw [hk] at hs
  dsimp only at hs
  rw [hp] at hs
  dsimp only at hs
  cases hr : readV P F h o with
  | some u =>
    rw [hr] at hs
    simp only [sameO] at hs
    rw [V.beq_eq _ _ hs]
  | none =>
    rw [hr] at hs
    dsimp only at hs
    have := eff_is (P := P) (F := F) (h := h) hk (fun w hw => by rw [hw] at hs; cases hs)
    rw [this] at hne
    cases hne
theorem drawT_draw {ev : Ev} (hev : EvOk P ev) (hE : ExtOk P) (hN : NumOk P) {ops : Array Oper} {bf : Array Nat} {n : Nat} (hok : ∀ o ∈ ops, okOp P n o = true) (hs : statD P ops bf = true) :
    ∀ (l : List Oper) (t : Nat), ops.toList.drop t = l → ∀ (d : DS) (E : List (Nat × Hp)) (Rd : RdL) (s' : S) (μ : PM) (a : Act) (w : World), Rel P μ d.s.h w → FR μ d.s.F n a.tmps → TInv P ops bf t d E Rd →
      drawT P ev ops bf l t d.s E Rd = .x .normal s' → drawV P ev ops bf l t d = .x .normal s'
  | [], t, hl, d, E, Rd, s', μ, a, w, R, hF, I, hx => by
    unfold drawT at hx
    unfold drawV
    rw [I.check, if_pos rfl]
    exact hx
  | o :: rest, t, hl, d, E, Rd, s', μ, a, w, R, hF, I, hx => by
    have hi : ops[t]? = some o := by
      have : ops.toList[t]? = some o := by
        have := List.getElem?_drop (xs := ops.toList) (i := t) (j := 0)
        rw [hl] at this
        simpa using this.symm
      rwa [Array.getElem?_toList] at this
    have htl : t < ops.size := (Array.getElem?_eq_some_iff.1 hi).1
    have hrest : ops.toList.drop (t + 1) = rest := by
      rw [← List.drop_drop (i := 1) (j := t), hl]
      rfl
    have hoo := hok o (Array.mem_of_getElem? hi)
    have hOp : OpOk P μ d.s.F a o := okOp_op R hF hoo
    have hlow : lowO o d.s.F d.s.h.next = true := lowO_ok R hOp
    have IH := drawT_draw hev hE hN hok hs rest (t + 1) hrest
    have hst : isEff P o = true → mayRead P o = false ∧ ∀ i x, i < t → ops[i]? = some x → isEff P x = true ∨ isAl x = true → prec bf i t = true := fun he => by
      have h1 := List.all_eq_true.1 hs t (List.mem_range.2 htl)
      rw [hi] at h1
      simp only [he, Bool.not_true, Bool.false_or, Bool.and_eq_true, Bool.not_eq_true', List.all_eq_true] at h1
      refine ⟨h1.1, fun i x hit hx hc => ?_⟩
      have h2 := h1.2 i (List.mem_range.2 hit)
      rw [hx] at h2
      simp only [Bool.or_eq_true, Bool.not_eq_true', Bool.or_eq_false_iff] at h2
      rcases h2 with h2 | h2
      · rcases hc with hc | hc
        · rw [hc] at h2; cases h2.1
        · rw [hc] at h2; cases h2.2
      · exact h2
    have late : ∀ {e : Nat} {x : Oper}, e < t → ops[e]? = some x → isEff P x = true → prec bf e t = false → e ∈ lateD P ops bf t := fun {e x} h1 h2 h3 h4 => by
      refine List.mem_filter.2 ⟨List.mem_range.2 h1, ?_⟩
      rw [h2]
      simp [h3, h4]
    have early : ∀ {r : Nat} {x : Oper}, r < t → ops[r]? = some x → mayRead P x = true → prec bf r t = false → r ∈ earlyD P ops bf t := fun {e x} h1 h2 h3 h4 => by
      refine List.mem_filter.2 ⟨List.mem_range.2 h1, ?_⟩
      rw [h2]
      simp [h3, h4]
    cases hw : wantedV ops d.s.F o with
    | false =>
      unfold drawT at hx
      unfold drawV
      rw [hw] at hx ⊢
      simp only [Bool.false_eq_true, if_false] at hx ⊢
      refine IH _ E Rd s' μ (a.put o.dst undef) w R (hF.put o.dst vr_undef) ⟨fun e h hm => ?_, fun r hm => ?_, fun r F q u hm => ?_⟩ hx
      · obtain ⟨h1, h2⟩ := I.effs e h hm; exact ⟨by omega, h2⟩
      · obtain ⟨h1, h2⟩ := I.als r hm; exact ⟨by omega, h2⟩
      · obtain ⟨h1, h2⟩ := I.reads r F q u hm; exact ⟨by omega, h2⟩
    | true =>
      unfold drawT at hx
      rw [hw] at hx
      simp only [if_true] at hx
      cases hot : outT ev d.s.h (opV P d.s.F d.s.h o) with
      | none => rw [hot] at hx; cases hx
      | some p =>
        obtain ⟨v, h'⟩ := p
        rw [hot] at hx
        dsimp only at hx
        cases hck : chkT P ops bf t o d.s.F h' v E Rd with
        | false => rw [hck] at hx; cases hx
        | true =>
          rw [hck] at hx
          simp only [if_true] at hx
          obtain ⟨μ', r, w', hext, R', hvr⟩ := outT_sound hev hE hN R hOp hot
          have hF' : FR μ' (setO o.dst v d.s.F) n (a.put o.dst r).tmps := (hF.mono hext.le).put o.dst hvr
          -- an effect
          have eff : isEff P o = true → opV P d.s.F d.s.h o = effV P d.s.F d.s.h o →
            (if (d.effs.all fun (e, _) => prec bf e t) && (d.als.all fun a => prec bf a t) && recheck P bf d && lowO o d.s.F d.s.h.next then
              let go (v : V) (h : Hp) : XR := if !decide (d.s.h.next ≤ h.next) then .bad "drawn: next" else drawV P ev ops bf rest (t + 1) { s := { d.s with F := setO o.dst v d.s.F, h }, reads := d.reads, effs := (t, d.s.h) :: d.effs, als := d.als }
              match effV P d.s.F d.s.h o with
              | .val v h => go v h
              | .skip h => go vundef h
              | .enter f args => (match ev.call f args none d.s.h with | .ret v _ h => go v h | .bad w => .bad w | _ => .bad "a panic in a drawn region")
              | .round l args => (match ev.round l args d.s.h with | .ret v _ h => go v h | .bad w => .bad w | _ => .bad "a panic in a drawn region")
              | .bad w => .bad (o.pos ++ " " ++ w)
              | _ => .bad (o.pos ++ " drawn")
            else .bad (o.pos ++ " drawn: order") : XR) = .x .normal s' := fun hisE hov => by
            obtain ⟨hnr, hpr⟩ := hst hisE
            have c1 : (d.effs.all fun (e, _) => prec bf e t) = true := List.all_eq_true.2 fun ⟨e, h⟩ hm => by
              obtain ⟨h1, ⟨x, h2, h3⟩, _⟩ := I.effs e h hm
              exact hpr e x h1 h2 (.inl h3)
            have c2 : (d.als.all fun a => prec bf a t) = true := List.all_eq_true.2 fun r hm => by
              obtain ⟨h1, x, h2, h3⟩ := I.als r hm
              exact hpr r x h1 h2 (.inr h3)
            rw [if_pos (by rw [c1, c2, I.check, hlow]; rfl)]
            have go : (if !decide (d.s.h.next ≤ h'.next) then XR.bad "drawn: next" else drawV P ev ops bf rest (t + 1) { s := { d.s with F := setO o.dst v d.s.F, h := h' }, reads := d.reads, effs := (t, d.s.h) :: d.effs, als := d.als }) = .x .normal s' := by
              rw [if_neg (by simp [hext.nxt])]
              rw [hisE, hnr] at hx
              simp only [if_true, Bool.false_eq_true, if_false] at hx
              refine IH _ _ _ s' μ' (a.put o.dst r) w' R' hF' ⟨fun e h hm => ?_, fun r hm => ?_, fun r F q u hm => ?_⟩ hx
              · rcases List.mem_cons.1 hm with hm | hm
                · cases hm; exact ⟨by omega, ⟨o, hi, hisE⟩, by simp [List.lookup]⟩
                · obtain ⟨h1, h2, h3⟩ := I.effs e h hm
                  have := lookup_push h1 d.s.h E true
                  exact ⟨by omega, h2, this.trans h3⟩
              · obtain ⟨h1, h2⟩ := I.als r hm; exact ⟨by omega, h2⟩
              · obtain ⟨h1, h2, ⟨k1, k2, k3, k4⟩, h3, h4⟩ := I.reads r F q u hm
                refine ⟨by omega, h2, ⟨k1, k2, k3, List.all_eq_true.2 fun x hx => V.low_mono hext.nxt (List.all_eq_true.1 k4 x hx)⟩, h3, ?_⟩
                cases hp : prec bf r t with
                | true => exact .inl ⟨t, d.s.h, d.effs, rfl, hp⟩
                | false =>
                  refine .inr ?_
                  unfold chkT at hck
                  rw [if_pos hisE] at hck
                  have := List.all_eq_true.1 hck r (early h1 h2 k3 hp)
                  rw [h3] at this
                  have hne : isEff P q = false := by
                    cases hq : isEff P q with
                    | false => rfl
                    | true =>
                      have h5 := List.all_eq_true.1 hs r (List.mem_range.2 (by omega))
                      rw [h2] at h5
                      simp [hq, k3] at h5
                  exact same_read k1 k2 hne this
            have hot' := hot
            rw [hov] at hot'
            dsimp only
            cases he : effV P d.s.F d.s.h o with
            | bad y => rw [he] at hot'; cases hot'
            | val v1 h1 => rw [he] at hot'; cases hot'; exact go
            | skip h1 => rw [he] at hot'; cases hot'; exact go
            | enter f args =>
              rw [he] at hot'
              simp only [outT] at hot'
              dsimp only
              cases hcr : ev.call f args none d.s.h with
              | bad y => rw [hcr] at hot'; cases hot'
              | ret v1 md h1 => rw [hcr] at hot'; cases hot'; exact go
              | pan c md h1 => rw [hcr] at hot'; cases hot'
            | round l args =>
              rw [he] at hot'
              simp only [outT] at hot'
              dsimp only
              cases hcr : ev.round l args d.s.h with
              | bad y => rw [hcr] at hot'; cases hot'
              | ret v1 md h1 => rw [hcr] at hot'; cases hot'; exact go
              | pan c md h1 => rw [hcr] at hot'; cases hot'
            | _ => rw [he] at hot'; cases hot'
          -- what looks at memory where an effect may still come
          have lateOk : isEff P o = false → looks P o = true → ∀ e h, (e, h) ∈ d.effs → prec bf e t = true ∨ ((mayRead P o = true → sameO (opV P d.s.F h o) v = true) ∧ lowO o d.s.F h.next = true) := fun hne hlk e h hm => by
            obtain ⟨h1, ⟨x, h2, h3⟩, h4⟩ := I.effs e h hm
            cases hp : prec bf e t with
            | true => exact .inl rfl
            | false =>
              refine .inr ?_
              unfold chkT at hck
              rw [hne, hlk] at hck
              simp only [Bool.false_eq_true, if_false, if_true] at hck
              have := List.all_eq_true.1 hck e (late h1 h2 h3 hp)
              rw [h4] at this
              simp only [Bool.and_eq_true, Bool.or_eq_true, Bool.not_eq_true'] at this
              exact ⟨fun hr => this.1.resolve_left (by rw [hr]; simp), this.2⟩
          unfold drawV
          dsimp only
          rw [hw]
          simp only [if_true]
          cases hk : kindO o with
          | al =>
            dsimp only
            have hisA : isAl o = true := by unfold isAl; rw [hk]
            have hne : isEff P o = false := by unfold isEff; rw [hk]
            have hnr : mayRead P o = false := by
              obtain ⟨dd, op, ty, pos, aft, g⟩ := o
              cases op <;> first | rfl | (cases hk; done) | skip
              rename_i c
              obtain ⟨cal, args, ats⟩ := c
              cases cal with
              | builtin b => cases b <;> cases hk
              | _ => cases hk
            have hlk : looks P o = true := by unfold looks; rw [hisA]; simp
            cases ha : allocV P d.s.F o with
            | none =>
              have hov : opV P d.s.F d.s.h o = .bad "alloc" := by unfold opV; rw [hk]; dsimp only; rw [ha]
              rw [hov] at hot; cases hot
            | some p =>
              obtain ⟨ob, f⟩ := p
              have hov : opV P d.s.F d.s.h o = .val (f d.s.h.next) (d.s.h.new ob) := by unfold opV; rw [hk]; dsimp only; rw [ha]
              rw [hov] at hot
              cases hot
              dsimp only
              rw [if_pos (by
                rw [hlow, Bool.true_and, Bool.or_eq_true]
                refine .inl (List.all_eq_true.2 fun ⟨e, h⟩ hm => ?_)
                rcases lateOk hne hlk e h hm with h1 | ⟨_, h1⟩ <;> simp [h1])]
              rw [hne, hnr] at hx
              simp only [Bool.false_eq_true, if_false] at hx
              refine IH _ E Rd s' μ' (a.put o.dst r) w' R' hF' ⟨fun e h hm => ?_, fun r hm => ?_, fun r F q u hm => ?_⟩ hx
              · obtain ⟨h1, h2⟩ := I.effs e h hm; exact ⟨by omega, h2⟩
              · rcases List.mem_cons.1 hm with hm | hm
                · subst hm; exact ⟨by omega, o, hi, hisA⟩
                · obtain ⟨h1, h2⟩ := I.als r hm; exact ⟨by omega, h2⟩
              · obtain ⟨h1, h2, ⟨k1, k2, k3, k4⟩, h3, h4⟩ := I.reads r F q u hm
                refine ⟨by omega, h2, ⟨k1, k2, k3, List.all_eq_true.2 fun x hx => V.low_mono (Nat.le_succ _) (List.all_eq_true.1 k4 x hx)⟩, h3, h4.imp id fun h5 => readV_new ob k4 h5⟩
          | ef =>
            dsimp only
            have hisE : isEff P o = true := by unfold isEff; rw [hk]
            exact eff hisE (by unfold opV; rw [hk])
          | pr =>
            dsimp only
            cases hp : pureV P d.s.F o with
            | some v1 =>
              have hov : opV P d.s.F d.s.h o = .val v1 d.s.h := by unfold opV; rw [hk]; dsimp only; rw [hp]
              rw [hov] at hot
              cases hot
              dsimp only
              refine IH _ _ _ s' μ' (a.put o.dst r) w' R' hF' ⟨fun e h hm => ?_, fun r hm => ?_, fun r F q u hm => ?_⟩ hx
              · obtain ⟨h1, h2, h3⟩ := I.effs e h hm; exact ⟨by omega, h2, by rw [lookup_push h1]; exact h3⟩
              · obtain ⟨h1, h2⟩ := I.als r hm; exact ⟨by omega, h2⟩
              · obtain ⟨h1, h2, h3, h4, h5⟩ := I.reads r F q u hm
                exact ⟨by omega, h2, h3, by rw [lookup_push h1]; exact h4, h5⟩
            | none =>
              dsimp only
              cases hr : readV P d.s.F d.s.h o with
              | some v1 =>
                have hov : opV P d.s.F d.s.h o = .val v1 d.s.h := by unfold opV; rw [hk]; dsimp only; rw [hp]; dsimp only; rw [hr]
                have hmr := read_may hk hp hr
                have hlk : looks P o = true := by unfold looks; rw [hmr]; simp
                have hne : isEff P o = false := by
                  cases hq : isEff P o with
                  | false => rfl
                  | true => have := (hst hq).1; rw [hmr] at this; cases this
                rw [hov] at hot
                cases hot
                dsimp only
                rw [if_pos (by
                  rw [hlow, Bool.true_and]
                  refine List.all_eq_true.2 fun ⟨e, h⟩ hm => ?_
                  rcases lateOk hne hlk e h hm with h1 | ⟨h1, h2⟩
                  · simp [h1]
                  · simp [same_read hk hp hne (h1 hmr), h2, sameV, zgl])]
                rw [hne, hmr] at hx
                simp only [Bool.false_eq_true, if_false, if_true] at hx
                refine IH _ _ _ s' μ' (a.put o.dst r) w' R' hF' ⟨fun e h hm => ?_, fun r hm => ?_, fun r F q u hm => ?_⟩ hx
                · obtain ⟨h1, h2⟩ := I.effs e h hm; exact ⟨by omega, h2⟩
                · obtain ⟨h1, h2⟩ := I.als r hm; exact ⟨by omega, h2⟩
                · rcases List.mem_cons.1 hm with hm | hm
                  · cases hm
                    exact ⟨by omega, hi, ⟨hk, hp, hmr, hlow⟩, by simp [List.lookup], .inr hr⟩
                  · obtain ⟨h1, h2, h3, h4, h5⟩ := I.reads r F q u hm
                    have := lookup_push h1 (d.s.F, o, v) Rd true
                    exact ⟨by omega, h2, h3, this.trans h4, h5⟩
              | none =>
                have hov : opV P d.s.F d.s.h o = effV P d.s.F d.s.h o := by unfold opV; rw [hk]; dsimp only; rw [hp]; dsimp only; rw [hr]
                exact eff (eff_is hk (fun y hy => by rw [hov, hy] at hot; cases hot)) hov
/-! ### The machine, with such regions run as the text has them -/
def execS (P : Program) (ev : Ev) (ctx : Ctx) (c : Code) (s : S) : XR :=
  match c with
  | .region id ops true => if dsafe P ops then (match opsV P ev (some 0) ops ops.toList s with | .x .normal s' => .x .normal s' | _ => .bad "drawn") else if statD P ops (Region.before ops) then (match drawT P ev ops (Region.before ops) ops.toList 0 s [] [] with | .x .normal s' => .x .normal s' | _ => .bad "drawn") else .bad "drawn"
  | c => execF P ev ctx c s
theorem execS_sound {ev : Ev} (hev : EvOk P ev) (hE : ExtOk P) (hN : NumOk P) (hD : DrawOk P ev) (ctx : Ctx) (c : Code) (s : S) (μ : PM) (n : Nat) (b : Frame) (c0 cs : List Frame) (a : Act) (w : World) (k : List Item)
    (hs : SR P μ n b.kind c0 s a cs w) (hfn : b.fn = ctx.fn) (hr : RndR μ b ctx.rnd) (hc : okCode P n c = true) : XOk P n b c0 k (lone (b.atR a (.code c :: k)) cs w) μ s.h w (execS P ev ctx c s) := by
  unfold execS
  split
  · rename_i id ops
    split
    · rename_i hsafe
      cases hx : opsV P ev (some 0) ops ops.toList s with
      | bad y => trivial
      | x e s' =>
        cases e with
        | normal =>
          simp only [okCode, Bool.and_eq_true, List.all_eq_true] at hc
          have hok : ∀ o ∈ ops, okOp P n o = true := fun o ho => hc.1 o (Array.mem_toList_iff.2 ho)
          have h1 := hD ops id n b c0 cs k ctx.rnd s μ a w hok (by simpa using hc.2) hs hr
          rw [safe_draw hev hE hN hok hsafe 0 ops.toList 0 rfl { s, reads := [], effs := [], als := [] } s' μ a w hs.rel hs.fr
            ⟨fun _ _ h => (by cases h), fun _ h => (by cases h), fun _ _ _ _ h => (by cases h)⟩ hx] at h1
          exact h1
        | _ => trivial
    · split
      · rename_i hst
        cases hx : drawT P ev ops (Region.before ops) ops.toList 0 s [] [] with
        | bad y => trivial
        | x e s' =>
          cases e with
          | normal =>
            simp only [okCode, Bool.and_eq_true, List.all_eq_true] at hc
            have hok : ∀ o ∈ ops, okOp P n o = true := fun o ho => hc.1 o (Array.mem_toList_iff.2 ho)
            have h1 := hD ops id n b c0 cs k ctx.rnd s μ a w hok (by simpa using hc.2) hs hr
            rw [drawT_draw hev hE hN hok hst ops.toList 0 rfl { s, reads := [], effs := [], als := [] } [] [] s' μ a w hs.rel hs.fr
              ⟨fun _ _ h => (by cases h), fun _ h => (by cases h), fun _ _ _ _ h => (by cases h)⟩ hx] at h1
            exact h1
          | _ => trivial
      · trivial
  · exact execF_sound hev hE hN hD ctx _ s μ n b c0 cs a w k hs hfn hr hc
def evT (P : Program) (X : Fns) (ev : Ev) : Ev := { exec := execS P ev, call := callF P X ev, round := roundF P ev }
theorem evT_ok {ev : Ev} {X : Fns} (hev : EvOk P ev) (hE : ExtOk P) (hN : NumOk P) (hI : FnsOk P X) (hD : DrawOk P ev) : EvOk P (evT P X ev) :=
  ⟨fun ctx c s μ n b c0 cs a w k hs hfn hr hc => execS_sound hev hE hN hD ctx c s μ n b c0 cs a w k hs hfn hr hc,
   fun f args rs md kind μ h w c0 cs R ha hc => callF_sound hev hN hI f args rs md kind μ h w c0 cs R ha hc,
   fun l args rs ld μ h w c cs R ha hl => roundF_sound hev l args rs ld μ h w c cs R ha hl⟩
def evM (P : Program) (X : Fns) : Nat → Ev
  | 0 => evBad
  | n + 1 => evT P X (evM P X n)
theorem evM_ok {X : Fns} (hE : ExtOk P) (hN : NumOk P) (hI : FnsOk P X) (hD : ∀ ev, EvOk P ev → DrawOk P ev) : ∀ n, EvOk P (evM P X n)
  | 0 => evBad_ok P
  | n + 1 => evT_ok (evM_ok hE hN hI hD n) hE hN hI (hD _ (evM_ok hE hN hI hD n))
theorem VmHyp.evm {X : Fns} (H : VmHyp P X) (n : Nat) : EvOk P (evM P X n) :=
  evM_ok (ext_ok H.ext) H.num H.fns (fun _ hev => draw_ok H.mixed (ext_ok H.ext) H.num hev) n
end Go.Vm
