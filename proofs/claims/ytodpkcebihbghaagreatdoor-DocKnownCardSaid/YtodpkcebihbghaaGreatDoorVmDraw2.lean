/- A run of drawV that ended well, as a trace. -/
import Derived.Test.YtodpkcebihbghaaGreatDoorVmFrm
import Derived.Orders
set_option linter.unusedVariables false
set_option linter.unusedSimpArgs false
namespace Go.Vm

inductive DK where
  | skip
  | pure
  | read
  | al (ob : Ob)
  | eff (h' : Hp)
structure TRec where
  o : Oper
  F : Frm
  h : Hp
  v : V
  kd : DK
inductive EffTo (P : Program) (ev : Ev) (F : Frm) (h : Hp) (o : Oper) : V → Hp → Prop where
  | val {v : V} {h' : Hp} (e : effV P F h o = .val v h') : EffTo P ev F h o v h'
  | skip {h' : Hp} (e : effV P F h o = .skip h') : EffTo P ev F h o vundef h'
  | enter {f : FuncId} {args : List V} {v : V} {md : Option Md} {h' : Hp} (e : effV P F h o = .enter f args) (c : ev.call f args none h = .ret v md h') : EffTo P ev F h o v h'
  | round {l : Nat} {args : List V} {v : V} {md : Option Md} {h' : Hp} (e : effV P F h o = .round l args) (c : ev.round l args h = .ret v md h') : EffTo P ev F h o v h'
inductive Tr (P : Program) (ev : Ev) (ops : Array Oper) (bf : Array Nat) : List Oper → Nat → DS → List TRec → S → Prop where
  | nil {t : Nat} {d : DS} (hc : recheck P bf d = true) : Tr P ev ops bf [] t d [] d.s
  | skip {o : Oper} {rest : List Oper} {t : Nat} {d : DS} {tr : List TRec} {s' : S} (hw : wantedV ops d.s.F o = false)
      (k : Tr P ev ops bf rest (t + 1) { d with s := { d.s with F := setO o.dst vundef d.s.F } } tr s') : Tr P ev ops bf (o :: rest) t d (⟨o, d.s.F, d.s.h, vundef, .skip⟩ :: tr) s'
  | pure {o : Oper} {rest : List Oper} {t : Nat} {d : DS} {tr : List TRec} {s' : S} {v : V} (hw : wantedV ops d.s.F o = true) (hp : pureV P d.s.F o = some v)
      (k : Tr P ev ops bf rest (t + 1) { d with s := { d.s with F := setO o.dst v d.s.F } } tr s') : Tr P ev ops bf (o :: rest) t d (⟨o, d.s.F, d.s.h, v, .pure⟩ :: tr) s'
  | read {o : Oper} {rest : List Oper} {t : Nat} {d : DS} {tr : List TRec} {s' : S} {v : V} (hw : wantedV ops d.s.F o = true) (hp : readV P d.s.F d.s.h o = some v) (hs : lowO o d.s.F d.s.h.next = true)
      (he : d.effs.all (fun (e, h) => prec bf e t || (sameV (readV P d.s.F h o) v && lowO o d.s.F h.next)) = true)
      (k : Tr P ev ops bf rest (t + 1) { d with s := { d.s with F := setO o.dst v d.s.F }, reads := (t, d.s.F, o, v) :: d.reads } tr s') : Tr P ev ops bf (o :: rest) t d (⟨o, d.s.F, d.s.h, v, .read⟩ :: tr) s'
  | al {o : Oper} {rest : List Oper} {t : Nat} {d : DS} {tr : List TRec} {s' : S} {ob : Ob} {f : Nat → V} (hw : wantedV ops d.s.F o = true) (hp : allocV P d.s.F o = some (ob, f)) (hs : lowO o d.s.F d.s.h.next = true) (he : ((d.effs.all fun (e, h) => prec bf e t || lowO o d.s.F h.next) || closedOb ob) = true)
      (k : Tr P ev ops bf rest (t + 1) { d with s := { d.s with F := setO o.dst (f d.s.h.next) d.s.F, h := d.s.h.new ob }, als := t :: d.als } tr s') : Tr P ev ops bf (o :: rest) t d (⟨o, d.s.F, d.s.h, f d.s.h.next, .al ob⟩ :: tr) s'
  | eff {o : Oper} {rest : List Oper} {t : Nat} {d : DS} {tr : List TRec} {s' : S} {v : V} {h' : Hp} (hw : wantedV ops d.s.F o = true) (hp : EffTo P ev d.s.F d.s.h o v h') (hs : lowO o d.s.F d.s.h.next = true) (hn : d.s.h.next ≤ h'.next)
      (he : d.effs.all (fun (e, _) => prec bf e t) = true) (ha : d.als.all (fun a => prec bf a t) = true) (hc : recheck P bf d = true)
      (k : Tr P ev ops bf rest (t + 1) { s := { d.s with F := setO o.dst v d.s.F, h := h' }, reads := d.reads, effs := (t, d.s.h) :: d.effs, als := d.als } tr s') : Tr P ev ops bf (o :: rest) t d (⟨o, d.s.F, d.s.h, v, .eff h'⟩ :: tr) s'
theorem drawV_tr {P : Program} {ev : Ev} {ops : Array Oper} {bf : Array Nat} : ∀ (l : List Oper) (t : Nat) (d : DS) (e : X) (s' : S), drawV P ev ops bf l t d = .x e s' → e = .normal ∧ ∃ tr, Tr P ev ops bf l t d tr s'
  | [], t, d, e, s', h => by
    unfold drawV at h
    split at h
    · rename_i hc
      injection h with h1 h2
      subst h1 h2
      exact ⟨rfl, [], .nil hc⟩
    · cases h
  | o :: rest, t, d, e, s', h => by
    have IH := fun (d : DS) => drawV_tr (P := P) (ev := ev) (ops := ops) (bf := bf) rest (t + 1) d e s'
    unfold drawV at h
    dsimp only at h
    have eff : wantedV ops d.s.F o = true → (if (d.effs.all fun (e, _) => prec bf e t) && (d.als.all fun a => prec bf a t) && recheck P bf d && lowO o d.s.F d.s.h.next then
        match effV P d.s.F d.s.h o with
        | .val v h => if !decide (d.s.h.next ≤ h.next) then XR.bad "drawn: next" else drawV P ev ops bf rest (t + 1) { s := { d.s with F := setO o.dst v d.s.F, h }, reads := d.reads, effs := (t, d.s.h) :: d.effs, als := d.als }
        | .skip h => if !decide (d.s.h.next ≤ h.next) then XR.bad "drawn: next" else drawV P ev ops bf rest (t + 1) { s := { d.s with F := setO o.dst vundef d.s.F, h }, reads := d.reads, effs := (t, d.s.h) :: d.effs, als := d.als }
        | .enter f args => (match ev.call f args none d.s.h with | .ret v _ h => if !decide (d.s.h.next ≤ h.next) then XR.bad "drawn: next" else drawV P ev ops bf rest (t + 1) { s := { d.s with F := setO o.dst v d.s.F, h }, reads := d.reads, effs := (t, d.s.h) :: d.effs, als := d.als } | .bad w => .bad w | _ => .bad "a panic in a drawn region")
        | .round l args => (match ev.round l args d.s.h with | .ret v _ h => if !decide (d.s.h.next ≤ h.next) then XR.bad "drawn: next" else drawV P ev ops bf rest (t + 1) { s := { d.s with F := setO o.dst v d.s.F, h }, reads := d.reads, effs := (t, d.s.h) :: d.effs, als := d.als } | .bad w => .bad w | _ => .bad "a panic in a drawn region")
        | .bad w => .bad (o.pos ++ " " ++ w)
        | _ => .bad (o.pos ++ " drawn")
      else .bad (o.pos ++ " drawn: order")) = .x e s' → e = .normal ∧ ∃ tr, Tr P ev ops bf (o :: rest) t d tr s' := fun hw h => by
      split at h
      · rename_i hc
        simp only [Bool.and_eq_true] at hc
        obtain ⟨⟨⟨c1, c2⟩, c3⟩, c4⟩ := hc
        split at h
        · rename_i v h' he
          split at h
          · cases h
          · rename_i hn
            obtain ⟨h1, tr, h2⟩ := IH _ h
            exact ⟨h1, _, .eff hw (.val he) c4 (by simpa using hn) c1 c2 c3 h2⟩
        · rename_i h' he
          split at h
          · cases h
          · rename_i hn
            obtain ⟨h1, tr, h2⟩ := IH _ h
            exact ⟨h1, _, .eff hw (.skip he) c4 (by simpa using hn) c1 c2 c3 h2⟩
        · rename_i f args he
          split at h
          · rename_i v md h' hc
            split at h
            · cases h
            · rename_i hn
              obtain ⟨h1, tr, h2⟩ := IH _ h
              exact ⟨h1, _, .eff hw (.enter he hc) c4 (by simpa using hn) c1 c2 c3 h2⟩
          · cases h
          · cases h
        · rename_i l args he
          split at h
          · rename_i v md h' hc
            split at h
            · cases h
            · rename_i hn
              obtain ⟨h1, tr, h2⟩ := IH _ h
              exact ⟨h1, _, .eff hw (.round he hc) c4 (by simpa using hn) c1 c2 c3 h2⟩
          · cases h
          · cases h
        · cases h
        · cases h
      · cases h
    split at h
    · rename_i hw
      split at h
      · split at h
        · rename_i ob f hp
          split at h
          · rename_i hs
            rw [Bool.and_eq_true] at hs
            obtain ⟨h1, tr, h2⟩ := IH _ h
            exact ⟨h1, _, .al hw hp hs.1 hs.2 h2⟩
          · cases h
        · cases h
      · exact eff hw h
      · split at h
        · rename_i v hp
          obtain ⟨h1, tr, h2⟩ := IH _ h
          exact ⟨h1, _, .pure hw hp h2⟩
        · split at h
          · rename_i v hp
            split at h
            · rename_i hc
              rw [Bool.and_eq_true] at hc
              obtain ⟨h1, tr, h2⟩ := IH _ h
              exact ⟨h1, _, .read hw hp hc.1 hc.2 h2⟩
            · cases h
          · exact eff hw h
    · rename_i hw
      obtain ⟨h1, tr, h2⟩ := IH _ h
      exact ⟨h1, _, .skip (by simpa using hw) h2⟩
end Go.Vm
/- The trace, by index. -/
namespace Go.Vm
variable {P : Program} {ev : Ev} {ops : Array Oper} {bf : Array Nat}

def TRec.nextF (r : TRec) : Frm := setO r.o.dst r.v r.F
def TRec.nextH (r : TRec) : Hp := match r.kd with | .al ob => r.h.new ob | .eff h' => h' | _ => r.h
theorem Tr.length {l : List Oper} {t : Nat} {d : DS} {tr : List TRec} {s' : S} (h : Tr P ev ops bf l t d tr s') : tr.length = l.length := by
  induction h with
  | nil => rfl
  | _ => simp [*]
theorem Tr.op {l : List Oper} {t : Nat} {d : DS} {tr : List TRec} {s' : S} (h : Tr P ev ops bf l t d tr s') : ∀ (k : Nat) (r : TRec), tr[k]? = some r → l[k]? = some r.o := by
  induction h with
  | nil => intro k r hr; simp at hr
  | _ =>
    rename_i ih
    intro k r hr
    cases k with
    | zero => simp at hr; subst hr; rfl
    | succ k => simpa using ih k r (by simpa using hr)
theorem Tr.head {l : List Oper} {t : Nat} {d : DS} {tr : List TRec} {s' : S} (h : Tr P ev ops bf l t d tr s') : ∀ (r : TRec), tr[0]? = some r → r.F = d.s.F ∧ r.h = d.s.h := by
  cases h with
  | nil => intro r hr; simp at hr
  | _ => intro r hr; simp at hr; subst hr; exact ⟨rfl, rfl⟩
theorem Tr.succ {l : List Oper} {t : Nat} {d : DS} {tr : List TRec} {s' : S} (h : Tr P ev ops bf l t d tr s') : ∀ (k : Nat) (r r' : TRec), tr[k]? = some r → tr[k + 1]? = some r' → r'.F = r.nextF ∧ r'.h = r.nextH := by
  induction h with
  | nil => intro k r r' hr; simp at hr
  | _ =>
    rename_i kk ih
    intro k r r' hr hr'
    cases k with
    | zero =>
      simp only [List.getElem?_cons_zero, Option.some.injEq] at hr
      subst hr
      exact kk.head r' (by simpa using hr')
    | succ k => exact ih k r r' (by simpa using hr) (by simpa using hr')
end Go.Vm
/- The checks of a drawn region's run, by index. -/
namespace Go.Vm
variable {P : Program} {ev : Ev} {ops : Array Oper} {bf : Array Nat}

mutual
theorem V.beq_eq : ∀ (a b : V), V.beq a b = true → a = b
  | .bool a, b, h => by cases b <;> simp_all [V.beq]
  | .int k n, b, h => by cases b <;> simp_all [V.beq]
  | .str s, b, h => by cases b <;> simp_all [V.beq]
  | .ptr p, b, h => by cases b <;> simp_all [V.beq]
  | .slice a n c, b, h => by cases b <;> simp_all [V.beq]
  | .map a, b, h => by cases b <;> simp_all [V.beq]
  | .func f x y, b, h => by
    cases b <;> simp only [V.beq, Bool.and_eq_true, reduceCtorEq, Bool.false_eq_true] at h
    rw [V.beqs_eq _ _ h.1.2, V.beqs_eq _ _ h.2]
    simpa using h.1.1
  | .yield a, b, h => by cases b <;> simp_all [V.beq]
  | .nilFunc, b, h => by cases b <;> simp_all [V.beq]
  | .nilIface, b, h => by cases b <;> simp_all [V.beq]
  | .iface t a, b, h => by
    cases b <;> simp only [V.beq, Bool.and_eq_true, reduceCtorEq, Bool.false_eq_true] at h
    rw [V.beq_eq _ _ h.2]
    simpa using h.1
  | .agg l, b, h => by
    cases b <;> simp only [V.beq, Bool.and_eq_true, reduceCtorEq, Bool.false_eq_true] at h
    rw [V.beqs_eq _ _ h]
  | .tuple l, b, h => by
    cases b <;> simp only [V.beq, Bool.and_eq_true, reduceCtorEq, Bool.false_eq_true] at h
    rw [V.beqs_eq _ _ h]
theorem V.beqs_eq : ∀ (a b : List V), V.beqs a b = true → a = b
  | [], b, h => by cases b <;> simp_all [V.beqs]
  | x :: l, [], h => by simp [V.beqs] at h
  | x :: l, y :: m, h => by
    simp only [V.beqs, Bool.and_eq_true] at h
    rw [V.beq_eq _ _ h.1, V.beqs_eq _ _ h.2]
end
theorem sameV_eq {x : Option V} {v : V} (h : sameV x v = true) : x = some v := by
  cases x with
  | none => simp [sameV] at h
  | some a => rw [V.beq_eq _ _ h]

def TRec.isE (r : TRec) : Prop := ∃ h', r.kd = .eff h'
def TRec.isA (r : TRec) : Prop := ∃ ob, r.kd = .al ob
def RecOk (P : Program) (ev : Ev) (ops : Array Oper) (r : TRec) : Prop :=
  match r.kd with
  | .skip => wantedV ops r.F r.o = false ∧ r.v = vundef
  | .pure => wantedV ops r.F r.o = true ∧ pureV P r.F r.o = some r.v
  | .read => wantedV ops r.F r.o = true ∧ readV P r.F r.h r.o = some r.v ∧ lowO r.o r.F r.h.next = true
  | .al ob => wantedV ops r.F r.o = true ∧ (∃ f, allocV P r.F r.o = some (ob, f) ∧ r.v = f r.h.next) ∧ lowO r.o r.F r.h.next = true
  | .eff h' => wantedV ops r.F r.o = true ∧ EffTo P ev r.F r.h r.o r.v h' ∧ lowO r.o r.F r.h.next = true ∧ r.h.next ≤ h'.next
theorem Tr.recOk {l : List Oper} {t : Nat} {d : DS} {tr : List TRec} {s' : S} (h : Tr P ev ops bf l t d tr s') : ∀ (k : Nat) (r : TRec), tr[k]? = some r → RecOk P ev ops r := by
  induction h with
  | nil => intro k r hr; simp at hr
  | skip hw _ ih =>
    intro k r hr
    cases k with
    | zero => simp at hr; subst hr; exact ⟨hw, rfl⟩
    | succ k => exact ih k r (by simpa using hr)
  | pure hw hp _ ih =>
    intro k r hr
    cases k with
    | zero => simp at hr; subst hr; exact ⟨hw, hp⟩
    | succ k => exact ih k r (by simpa using hr)
  | read hw hp hs _ _ ih =>
    intro k r hr
    cases k with
    | zero => simp at hr; subst hr; exact ⟨hw, hp, hs⟩
    | succ k => exact ih k r (by simpa using hr)
  | al hw hp hs _ _ ih =>
    intro k r hr
    cases k with
    | zero => simp at hr; subst hr; exact ⟨hw, ⟨_, hp, rfl⟩, hs⟩
    | succ k => exact ih k r (by simpa using hr)
  | eff hw hp hs hn _ _ _ _ ih =>
    intro k r hr
    cases k with
    | zero => simp at hr; subst hr; exact ⟨hw, hp, hs, hn⟩
    | succ k => exact ih k r (by simpa using hr)

/-! ### The end of a run, from the k-th operation on -/
structure Upto (tr : List TRec) (t k : Nat) (d dk : DS) : Prop where
  eff0 : ∀ x ∈ d.effs, x ∈ dk.effs
  als0 : ∀ x ∈ d.als, x ∈ dk.als
  rds0 : ∀ x ∈ d.reads, x ∈ dk.reads
  eff : ∀ j r, j < k → tr[j]? = some r → r.isE → (t + j, r.h) ∈ dk.effs
  als : ∀ j r, j < k → tr[j]? = some r → r.isA → t + j ∈ dk.als
  rds : ∀ j r, j < k → tr[j]? = some r → r.kd = .read → (t + j, r.F, r.o, r.v) ∈ dk.reads
  inv : ∀ x ∈ dk.effs, x ∈ d.effs ∨ ∃ j r, j < k ∧ tr[j]? = some r ∧ r.isE ∧ x = (t + j, r.h)
theorem Upto.zero (tr : List TRec) (t : Nat) (d : DS) : Upto tr t 0 d d :=
  ⟨fun _ h => h, fun _ h => h, fun _ h => h, fun _ _ h => absurd h (Nat.not_lt_zero _), fun _ _ h => absurd h (Nat.not_lt_zero _), fun _ _ h => absurd h (Nat.not_lt_zero _), fun _ h => .inl h⟩
theorem Upto.succ {tr : List TRec} {t k : Nat} {d d1 dk : DS} {r0 : TRec} (h : Upto tr (t + 1) k d1 dk)
    (e0 : ∀ x ∈ d.effs, x ∈ d1.effs) (a0 : ∀ x ∈ d.als, x ∈ d1.als) (q0 : ∀ x ∈ d.reads, x ∈ d1.reads)
    (e1 : r0.isE → (t, r0.h) ∈ d1.effs) (a1 : r0.isA → t ∈ d1.als) (q1 : r0.kd = .read → (t, r0.F, r0.o, r0.v) ∈ d1.reads)
    (i1 : ∀ x ∈ d1.effs, x ∈ d.effs ∨ r0.isE ∧ x = (t, r0.h)) : Upto (r0 :: tr) t (k + 1) d dk where
  eff0 := fun x hx => h.eff0 x (e0 x hx)
  als0 := fun x hx => h.als0 x (a0 x hx)
  rds0 := fun x hx => h.rds0 x (q0 x hx)
  eff := fun j r hj hr hE => by
    cases j with
    | zero => simp at hr; subst hr; exact h.eff0 _ (e1 hE)
    | succ j => rw [show t + (j + 1) = t + 1 + j by omega]; exact h.eff j r (by omega) (by simpa using hr) hE
  als := fun j r hj hr hE => by
    cases j with
    | zero => simp at hr; subst hr; exact h.als0 _ (a1 hE)
    | succ j => rw [show t + (j + 1) = t + 1 + j by omega]; exact h.als j r (by omega) (by simpa using hr) hE
  rds := fun j r hj hr hE => by
    cases j with
    | zero => simp at hr; subst hr; exact h.rds0 _ (q1 hE)
    | succ j => rw [show t + (j + 1) = t + 1 + j by omega]; exact h.rds j r (by omega) (by simpa using hr) hE
  inv := fun x hx => by
    rcases h.inv x hx with hx | ⟨j, r, h1, h2, h3, h4⟩
    · rcases i1 x hx with hx | ⟨h1, h2⟩
      · exact .inl hx
      · exact .inr ⟨0, r0, by omega, rfl, h1, h2⟩
    · exact .inr ⟨j + 1, r, by omega, by simpa using h2, h3, by rw [h4, show t + (j + 1) = t + 1 + j by omega]⟩
theorem Tr.tail {l : List Oper} {t : Nat} {d : DS} {tr : List TRec} {s' : S} (h : Tr P ev ops bf l t d tr s') :
    ∀ k, k ≤ tr.length → ∃ dk, Tr P ev ops bf (l.drop k) (t + k) dk (tr.drop k) s' ∧ Upto tr t k d dk := by
  induction h with
  | nil hc =>
    intro k hk
    simp only [List.length_nil, Nat.le_zero_eq] at hk
    subst hk
    exact ⟨_, .nil hc, .zero _ _ _⟩
  | skip hw kk ih =>
    intro k hk
    cases k with
    | zero => exact ⟨_, .skip hw kk, .zero _ _ _⟩
    | succ k =>
      obtain ⟨dk, h1, h2⟩ := ih k (by simpa using hk)
      rw [show ∀ t, t + 1 + k = t + (k + 1) by intro t; omega] at h1
      refine ⟨dk, h1, h2.succ (fun _ h => h) (fun _ h => h) (fun _ h => h) ?_ ?_ ?_ fun _ h => .inl h⟩
      · rintro ⟨_, h⟩; cases h
      · rintro ⟨_, h⟩; cases h
      · intro h; cases h
  | pure hw hp kk ih =>
    intro k hk
    cases k with
    | zero => exact ⟨_, .pure hw hp kk, .zero _ _ _⟩
    | succ k =>
      obtain ⟨dk, h1, h2⟩ := ih k (by simpa using hk)
      rw [show ∀ t, t + 1 + k = t + (k + 1) by intro t; omega] at h1
      refine ⟨dk, h1, h2.succ (fun _ h => h) (fun _ h => h) (fun _ h => h) ?_ ?_ ?_ fun _ h => .inl h⟩
      · rintro ⟨_, h⟩; cases h
      · rintro ⟨_, h⟩; cases h
      · intro h; cases h
  | read hw hp hs he kk ih =>
    intro k hk
    cases k with
    | zero => exact ⟨_, .read hw hp hs he kk, .zero _ _ _⟩
    | succ k =>
      obtain ⟨dk, h1, h2⟩ := ih k (by simpa using hk)
      rw [show ∀ t, t + 1 + k = t + (k + 1) by intro t; omega] at h1
      refine ⟨dk, h1, h2.succ (fun _ h => h) (fun _ h => h) (fun _ h => List.mem_cons_of_mem _ h) ?_ ?_ (fun _ => List.mem_cons_self) fun _ h => .inl h⟩
      · rintro ⟨_, h⟩; cases h
      · rintro ⟨_, h⟩; cases h
  | al hw hp hs he kk ih =>
    intro k hk
    cases k with
    | zero => exact ⟨_, .al hw hp hs he kk, .zero _ _ _⟩
    | succ k =>
      obtain ⟨dk, h1, h2⟩ := ih k (by simpa using hk)
      rw [show ∀ t, t + 1 + k = t + (k + 1) by intro t; omega] at h1
      refine ⟨dk, h1, h2.succ (fun _ h => h) (fun _ h => List.mem_cons_of_mem _ h) (fun _ h => h) ?_ (fun _ => List.mem_cons_self) ?_ fun _ h => .inl h⟩
      · rintro ⟨_, h⟩; cases h
      · intro h; cases h
  | eff hw hp hs hn he ha hc kk ih =>
    intro k hk
    cases k with
    | zero => exact ⟨_, .eff hw hp hs hn he ha hc kk, .zero _ _ _⟩
    | succ k =>
      obtain ⟨dk, h1, h2⟩ := ih k (by simpa using hk)
      rw [show ∀ t, t + 1 + k = t + (k + 1) by intro t; omega] at h1
      refine ⟨dk, h1, h2.succ (fun _ h => List.mem_cons_of_mem _ h) (fun _ h => h) (fun _ h => h) (fun _ => List.mem_cons_self) ?_ ?_ fun x h => ?_⟩
      · rintro ⟨_, h⟩; cases h
      · intro h; cases h
      · rcases List.mem_cons.1 h with h | h
        · exact .inr ⟨⟨_, rfl⟩, h⟩
        · exact .inl h

/-! ### The checks -/
section
variable {l : List Oper} {s : S} {tr : List TRec} {s' : S}
theorem Tr.at (h : Tr P ev ops bf l 0 { s, reads := [], effs := [], als := [] } tr s') {k : Nat} {r : TRec} (hr : tr[k]? = some r) :
    ∃ dk tl l', Tr P ev ops bf l' k dk (r :: tl) s' ∧ Upto tr 0 k { s, reads := [], effs := [], als := [] } dk := by
  have hlt := (List.getElem?_eq_some_iff.1 hr).1
  obtain ⟨dk, h1, h2⟩ := h.tail k (Nat.le_of_lt hlt)
  rw [Nat.zero_add] at h1
  have : tr.drop k = r :: tr.drop (k + 1) := by
    rw [List.drop_eq_getElem_cons hlt]
    congr 1
    rw [List.getElem?_eq_getElem hlt] at hr
    exact Option.some.inj hr
  rw [this] at h1
  exact ⟨dk, _, _, h1, h2⟩
theorem Tr.eff_eff (h : Tr P ev ops bf l 0 { s, reads := [], effs := [], als := [] } tr s') {j k : Nat} {rj rk : TRec} (hj : tr[j]? = some rj) (hk : tr[k]? = some rk) (hlt : j < k) (ej : rj.isE) (ek : rk.isE) : prec bf j k = true := by
  obtain ⟨dk, tl, l', h1, h2⟩ := h.at hk
  have hm := h2.eff j rj hlt hj ej
  rw [Nat.zero_add] at hm
  obtain ⟨h', ek⟩ := ek
  cases h1 with
  | eff hw hp hs hn he ha hc kk => exact List.all_eq_true.1 he _ hm
  | _ => cases ek
theorem Tr.al_eff (h : Tr P ev ops bf l 0 { s, reads := [], effs := [], als := [] } tr s') {j k : Nat} {rj rk : TRec} (hj : tr[j]? = some rj) (hk : tr[k]? = some rk) (hlt : j < k) (ej : rj.isA) (ek : rk.isE) : prec bf j k = true := by
  obtain ⟨dk, tl, l', h1, h2⟩ := h.at hk
  have hm := h2.als j rj hlt hj ej
  rw [Nat.zero_add] at hm
  obtain ⟨h', ek⟩ := ek
  cases h1 with
  | eff hw hp hs hn he ha hc kk => exact List.all_eq_true.1 ha _ hm
  | _ => cases ek
theorem Tr.eff_al (h : Tr P ev ops bf l 0 { s, reads := [], effs := [], als := [] } tr s') {j k : Nat} {rj rk : TRec} {ob : Ob} (hj : tr[j]? = some rj) (hk : tr[k]? = some rk) (hlt : j < k) (ej : rj.isE) (ek : rk.kd = .al ob) : prec bf j k = true ∨ lowO rk.o rk.F rj.h.next = true ∨ closedOb ob = true := by
  obtain ⟨dk, tl, l', h1, h2⟩ := h.at hk
  have hm := h2.eff j rj hlt hj ej
  rw [Nat.zero_add] at hm
  cases h1 with
  | al hw hp hs he kk =>
    cases ek
    rw [Bool.or_eq_true] at he
    rcases he with he | he
    · have := List.all_eq_true.1 he _ hm
      simp only [Bool.or_eq_true] at this
      exact this.imp id .inl
    · exact .inr (.inr he)
  | _ => cases ek
theorem Tr.eff_read (h : Tr P ev ops bf l 0 { s, reads := [], effs := [], als := [] } tr s') {j k : Nat} {rj rk : TRec} (hj : tr[j]? = some rj) (hk : tr[k]? = some rk) (hlt : j < k) (ej : rj.isE) (ek : rk.kd = .read) :
    prec bf j k = true ∨ (readV P rk.F rj.h rk.o = some rk.v ∧ lowO rk.o rk.F rj.h.next = true) := by
  obtain ⟨dk, tl, l', h1, h2⟩ := h.at hk
  have hm := h2.eff j rj hlt hj ej
  rw [Nat.zero_add] at hm
  cases h1 with
  | read hw hp hs he kk =>
    have := List.all_eq_true.1 he _ hm
    simp only [Bool.or_eq_true, Bool.and_eq_true] at this
    exact this.imp id fun h => ⟨sameV_eq h.1, h.2⟩
  | _ => cases ek
theorem recheck_at {dk : DS} {k j : Nat} {r : TRec} (hc : recheck P bf dk = true) (h2 : Upto tr 0 j { s, reads := [], effs := [], als := [] } dk) (hk : tr[k]? = some r) (hlt : k < j) (ek : r.kd = .read) :
    (∃ i ri, i < j ∧ tr[i]? = some ri ∧ ri.isE ∧ prec bf k i = true) ∨ readV P r.F dk.s.h r.o = some r.v := by
  have hm := h2.rds k r hlt hk ek
  rw [Nat.zero_add] at hm
  have := List.all_eq_true.1 hc _ hm
  simp only [Bool.or_eq_true] at this
  rcases this with h1 | h1
  · left
    split at h1
    · rename_i e _ _ he
      rcases h2.inv (e, _) (by rw [he]; exact List.mem_cons_self) with h3 | ⟨i, ri, g1, g2, g3, g4⟩
      · cases h3
      · rw [Nat.zero_add] at g4
        cases g4
        exact ⟨_, ri, g1, g2, g3, h1⟩
    · cases h1
  · exact .inr (sameV_eq h1)
theorem Tr.read_eff (h : Tr P ev ops bf l 0 { s, reads := [], effs := [], als := [] } tr s') {j k : Nat} {rj rk : TRec} (hj : tr[j]? = some rj) (hk : tr[k]? = some rk) (hlt : k < j) (ej : rj.isE) (ek : rk.kd = .read) :
    (∃ i ri, i < j ∧ tr[i]? = some ri ∧ ri.isE ∧ prec bf k i = true) ∨ readV P rk.F rj.h rk.o = some rk.v := by
  obtain ⟨dk, tl, l', h1, h2⟩ := h.at hj
  obtain ⟨h', ej⟩ := ej
  cases h1 with
  | eff hw hp hs hn he ha hc kk => exact recheck_at hc h2 hk hlt ek
  | _ => cases ej
theorem Tr.read_end (h : Tr P ev ops bf l 0 { s, reads := [], effs := [], als := [] } tr s') {k : Nat} {rk : TRec} (hk : tr[k]? = some rk) (ek : rk.kd = .read) :
    (∃ i ri, i < tr.length ∧ tr[i]? = some ri ∧ ri.isE ∧ prec bf k i = true) ∨ readV P rk.F s'.h rk.o = some rk.v := by
  obtain ⟨dk, h1, h2⟩ := h.tail tr.length (Nat.le_refl _)
  have hlt := (List.getElem?_eq_some_iff.1 hk).1
  rw [List.drop_length] at h1
  generalize hl : List.drop tr.length l = l' at h1
  cases h1 with
  | nil hc => exact recheck_at hc h2 hk hlt ek
end

/-! ### Heaps and frames by index -/
def hAt (tr : List TRec) (s' : S) (k : Nat) : Hp := match tr[k]? with | some r => r.h | none => s'.h
def fAt (tr : List TRec) (s' : S) (k : Nat) : Frm := match tr[k]? with | some r => r.F | none => s'.F
theorem hAt_some {tr : List TRec} {s' : S} {k : Nat} {r : TRec} (h : tr[k]? = some r) : hAt tr s' k = r.h := by unfold hAt; rw [h]
theorem fAt_some {tr : List TRec} {s' : S} {k : Nat} {r : TRec} (h : tr[k]? = some r) : fAt tr s' k = r.F := by unfold fAt; rw [h]
theorem Tr.hd {l : List Oper} {t : Nat} {d : DS} {tr : List TRec} {s' : S} (h : Tr P ev ops bf l t d tr s') : hAt tr s' 0 = d.s.h ∧ fAt tr s' 0 = d.s.F := by
  cases h <;> exact ⟨rfl, rfl⟩
theorem Tr.next {l : List Oper} {t : Nat} {d : DS} {tr : List TRec} {s' : S} (h : Tr P ev ops bf l t d tr s') : ∀ (k : Nat) (r : TRec), tr[k]? = some r → hAt tr s' (k + 1) = r.nextH ∧ fAt tr s' (k + 1) = r.nextF := by
  induction h with
  | nil => intro k r hr; simp at hr
  | _ =>
    rename_i kk ih
    intro k r hr
    cases k with
    | zero =>
      simp only [List.getElem?_cons_zero, Option.some.injEq] at hr
      subst hr
      exact kk.hd
    | succ k => exact ih k r (by simpa using hr)
theorem Tr.same {l : List Oper} {t : Nat} {d : DS} {tr : List TRec} {s' : S} (h : Tr P ev ops bf l t d tr s') : s'.ds = d.s.ds ∧ s'.md = d.s.md := by
  induction h with
  | nil => exact ⟨rfl, rfl⟩
  | _ => rename_i ih; exact ih
theorem frS_none (v : Nat → V) (S : Nat → Bool) : ∀ (l : List Oper) (i : Nat) (F : Frm), (∀ k, i ≤ k → S k = false) → frS v S l i F = F
  | [], i, F, h => rfl
  | o :: l, i, F, h => by
    simp only [frS]
    rw [if_neg (by rw [h i (Nat.le_refl _)]; simp)]
    exact frS_none v S l (i + 1) F fun k hk => h k (by omega)
theorem Tr.fAt {l : List Oper} {t : Nat} {d : DS} {tr : List TRec} {s' : S} (h : Tr P ev ops bf l t d tr s') (v : Nat → V) : (∀ j r, tr[j]? = some r → v (t + j) = r.v) → ∀ k, fAt tr s' k = frS v (fun i => decide (i < t + k)) l t d.s.F := by
  induction h with
  | nil => intro _ k; simp [Vm.fAt, frS]
  | _ =>
    rename_i kk ih
    intro hv k
    cases k with
    | zero =>
      rw [frS_none _ _ _ _ _ (fun k hk => by simp; omega)]
      rfl
    | succ k =>
      have := ih (fun j r hj => by rw [← hv (j + 1) r (by simpa using hj)]; congr 1; omega) k
      simp only [frS]
      have hv0 := hv 0 _ rfl
      rw [Nat.add_zero] at hv0
      rw [if_pos (by simp), hv0, show ∀ t, t + (k + 1) = t + 1 + k by intro t; omega]
      exact this
/-- Where nothing takes effect, the heap only grows. -/
theorem Tr.seg {l : List Oper} {t : Nat} {d : DS} {tr : List TRec} {s' : S} (h : Tr P ev ops bf l t d tr s') {i : Nat} : ∀ j, i ≤ j → j ≤ tr.length → (∀ k r, i ≤ k → k < j → tr[k]? = some r → ¬ r.isE) →
    (hAt tr s' i).next ≤ (hAt tr s' j).next ∧ ∀ b, b < (hAt tr s' i).next → (hAt tr s' j).get b = (hAt tr s' i).get b := by
  intro j
  induction j with
  | zero => intro hi _ _; obtain rfl : i = 0 := by omega
            exact ⟨Nat.le_refl _, fun _ _ => rfl⟩
  | succ j ih =>
    intro hi hj hn
    by_cases he : i = j + 1
    · subst he; exact ⟨Nat.le_refl _, fun _ _ => rfl⟩
    · obtain ⟨h1, h2⟩ := ih (by omega) (by omega) (fun k r hk hk' => hn k r hk (by omega))
      have hj' : tr[j]? = some tr[j] := List.getElem?_eq_getElem (by omega)
      have hx := (h.next j _ hj').1
      have hne := hn j _ (by omega) (by omega) hj'
      rw [hx]
      rw [hAt_some hj'] at h1 h2
      generalize tr[j] = r at *
      unfold TRec.nextH
      cases hk : r.kd with
      | al ob =>
        dsimp only
        rw [Hp.next_new]
        exact ⟨by omega, fun b hb => by rw [Hp.get_new_ne _ (by omega)]; exact h2 b hb⟩
      | eff h' => exact (hne ⟨_, hk⟩).elim
      | _ => exact ⟨h1, h2⟩
/-- Numbers only grow. -/
theorem Tr.mono {l : List Oper} {t : Nat} {d : DS} {tr : List TRec} {s' : S} (h : Tr P ev ops bf l t d tr s') {i : Nat} : ∀ j, i ≤ j → j ≤ tr.length → (hAt tr s' i).next ≤ (hAt tr s' j).next := by
  intro j
  induction j with
  | zero => intro hi _; obtain rfl : i = 0 := by omega
            exact Nat.le_refl _
  | succ j ih =>
    intro hi hj
    by_cases he : i = j + 1
    · subst he; exact Nat.le_refl _
    · have h1 := ih (by omega) (by omega)
      have hj' : tr[j]? = some tr[j] := List.getElem?_eq_getElem (by omega)
      have hx := (h.next j _ hj').1
      have hr := h.recOk j _ hj'
      rw [hx]
      rw [hAt_some hj'] at h1
      generalize tr[j] = r at *
      unfold TRec.nextH
      unfold RecOk at hr
      cases hk : r.kd with
      | al ob => dsimp only; rw [Hp.next_new]; omega
      | eff h' => rw [hk] at hr; dsimp only; have := hr.2.2.2; omega
      | _ => exact h1
end Go.Vm
/- Regions whose order is drawn. -/
namespace Go.Vm
open Go.RowKit
variable {P : Program} {ev : Ev} {ops : Array Oper}

/-! ### What drawOk says -/
theorem drawOk_edge (hd : drawOk ops = true) {j : Nat} {o : Oper} (ho : ops[j]? = some o) : ∀ e ∈ o.after, Region.binds .any e = true → e.on < j := by
  unfold drawOk at hd
  simp only [Bool.and_eq_true] at hd
  intro e he hb
  have := List.all_eq_true.1 hd.1 (o, j) (List.mem_zipIdx_iff_getElem?.2 (by simpa using ho))
  have := List.all_eq_true.1 this e (Array.mem_toList_iff.2 he)
  simpa [hb] using this
theorem drawOk_apart (hd : drawOk ops = true) {i j : Nat} {x y : Oper} (hi : ops[i]? = some x) (hj : ops[j]? = some y) (hlt : i < j) : prec (Region.before ops) i j = true ∨ x.apart ops y = true := by
  unfold drawOk at hd
  simp only [Bool.and_eq_true] at hd
  have := List.all_eq_true.1 hd.2 (y, j) (List.mem_zipIdx_iff_getElem?.2 (by simpa using hj))
  have := List.all_eq_true.1 this (x, i) (List.mem_zipIdx_iff_getElem?.2 (by simp [List.getElem?_take, hlt, hi]))
  simpa using this

structure Closed (ops : Array Oper) (S : Nat → Bool) : Prop where
  lt : ∀ j, S j = true → j < ops.size
  edge : ∀ j o, ops[j]? = some o → S j = true → ∀ e ∈ o.after, Region.binds .any e = true → S e.on = true
theorem Closed.prec (hd : drawOk ops = true) {S : Nat → Bool} (h : Closed ops S) {i j : Nat} (hj : S j = true) (hp : prec (Region.before ops) i j = true) : S i = true :=
  prec_closed (S := fun i => S i = true) (fun j o ho => drawOk_edge hd ho) h.edge h.lt j i hj hp
/-- All that is before t is done. -/
theorem Closed.before (hd : drawOk ops = true) {S : Nat → Bool} (h : Closed ops S) {t : Nat} {o : Oper} (ho : ops[t]? = some o) (hr : ∀ e ∈ o.after, Region.binds .any e = true → S e.on = true) {i : Nat} (hp : Vm.prec (Region.before ops) i t = true) : S i = true := by
  obtain ⟨e, h1, h2, h3⟩ := prec_edge ho (drawOk_edge hd ho) hp
  have := hr e h1 h2
  rcases h3 with rfl | h3
  · exact this
  · exact h.prec hd this h3

section
variable {S : Nat → Bool} {t : Nat} {o : Oper}
theorem looks_agree (hd : drawOk ops = true) (h : Closed ops S) (ho : ops[t]? = some o) (hS : S t = false) (hr : ∀ e ∈ o.after, Region.binds .any e = true → S e.on = true) (v : Nat → V) (F : Frm) {q : Tmp} (hq : q ∈ o.looksAt ops) :
    (frS v S ops.toList 0 F).get (Pos.of q) = (frS v (fun i => decide (i < 0 + t)) ops.toList 0 F).get (Pos.of q) := by
  refine frS_congr v _ _ q _ _ _ _ (fun k p hk hp => ?_) rfl
  rw [Nat.zero_add, Nat.zero_add]
  have hk' : ops[k]? = some p := by simpa using hk
  rcases Nat.lt_trichotomy k t with hlt | rfl | hlt
  · rw [decide_eq_true hlt]
    rcases drawOk_apart hd hk' ho hlt with h1 | h1
    · exact h.before hd ho hr h1
    · exact ((Oper.apart_spec h1).1 q hp hq).elim
  · rw [hS]; simp
  · rw [decide_eq_false (by omega)]
    rcases drawOk_apart hd ho hk' hlt with h1 | h1
    · cases hk2 : S k with
      | false => rfl
      | true => rw [h.prec hd hk2 h1] at hS; cases hS
    · exact ((Oper.apart_spec h1).2.2 q hp hq).elim
theorem later_writer (hd : drawOk ops = true) (h : Closed ops S) (ho : ops[t]? = some o) (hS : S t = false) {k : Nat} {p : Oper} (hk : ops[k]? = some p) (hlt : t < k) (he : p.dst = o.dst) (hne : o.dst ≠ none) : S k = false := by
  rcases drawOk_apart hd ho hk hlt with h1 | h1
  · cases hk2 : S k with
    | false => rfl
    | true => rw [h.prec hd hk2 h1] at hS; cases hS
  · obtain ⟨d, hd'⟩ := Option.ne_none_iff_exists'.1 hne
    exact ((Oper.apart_spec h1).2.1 d hd' (he.trans hd')).elim
end
theorem FR.congr {μ : PM} {F F' : Frm} {n : Nat} {t : Array Value} (h : FR μ F n t) (e : ∀ q : Tmp, F'.get (Pos.of q) = F.get (Pos.of q)) : FR μ F' n t := ⟨h.1, fun i hi => by rw [e]; exact h.2 i hi⟩
theorem opr_agree {F F' : Frm} {x : Operand} (h : ∀ q, x = .tmp q → F.get (Pos.of q) = F'.get (Pos.of q)) : opr F x = opr F' x := by
  cases x with
  | tmp q => simp only [opr]; rw [h q rfl]
  | _ => rfl
theorem op_agree {μ1 : PM} {F F' : Frm} {n : Nat} {a : Act} {o : Oper} (hg : ∀ g, g < P.globals.size → μ1 g = some ⟨g, 0, 0⟩) (hF : FR μ1 F n a.tmps) (ho : okOp P n o = true) (e : ∀ q ∈ o.looksAt ops, F.get (Pos.of q) = F'.get (Pos.of q)) : OpOk P μ1 F' a o := by
  unfold okOp at ho
  simp only [Bool.and_eq_true] at ho
  obtain ⟨⟨⟨_, h1⟩, h2⟩, _⟩ := ho
  rw [List.all_eq_true] at h1 h2
  refine ⟨fun x hx => ?_, h2⟩
  rw [← opr_agree (F := F) (F' := F') fun q hq => e q ?_]
  · have hc := h1 x (Array.mem_toList_iff.2 hx)
    cases x with
    | tmp t =>
      simp only [constOk, decide_eq_true_eq] at hc
      exact hF.2 t hc
    | const v =>
      simp only [constOk, Option.isSome_iff_exists] at hc
      obtain ⟨u, hu⟩ := hc
      simp only [opr, hu, Option.getD_some, Act.eval]
      exact toV_sound v hu
    | global g =>
      simp only [constOk, decide_eq_true_eq] at hc
      exact .ptr (o := 0) (hg g hc)
    | func f => exact .func (fs' := []) (cs' := []) .nil .nil
  · unfold Oper.looksAt
    subst hq
    exact List.mem_append_left _ (List.mem_filterMap.2 ⟨_, Array.mem_toList_iff.2 hx, rfl⟩)
theorem OpOk.below {μ η : PM} {F : Frm} {a : Act} {o : Oper} {N : Nat} (h : OpOk P (μ.or η) F a o) (hη : ∀ b l, η b = some l → N ≤ b) (hs : lowO o F N = true) : OpOk P μ F a o :=
  ⟨fun x hx => (h.opd x hx).belowOr hη (List.all_eq_true.1 hs x (Array.mem_toList_iff.2 hx)), h.typ⟩
theorem wanted_agree {μ : PM} {F F' : Frm} {n : Nat} {a : Act} (hF : FR μ F n a.tmps) (hd : ∀ o ∈ ops, ∀ d, o.dst = some d → d < n) (o : Oper) (e : ∀ q ∈ o.looksAt ops, F.get (Pos.of q) = F'.get (Pos.of q)) :
    wantedV ops F' o = Region.wanted o (yielded ops a.tmps) := by
  rw [← wanted_eq hF hd o]
  unfold wantedV
  cases hg : o.guard with
  | none => rfl
  | some g =>
    obtain ⟨j, want⟩ := g
    dsimp only
    cases hj : (ops[j]?).bind (·.dst) with
    | none => rfl
    | some q =>
      simp only [Option.map_some]
      rw [e q (by unfold Oper.looksAt; rw [hg]; exact List.mem_append_right _ (by dsimp only; rw [hj]; simp))]

/-! ### The invariant -/
section
variable {n : Nat} {b : Frame} {c0 : List Frame} {k : List Item} {rnd : Option Nat} {s s' : S} {tr : List TRec} {μ0 : PM} {w0 : World} {cs : List Frame}

structure Setup (P : Program) (ev : Ev) (ops : Array Oper) (n : Nat) (s : S) (tr : List TRec) (s' : S) : Prop where
  ok : ∀ o ∈ ops, okOp P n o = true
  draw : drawOk ops = true
  run : Tr P ev ops (Region.before ops) ops.toList 0 { s, reads := [], effs := [], als := [] } tr s'
def vAt (tr : List TRec) (j : Nat) : V := ((tr[j]?).map (·.v)).getD vundef

/-- Blocks made before their time: they lie apart. -/
structure Early (P : Program) (tr : List TRec) (S : Nat → Bool) (e : Nat) (N0 : Nat) (μ : PM) (h : Hp) (w : World) (η : PM) : Prop where
  at_ : ∀ b l, η b = some l → ∃ t r, e < t ∧ tr[t]? = some r ∧ r.isA ∧ S t = true ∧ r.h.next = b
  ob : ∀ b l, η b = some l → ∃ (t : Nat) (r : TRec) (ob : Ob), tr[t]? = some r ∧ r.kd = .al ob ∧ r.h.next = b ∧ ∀ ν, μ.le ν → ObR P ν w l ob
  low : ∀ b l, η b = some l → N0 ≤ l.r ∧ l.r < w.heap.size
  unw : ∀ b l, η b = some l → Unw false μ h l.r
  sep : ∀ b l b' l', η b = some l → η b' = some l' → b ≠ b' → l.r ≠ l'.r
structure Inv (P : Program) (ops : Array Oper) (n : Nat) (s : S) (tr : List TRec) (s' : S) (b : Frame) (c0 : List Frame) (μ0 : PM) (w0 : World) (S : Nat → Bool) (e : Nat) (μ η : PM) (a : Act) (cs : List Frame) (w : World) : Prop where
  closed : Closed ops S
  le : e ≤ tr.length
  done : ∀ k r, k < e → tr[k]? = some r → r.isE → S k = true
  isE : ∀ r, tr[e]? = some r → r.isE
  undone : S e = false
  ext : Ext μ0 s.h w0 μ (hAt tr s' e) w
  rel : Rel P μ (hAt tr s' e) w
  fr : FR (μ.or η) (frS (vAt tr) S ops.toList 0 s.F) n a.tmps
  df : DsR μ s.ds a.defers
  cal : Cal μ b.kind c0 s.md cs
  hole : ∀ t r, t < e → tr[t]? = some r → r.isA → S t = false → μ r.h.next = none
  early : Early P tr S e w0.heap.size μ (hAt tr s' e) w η

theorem Ext.reheap {μ μ' : PM} {h h1 h2 : Hp} {w w' : World} (x : Ext μ h w μ' h1 w') (hg : ∀ b l, μ' b = some l → h2.get b = h1.get b) (hn : h1.next ≤ h2.next) : Ext μ h w μ' h2 w' :=
  ⟨x.le, Nat.le_trans x.nxt hn, x.new, x.os, x.tape, x.output, x.size, fun ro r hr hu => by
    obtain ⟨e1, e2⟩ := x.frame ro r hr hu
    exact ⟨e1, fun b l hb hl => by rw [hg b l hb]; exact e2 b l hb hl⟩⟩
/-- The first effect that is not done. -/
theorem first_undone (tr : List TRec) (S : Nat → Bool) (hS : ∀ j, S j = true → j < tr.length) : ∀ (m j : Nat), tr.length - j ≤ m → j ≤ tr.length → (∀ k r, k < j → tr[k]? = some r → r.isE → S k = true) →
    ∃ e, e ≤ tr.length ∧ (∀ k r, k < e → tr[k]? = some r → r.isE → S k = true) ∧ (∀ r, tr[e]? = some r → r.isE) ∧ S e = false := by
  have last : ∀ j, j = tr.length → (∀ k r, k < j → tr[k]? = some r → r.isE → S k = true) → ∃ e, e ≤ tr.length ∧ (∀ k r, k < e → tr[k]? = some r → r.isE → S k = true) ∧ (∀ r, tr[e]? = some r → r.isE) ∧ S e = false := fun j hj h =>
    ⟨j, Nat.le_of_eq hj, h, fun r hr => (by rw [List.getElem?_eq_none (by omega)] at hr; cases hr), (by
      cases hs : S j with
      | false => rfl
      | true => have := hS j hs; omega)⟩
  intro m
  induction m with
  | zero => intro j h1 h2 h3; exact last j (by omega) h3
  | succ m ih =>
    intro j h1 h2 h3
    by_cases hj : j = tr.length
    · exact last j hj h3
    · have hget : tr[j]? = some tr[j] := List.getElem?_eq_getElem (by omega)
      by_cases hE : tr[j].isE ∧ S j = false
      · exact ⟨j, h2, h3, fun r hr => by rw [hget] at hr; cases hr; exact hE.1, hE.2⟩
      · refine ih (j + 1) (by omega) (by omega) fun k r hk hr hr2 => ?_
        by_cases hkj : k = j
        · subst hkj
          rw [hget] at hr
          cases hr
          cases hs : S k with
          | true => rfl
          | false => exact (hE ⟨hr2, hs⟩).elim
        · exact h3 k r (by omega) hr hr2

theorem Setup.len (hs : Setup P ev ops n s tr s') : tr.length = ops.size := by rw [hs.run.length, Array.length_toList]
theorem Setup.op (hs : Setup P ev ops n s tr s') {t : Nat} {r : TRec} (h : tr[t]? = some r) : ops[t]? = some r.o := by
  have := hs.run.op t r h
  simpa using this
theorem Setup.frame (hs : Setup P ev ops n s tr s') (t : Nat) : fAt tr s' t = frS (vAt tr) (fun i => decide (i < 0 + t)) ops.toList 0 s.F :=
  hs.run.fAt (vAt tr) (fun j r hj => by rw [Nat.zero_add]; unfold vAt; rw [hj]; rfl) t

section
variable {S : Nat → Bool} {e : Nat} {μ η : PM} {a : Act} {w : World}
theorem Closed.more (h : Closed ops S) {t : Nat} {o : Oper} (ho : ops[t]? = some o) (hr : ∀ e ∈ o.after, Region.binds .any e = true → S e.on = true) : Closed ops (fun j => S j || j == t) where
  lt := fun j hj => by
    simp only [Bool.or_eq_true, beq_iff_eq] at hj
    rcases hj with hj | rfl
    · exact h.lt j hj
    · exact (Array.getElem?_eq_some_iff.1 ho).1
  edge := fun j p hp hj e he hb => by
    simp only [Bool.or_eq_true, beq_iff_eq] at hj ⊢
    rcases hj with hj | rfl
    · exact .inl (h.edge j p hp hj e he hb)
    · rw [ho] at hp; cases hp; exact .inl (hr e he hb)
theorem Setup.frMore (hs : Setup P ev ops n s tr s') (h : Closed ops S) {t : Nat} {r : TRec} (ht : tr[t]? = some r) (hS : S t = false) {μ' : PM} {x : Value} (hf : FR μ' (frS (vAt tr) S ops.toList 0 s.F) n a.tmps) (hv : VR μ' r.v x) :
    FR μ' (frS (vAt tr) (fun j => S j || j == t) ops.toList 0 s.F) n (a.put r.o.dst x).tmps := by
  have hvt : vAt tr t = r.v := by unfold vAt; rw [ht]; rfl
  refine (FR.put hf r.o.dst hv).congr fun q => ?_
  rw [← hvt]
  exact frS_more (vAt tr) S _ ops.toList t s.F r.o (by simpa using hs.op ht) (fun _ => rfl) (fun k o' hk ho' he hne => later_writer hs.draw h (hs.op ht) hS (by simpa using ho') hk he hne) q
theorem Early.more {N0 : Nat} {h : Hp} (E : Early P tr S e N0 μ h w η) (t : Nat) : Early P tr (fun j => S j || j == t) e N0 μ h w η :=
  ⟨fun b l hb => by obtain ⟨t', r, h1, h2, h3, h4, h5⟩ := E.at_ b l hb; exact ⟨t', r, h1, h2, h3, by rw [h4]; rfl, h5⟩, E.ob, E.low, E.unw, E.sep⟩
/-- The early blocks' numbers lie beyond. -/
theorem Inv.beyond (hs : Setup P ev ops n s tr s') (I : Inv P ops n s tr s' b c0 μ0 w0 S e μ η a cs w) {x : Nat} {l : Loc} (h : η x = some l) : (hAt tr s' e).next ≤ x := by
  obtain ⟨t, r, h1, h2, h3, h4, h5⟩ := I.early.at_ x l h
  have hlen := (List.getElem?_eq_some_iff.1 h2).1
  have := hs.run.mono (i := e) t (Nat.le_of_lt h1) (Nat.le_of_lt hlen)
  rw [hAt_some h2] at this
  omega
/-- An operation is done that leaves the heaps as they are. -/
theorem Inv.plain (hs : Setup P ev ops n s tr s') (I : Inv P ops n s tr s' b c0 μ0 w0 S e μ η a cs w) {t : Nat} {r : TRec} (ht : tr[t]? = some r) (hS : S t = false) (hr : ∀ e ∈ r.o.after, Region.binds .any e = true → S e.on = true)
    (hne : ¬ r.isE) {x : Value} (hv : VR (μ.or η) r.v x) : Inv P ops n s tr s' b c0 μ0 w0 (fun j => S j || j == t) e μ η (a.put r.o.dst x) cs w where
  closed := I.closed.more (hs.op ht) hr
  le := I.le
  done := fun k r hk hr hE => by rw [I.done k r hk hr hE]; rfl
  isE := I.isE
  undone := by
    rw [I.undone]
    simp only [Bool.false_or, beq_eq_false_iff_ne]
    rintro rfl
    exact hne (I.isE r ht)
  ext := I.ext
  rel := I.rel
  fr := hs.frMore I.closed ht hS I.fr hv
  df := by rw [put_defers]; exact I.df
  cal := I.cal
  hole := fun t' r' h1 h2 h3 h4 => I.hole t' r' h1 h2 h3 (by simp only [Bool.or_eq_false_iff] at h4; exact h4.1)
  early := I.early.more t
theorem hnum (hs : Setup P ev ops n s tr s') {t j : Nat} {r : TRec} {ob : Ob} (ht : tr[t]? = some r) (hk : r.kd = .al ob) (hlt : t < j) (hj : j ≤ tr.length) : r.h.next < (hAt tr s' j).next := by
  have hn : hAt tr s' (t + 1) = r.h.new ob := by rw [(hs.run.next t r ht).1]; unfold TRec.nextH; rw [hk]
  have := hs.run.mono (i := t + 1) j (by omega) hj
  rw [hn, Hp.next_new] at this
  omega
theorem hnum_ne (hs : Setup P ev ops n s tr s') {t t' : Nat} {r r' : TRec} (ht : tr[t]? = some r) (ht' : tr[t']? = some r') (hA : r.isA) (hA' : r'.isA) (hne : t ≠ t') : r.h.next ≠ r'.h.next := by
  obtain ⟨ob, hk⟩ := hA
  obtain ⟨ob', hk'⟩ := hA'
  have h1 := (List.getElem?_eq_some_iff.1 ht).1
  have h2 := (List.getElem?_eq_some_iff.1 ht').1
  rcases Nat.lt_or_gt_of_ne hne with h | h
  · have := hnum hs ht hk h (Nat.le_of_lt h2)
    rw [hAt_some ht'] at this; omega
  · have := hnum hs ht' hk' h (Nat.le_of_lt h1)
    rw [hAt_some ht] at this; omega
theorem hbase (hs : Setup P ev ops n s tr s') {t : Nat} {r : TRec} (ht : tr[t]? = some r) : s.h.next ≤ r.h.next := by
  have := hs.run.mono (i := 0) t (by omega) (Nat.le_of_lt (List.getElem?_eq_some_iff.1 ht).1)
  rw [hAt_some ht, hs.run.hd.1] at this
  exact this
theorem segs (hs : Setup P ev ops n s tr s') (I : Inv P ops n s tr s' b c0 μ0 w0 S e μ η a cs w) {t : Nat} {r : TRec} {ob : Ob} (ht : tr[t]? = some r) (hS : S t = false) (hlt : t < e) (hk : r.kd = .al ob) :
    (hAt tr s' e).get r.h.next = some ob := by
  have hno : ∀ k rk, t + 1 ≤ k → k < e → tr[k]? = some rk → ¬ rk.isE := fun k rk h1 h2 h3 h4 => by
    have := I.done k rk h2 h3 h4
    have := I.closed.prec hs.draw this (hs.run.al_eff ht h3 (by omega) ⟨ob, hk⟩ h4)
    rw [hS] at this; cases this
  have hn : hAt tr s' (t + 1) = r.h.new ob := by rw [(hs.run.next t r ht).1]; unfold TRec.nextH; rw [hk]
  have := (hs.run.seg (i := t + 1) e (by omega) I.le (fun k rk h3 h4 => hno k rk h3 h4)).2 r.h.next (by rw [hn, Hp.next_new]; omega)
  rw [this, hn, Hp.get_new_same]
theorem or_mono {μ μ' η : PM} (h : μ.le μ') (hd : ∀ b l, η b = some l → μ' b = none) : (μ.or η).le (μ'.or η) := fun b l hb => by
  rcases PM.or_inv hb with h1 | h1
  · exact PM.le_or _ _ b l (h b l h1)
  · exact PM.or_right (hd b l h1) h1
theorem Early.alloc {N0 : Nat} {h : Hp} (E : Early P tr S e N0 μ h w η) (obj : Obj) {μ' : PM} (hle : μ.le μ') (hu : ∀ b l, η b = some l → Unw false μ' h l.r) : Early P tr S e N0 μ' h (w.alloc obj) η where
  at_ := E.at_
  ob := fun b l hb => by
    obtain ⟨t, r, ob, h1, h2, h3, h4⟩ := E.ob b l hb
    exact ⟨t, r, ob, h1, h2, h3, fun ν hν => (h4 ν (hle.trans hν)).frame (.refl _) (alloc_old w obj (E.low b l hb).2)⟩
  low := fun b l hb => by
    have : (w.alloc obj).heap.size = w.heap.size + 1 := Array.size_push _
    have := E.low b l hb
    omega
  unw := hu
  sep := E.sep
/-- A block is made in its place: a hole is filled. -/
theorem Inv.alloc (hs : Setup P ev ops n s tr s') (I : Inv P ops n s tr s' b c0 μ0 w0 S e μ η a cs w) {t : Nat} {r : TRec} {ob : Ob} (ht : tr[t]? = some r) (hS : S t = false) (hr : ∀ e ∈ r.o.after, Region.binds .any e = true → S e.on = true)
    (hk : r.kd = .al ob) (hlt : t < e) {obj : Obj} {cap : Nat} {x : Value} (h3 : ∀ (w : World) (ν : PM), μ.le ν → ObR P ν (w.alloc obj) ⟨w.heap.size, 0, cap⟩ ob) (hv : ∀ ν : PM, ν r.h.next = some ⟨w.heap.size, 0, cap⟩ → VR ν r.v x) :
    Inv P ops n s tr s' b c0 μ0 w0 (fun j => S j || j == t) e (μ.add r.h.next ⟨w.heap.size, 0, cap⟩) η (a.put r.o.dst x) cs (w.alloc obj) := by
  have hne : ¬ r.isE := by rintro ⟨_, h⟩; rw [hk] at h; cases h
  have hA : r.isA := ⟨ob, hk⟩
  have g2 := segs hs I ht hS hlt hk
  have q1 := I.hole t r hlt ht hA hS
  have q2 := hbase hs ht
  have hle := PM.le_addHole ⟨w.heap.size, 0, cap⟩ q1
  have hR := hole_sound I.rel q1 (hnum hs ht hk hlt I.le) g2 cap (w' := w.alloc obj) (Array.size_push _) (fun r hr => alloc_old w obj hr) (h3 w _ hle)
  have hbey : ∀ x l, η x = some l → (μ.add r.h.next ⟨w.heap.size, 0, cap⟩) x = none := fun x l hx => by
    have h1 := I.beyond hs hx
    have h2 := hnum hs ht hk hlt I.le
    rw [PM.add_ne _ _ (by omega)]
    cases hm : μ x with
    | none => rfl
    | some l' => have := I.rel.dom x l' hm; omega
  have hor := or_mono hle hbey
  refine ⟨I.closed.more (hs.op ht) hr, I.le, fun k r hk hr hE => by rw [I.done k r hk hr hE]; rfl, I.isE, ?_, ?_, hR, ?_, by rw [put_defers]; exact I.df.mono hle, I.cal.mono hle, ?_, ?_⟩
  · rw [I.undone]
    simp only [Bool.false_or, beq_eq_false_iff_ne]
    rintro rfl
    exact hne (I.isE r ht)
  · refine ⟨I.ext.le.trans hle, I.ext.nxt, fun b l hb => ?_, I.ext.os, I.ext.tape, I.ext.output, ?_, fun ro r' hr' hu => ?_⟩
    · rcases PM.add_inv hb with ⟨rfl, rfl⟩ | ⟨_, hb⟩
      · exact .inr q2
      · exact I.ext.new b l hb
    · have : (w.alloc obj).heap.size = w.heap.size + 1 := Array.size_push _
      have := I.ext.size
      omega
    · obtain ⟨f1, f2⟩ := I.ext.frame ro r' hr' hu
      have hlt' : r' < w.heap.size := Nat.lt_of_lt_of_le hr' I.ext.size
      refine ⟨(alloc_old w obj hlt').trans f1, fun b l hb hl => ?_⟩
      rcases PM.add_inv hb with ⟨rfl, rfl⟩ | ⟨_, hb⟩
      · simp only at hl; omega
      · exact f2 b l hb hl
  · exact hs.frMore I.closed ht hS (I.fr.mono hor) (hv _ (PM.le_or _ _ _ _ (PM.add_same _ _ _)))
  · intro t' r' h1 h2 h3 h4
    simp only [Bool.or_eq_false_iff, beq_eq_false_iff_ne] at h4
    rw [PM.add_ne _ _ (hnum_ne hs h2 ht h3 hA h4.2)]
    exact I.hole t' r' h1 h2 h3 h4.1
  · refine (I.early.more t).alloc obj hle fun b l hb b2 l2 h2 hr2 => ?_
    rcases PM.add_inv h2 with ⟨rfl, rfl⟩ | ⟨_, h2⟩
    · have := (I.early.low b l hb).2; simp only at hr2; omega
    · exact I.early.unw b l hb b2 l2 h2 hr2
/-- A block is made before its time. -/
theorem Inv.allocE (hs : Setup P ev ops n s tr s') (I : Inv P ops n s tr s' b c0 μ0 w0 S e μ η a cs w) {t : Nat} {r : TRec} {ob : Ob} (ht : tr[t]? = some r) (hS : S t = false) (hr : ∀ e ∈ r.o.after, Region.binds .any e = true → S e.on = true)
    (hk : r.kd = .al ob) (hlt : e < t) {obj : Obj} {cap : Nat} {x : Value} (h3 : ∀ (ν : PM), μ.le ν → ObR P ν (w.alloc obj) ⟨w.heap.size, 0, cap⟩ ob) (hv : ∀ ν : PM, ν r.h.next = some ⟨w.heap.size, 0, cap⟩ → VR ν r.v x) :
    Inv P ops n s tr s' b c0 μ0 w0 (fun j => S j || j == t) e μ (η.add r.h.next ⟨w.heap.size, 0, cap⟩) (a.put r.o.dst x) cs (w.alloc obj) := by
  have hne : ¬ r.isE := by rintro ⟨_, h⟩; rw [hk] at h; cases h
  have hA : r.isA := ⟨ob, hk⟩
  have hsz : (w.alloc obj).heap.size = w.heap.size + 1 := Array.size_push _
  have hmono := hs.run.mono (i := e) t (Nat.le_of_lt hlt) (Nat.le_of_lt (List.getElem?_eq_some_iff.1 ht).1)
  rw [hAt_some ht] at hmono
  have hη : η r.h.next = none := by
    cases hm : η r.h.next with
    | none => rfl
    | some l =>
      obtain ⟨t', r', k1, k2, k3, k4, k5⟩ := I.early.at_ _ l hm
      have htt : t ≠ t' := fun e => by subst e; rw [hS] at k4; cases k4
      exact (hnum_ne hs ht k2 hA k3 htt k5.symm).elim
  have hμ : μ r.h.next = none := by
    cases hm : μ r.h.next with
    | none => rfl
    | some l => have := I.rel.dom _ l hm; omega
  have hle : (μ.or η).le (μ.or (η.add r.h.next ⟨w.heap.size, 0, cap⟩)) := fun b l hb => by
    rcases PM.or_inv hb with h1 | h1
    · exact PM.le_or _ _ b l h1
    · have hb0 : μ b = none := by
        cases hm : μ b with
        | none => rfl
        | some l' => have := I.rel.dom b l' hm; have := I.beyond hs h1; omega
      exact PM.or_right hb0 (PM.le_addHole _ hη b l h1)
  refine ⟨I.closed.more (hs.op ht) hr, I.le, fun k r hk hr hE => by rw [I.done k r hk hr hE]; rfl, I.isE, ?_, ?_, ?_, ?_, by rw [put_defers]; exact I.df, I.cal, ?_, ?_⟩
  · rw [I.undone]
    simp only [Bool.false_or, beq_eq_false_iff_ne]
    rintro rfl
    exact hne (I.isE r ht)
  · refine ⟨I.ext.le, I.ext.nxt, I.ext.new, I.ext.os, I.ext.tape, I.ext.output, by have := I.ext.size; omega, fun ro r' hr' hu => ?_⟩
    obtain ⟨f1, f2⟩ := I.ext.frame ro r' hr' hu
    exact ⟨(alloc_old w obj (Nat.lt_of_lt_of_le hr' I.ext.size)).trans f1, f2⟩
  · exact ⟨fun b l hb => by
      obtain ⟨o2, k1, k2⟩ := I.rel.ob b l hb
      exact ⟨o2, k1, k2.frame (.refl _) (alloc_old w obj (I.rel.low b l hb))⟩, I.rel.dom, I.rel.sep, I.rel.glob, fun b l hb => by have := I.rel.low b l hb; omega⟩
  · exact hs.frMore I.closed ht hS (I.fr.mono hle) (hv _ (PM.or_right hμ (PM.add_same _ _ _)))
  · intro t' r' h1 h2 h3 h4
    simp only [Bool.or_eq_false_iff] at h4
    exact I.hole t' r' h1 h2 h3 h4.1
  · have E := (I.early.more t).alloc obj (μ' := μ) (.refl _) I.early.unw
    have hlow : w0.heap.size ≤ w.heap.size := I.ext.size
    refine ⟨fun x l hx => ?_, fun x l hx => ?_, fun x l hx => ?_, fun x l hx => ?_, fun x l y l' hx hy hne => ?_⟩
    · rcases PM.add_inv hx with ⟨rfl, rfl⟩ | ⟨_, hx⟩
      · exact ⟨t, r, hlt, ht, hA, by simp, rfl⟩
      · exact E.at_ x l hx
    · rcases PM.add_inv hx with ⟨rfl, rfl⟩ | ⟨_, hx⟩
      · exact ⟨t, r, ob, ht, hk, rfl, h3⟩
      · exact E.ob x l hx
    · rcases PM.add_inv hx with ⟨rfl, rfl⟩ | ⟨_, hx⟩
      · exact ⟨hlow, by rw [hsz]; simp⟩
      · exact E.low x l hx
    · rcases PM.add_inv hx with ⟨rfl, rfl⟩ | ⟨_, hx⟩
      · intro b2 l2 h2 hr2
        have := I.rel.low b2 l2 h2
        simp only at hr2; omega
      · exact E.unw x l hx
    · rcases PM.add_inv hx with ⟨rfl, rfl⟩ | ⟨_, hx⟩
      · rcases PM.add_inv hy with ⟨rfl, rfl⟩ | ⟨_, hy⟩
        · exact (hne rfl).elim
        · have := (I.early.low y l' hy).2; simp only; omega
      · rcases PM.add_inv hy with ⟨rfl, rfl⟩ | ⟨_, hy⟩
        · have := (I.early.low x l hx).2; simp only; omega
        · exact I.early.sep x l y l' hx hy hne

/-- Blocks that lie apart move into the base. -/
theorem rel_moves {h : Hp} (R : Rel P μ h w) (hη : ∀ b l, η b = some l → b < h.next ∧ (∃ ob, h.get b = some ob ∧ ∀ ν, μ.le ν → ObR P ν w l ob) ∧ l.r < w.heap.size ∧ Unw false μ h l.r)
    (hsep : ∀ b l b' l', η b = some l → η b' = some l' → b ≠ b' → l.r ≠ l'.r) : Rel P (μ.or η) h w := by
  refine ⟨fun b l hb => ?_, fun b l hb => ?_, fun b1 l1 b2 l2 h1 h2 hne hr => ?_, fun g hg => PM.le_or _ _ _ _ (R.glob g hg), fun b l hb => ?_⟩
  · rcases PM.or_inv hb with hb | hb
    · obtain ⟨o, k1, k2⟩ := R.ob b l hb; exact ⟨o, k1, k2.frame (PM.le_or _ _) rfl⟩
    · obtain ⟨_, ⟨ob, k1, k2⟩, _⟩ := hη b l hb; exact ⟨ob, k1, k2 _ (PM.le_or _ _)⟩
  · rcases PM.or_inv hb with hb | hb
    · exact R.dom b l hb
    · exact (hη b l hb).1
  · rcases PM.or_inv h1 with h1 | h1
    · rcases PM.or_inv h2 with h2 | h2
      · exact R.sep b1 l1 b2 l2 h1 h2 hne hr
      · exact .inl ((hη b2 l2 h2).2.2.2.dead h1 hr)
    · rcases PM.or_inv h2 with h2 | h2
      · exact .inr (.inl ((hη b1 l1 h1).2.2.2.dead h2 hr.symm))
      · exact (hsep b1 l1 b2 l2 h1 h2 hne hr).elim
  · rcases PM.or_inv hb with hb | hb
    · exact R.low b l hb
    · exact (hη b l hb).2.2.1
def PM.from (η : PM) (N : Nat) : PM := fun b => if b < N then none else η b
theorem PM.from_inv {η : PM} {N b : Nat} {l : Loc} (h : η.from N b = some l) : N ≤ b ∧ η b = some l := by
  unfold PM.from at h
  split at h
  · cases h
  · exact ⟨by omega, h⟩
theorem PM.from_some {η : PM} {N b : Nat} {l : Loc} (h : η b = some l) (hb : N ≤ b) : η.from N b = some l := by unfold PM.from; rw [if_neg (by omega)]; exact h
/-- An effect is done. -/
theorem Inv.effect (hs : Setup P ev ops n s tr s') (I : Inv P ops n s tr s' b c0 μ0 w0 S e μ η a cs w) {r : TRec} {h' : Hp} (ht : tr[e]? = some r) (hr : ∀ e ∈ r.o.after, Region.binds .any e = true → S e.on = true)
    (hk : r.kd = .eff h') {x : Value} {μ' : PM} {w' : World} (hx : Ext μ r.h w μ' h' w') (R : Rel P μ' h' w') (hv : VR μ' r.v x) :
    ∃ e' μ'' η'', Inv P ops n s tr s' b c0 μ0 w0 (fun j => S j || j == e) e' μ'' η'' (a.put r.o.dst x) cs w' := by
  have hc := I.closed.more (hs.op ht) hr
  have hE : r.isE := ⟨h', hk⟩
  obtain ⟨e', f1, f2, f3, f4⟩ := first_undone tr (fun j => S j || j == e) (fun j hj => by rw [hs.len]; exact hc.lt j hj) tr.length 0 (by omega) (by omega) (fun k r h => absurd h (Nat.not_lt_zero _))
  simp only [Bool.or_eq_false_iff, beq_eq_false_iff_ne] at f4
  have hlen := (List.getElem?_eq_some_iff.1 ht).1
  have hlt : e < e' := by
    rcases Nat.lt_or_gt_of_ne f4.2 with h | h
    · have hget : tr[e']? = some tr[e'] := List.getElem?_eq_getElem (by omega)
      have := I.done e' _ h hget (f3 _ hget)
      rw [f4.1] at this; cases this
    · exact h
  have hseg : ∀ k rk, e + 1 ≤ k → k < e' → tr[k]? = some rk → ¬ rk.isE := fun k rk h1 h2 h3 h4 => by
    have := f2 k rk h2 h3 h4
    simp only [Bool.or_eq_true, beq_iff_eq] at this
    rcases this with h5 | h5
    · have := I.closed.prec hs.draw h5 (hs.run.eff_eff ht h3 (by omega) hE h4)
      rw [I.undone] at this; cases this
    · omega
  have hn : hAt tr s' (e + 1) = h' := by rw [(hs.run.next e r ht).1]; unfold TRec.nextH; rw [hk]
  have hsg := fun j (h1 : e + 1 ≤ j) (h2 : j ≤ e') => hs.run.seg (i := e + 1) j h1 (Nat.le_trans h2 f1) (fun k rk h3 h4 => hseg k rk h3 (by omega))
  rw [hn] at hsg
  have hsame : ∀ b l, μ' b = some l → (hAt tr s' e').get b = h'.get b := fun b l hb => (hsg e' hlt (Nat.le_refl _)).2 b (R.dom b l hb)
  have hnx := (hsg e' hlt (Nat.le_refl _)).1
  have hext := I.ext
  rw [hAt_some ht] at hext
  have hR2 : Rel P μ' (hAt tr s' e') w' := R.reheap hsame hnx
  have hunw0 : ∀ x l, η x = some l → Unw false μ r.h l.r := fun x l hx => by have := I.early.unw x l hx; rwa [hAt_some ht] at this
  have hfr : ∀ x l, η x = some l → w'.heap[l.r]? = w.heap[l.r]? ∧ Unw false μ' (hAt tr s' e') l.r := fun x l hx2 => by
    obtain ⟨g1, g2⟩ := hx.frame false l.r (I.early.low x l hx2).2 (hunw0 x l hx2)
    exact ⟨g1, fun b2 l2 h2 hr2 => by rw [hsame b2 l2 h2]; exact g2 b2 l2 h2 hr2⟩
  -- the early blocks: where their operations stand
  have hplace : ∀ x l, η x = some l → ∃ t rt ob, e < t ∧ tr[t]? = some rt ∧ rt.kd = .al ob ∧ rt.h.next = x ∧ S t = true ∧ (∀ ν, μ.le ν → ObR P ν w l ob) := fun x l hx2 => by
    obtain ⟨t, rt, k1, k2, ⟨ob, k3⟩, k4, k5⟩ := I.early.at_ x l hx2
    obtain ⟨t2, rt2, ob2, m1, m2, m3, m4⟩ := I.early.ob x l hx2
    have : t = t2 := by
      by_cases htt : t = t2
      · exact htt
      · exact (hnum_ne hs k2 m1 ⟨ob, k3⟩ ⟨ob2, m2⟩ htt (k5.trans m3.symm)).elim
    subst this
    rw [k2] at m1; cases m1
    exact ⟨t, rt, ob2, k1, k2, m2, m3, k4, m4⟩
  have hnear : ∀ t rt ob, tr[t]? = some rt → rt.kd = .al ob → e < t → t < e' → (hAt tr s' e').get rt.h.next = some ob ∧ h'.next ≤ rt.h.next := fun t rt ob k1 k2 k3 k4 => by
    have hn2 : hAt tr s' (t + 1) = rt.h.new ob := by rw [(hs.run.next t rt k1).1]; unfold TRec.nextH; rw [k2]
    have h1 := (hs.run.seg (i := t + 1) e' (by omega) f1 (fun k rk h3 h4 => hseg k rk (by omega) h4)).2 rt.h.next (by rw [hn2, Hp.next_new]; omega)
    have h2 := (hsg t (by omega) (by omega)).1
    rw [hAt_some k1] at h2
    exact ⟨by rw [h1, hn2, Hp.get_new_same], h2⟩
  have hbey : ∀ x l, η x = some l → h'.next ≤ x := fun x l hx2 => by
    obtain ⟨t, rt, ob, k1, k2, k3, k4, k5, k6⟩ := hplace x l hx2
    have := hs.run.mono (i := e + 1) t (by omega) (Nat.le_of_lt (List.getElem?_eq_some_iff.1 k2).1)
    rw [hAt_some k2, hn] at this
    omega
  have hμ'none : ∀ x l, η x = some l → μ' x = none := fun x l hx2 => by
    cases hm : μ' x with
    | none => rfl
    | some l' => have := R.dom x l' hm; have := hbey x l hx2; omega
  have hnr : ∀ x l, (η.below (hAt tr s' e').next) x = some l → ∃ t rt ob, e < t ∧ t < e' ∧ tr[t]? = some rt ∧ rt.kd = .al ob ∧ rt.h.next = x ∧ S t = true ∧ (∀ ν, μ.le ν → ObR P ν w l ob) := fun x l hx2 => by
    obtain ⟨g1, g2⟩ := PM.below_inv hx2
    obtain ⟨t, rt, ob, k1, k2, k3, k4, k5, k6⟩ := hplace x l g2
    refine ⟨t, rt, ob, k1, ?_, k2, k3, k4, k5, k6⟩
    rcases Nat.lt_or_ge t e' with h5 | h5
    · exact h5
    · have := hs.run.mono (i := e') t h5 (Nat.le_of_lt (List.getElem?_eq_some_iff.1 k2).1)
      rw [hAt_some k2] at this
      omega
  have hRm : Rel P (μ'.or (η.below (hAt tr s' e').next)) (hAt tr s' e') w' := rel_moves hR2 (fun x l hx2 => by
    obtain ⟨g1, g2⟩ := PM.below_inv hx2
    obtain ⟨t, rt, ob, k1, k2, k3, k4, k5, k6, k7⟩ := hnr x l hx2
    obtain ⟨m1, m2⟩ := hfr x l g2
    subst k5
    exact ⟨g1, ⟨ob, (hnear t rt ob k3 k4 k1 k2).1, fun ν hν => (k7 ν (hx.le.trans hν)).frame (.refl _) m1⟩, Nat.lt_of_lt_of_le (I.early.low _ l g2).2 hx.size, m2⟩)
    (fun x l y l' h1 h2 hne => I.early.sep x l y l' (PM.below_inv h1).2 (PM.below_inv h2).2 hne)
  have hle : μ.le (μ'.or (η.below (hAt tr s' e').next)) := hx.le.trans (PM.le_or _ _)
  have hor : (μ.or η).le ((μ'.or (η.below (hAt tr s' e').next)).or (η.from (hAt tr s' e').next)) := fun x l h1 => by
    rcases PM.or_inv h1 with h2 | h2
    · exact PM.le_or _ _ _ _ (hle x l h2)
    · rcases Nat.lt_or_ge x (hAt tr s' e').next with h3 | h3
      · exact PM.le_or _ _ _ _ (PM.or_right (hμ'none x l h2) (PM.below_some h2 h3))
      · refine PM.or_right ?_ (PM.from_some h2 h3)
        unfold PM.or
        rw [hμ'none x l h2]
        unfold PM.below
        rw [if_neg (by omega)]
  refine ⟨e', _, η.from (hAt tr s' e').next, hc, f1, f2, f3, by simp [f4.1, f4.2], ?_, hRm, hs.frMore I.closed ht I.undone (I.fr.mono hor) (hv.mono ((PM.le_or _ _).trans (PM.le_or _ _))), by rw [put_defers]; exact I.df.mono hle, I.cal.mono hle, ?_, ?_⟩
  · have hx2 := (hext.trans hx).reheap hsame hnx
    refine ⟨hx2.le.trans (PM.le_or _ _), hx2.nxt, fun x l h1 => ?_, hx2.os, hx2.tape, hx2.output, hx2.size, fun ro r' hr' hu => ?_⟩
    · rcases PM.or_inv h1 with h2 | h2
      · exact hx2.new x l h2
      · right
        have := hbey x l (PM.below_inv h2).2
        have := (hext.trans hx).nxt
        omega
    · obtain ⟨g1, g2⟩ := hx2.frame ro r' hr' hu
      refine ⟨g1, fun x l h1 hlr => ?_⟩
      rcases PM.or_inv h1 with h2 | h2
      · exact g2 x l h2 hlr
      · have := (I.early.low x l (PM.below_inv h2).2).1
        omega
  · intro t' r' h1 h2 h3 h4
    simp only [Bool.or_eq_false_iff, beq_eq_false_iff_ne] at h4
    have hlt' : e < t' := by
      rcases Nat.lt_or_gt_of_ne h4.2 with h5 | h5
      · obtain ⟨ob', hk'⟩ := h3
        have := I.closed.before hs.draw (hs.op ht) hr (hs.run.al_eff h2 ht h5 ⟨ob', hk'⟩ hE)
        rw [h4.1] at this; cases this
      · exact h5
    obtain ⟨ob', hk'⟩ := h3
    have hb := (hnear t' r' ob' h2 hk' hlt' h1).2
    cases hm : (μ'.or (η.below (hAt tr s' e').next)) r'.h.next with
    | none => rfl
    | some l =>
      rcases PM.or_inv hm with h5 | h5
      · have := R.dom _ _ h5; omega
      · obtain ⟨t, rt, k1, k2, k3, k4, k5⟩ := I.early.at_ _ _ (PM.below_inv h5).2
        have htt : t ≠ t' := fun e => by subst e; rw [h4.1] at k4; cases k4
        exact (hnum_ne hs k2 h2 k3 ⟨ob', hk'⟩ htt k5).elim
  · refine ⟨fun x l h1 => ?_, fun x l h1 => ?_, fun x l h1 => ?_, fun x l h1 => ?_, fun x l y l' h1 h2 hne => I.early.sep x l y l' (PM.from_inv h1).2 (PM.from_inv h2).2 hne⟩
    · obtain ⟨g1, g2⟩ := PM.from_inv h1
      obtain ⟨t, rt, k1, k2, k3, k4, k5⟩ := I.early.at_ x l g2
      refine ⟨t, rt, ?_, k2, k3, by rw [k4]; rfl, k5⟩
      rcases Nat.lt_trichotomy t e' with h5 | rfl | h5
      · obtain ⟨ob, hk'⟩ := k3
        have := hnum hs k2 hk' h5 f1
        omega
      · obtain ⟨_, h6⟩ := f3 rt k2
        obtain ⟨_, h7⟩ := k3
        rw [h6] at h7; cases h7
      · exact h5
    · obtain ⟨g1, g2⟩ := PM.from_inv h1
      obtain ⟨t, rt, ob, k1, k2, k3, k4⟩ := I.early.ob x l g2
      exact ⟨t, rt, ob, k1, k2, k3, fun ν hν => (k4 ν (hle.trans hν)).frame (.refl _) (hfr x l g2).1⟩
    · obtain ⟨g1, g2⟩ := PM.from_inv h1
      exact ⟨(I.early.low x l g2).1, Nat.lt_of_lt_of_le (I.early.low x l g2).2 hx.size⟩
    · obtain ⟨g1, g2⟩ := PM.from_inv h1
      intro y l' h2 hlr
      rcases PM.or_inv h2 with h3 | h3
      · exact (hfr x l g2).2 y l' h3 hlr
      · obtain ⟨m1, m2⟩ := PM.below_inv h3
        exact (I.early.sep y l' x l m2 g2 (by omega) hlr).elim

/-- One operation that is ready. -/
theorem Inv.step (hev : EvOk P ev) (hE : ExtOk P) (hN : NumOk P) (hs : Setup P ev ops n s tr s') (I : Inv P ops n s tr s' b c0 μ0 w0 S e μ η a cs w) {t : Nat} {o : Oper} (ho : ops[t]? = some o) (hS : S t = false)
    (hr : ∀ e ∈ o.after, Region.binds .any e = true → S e.on = true) (rest : List Nat) :
    ∃ e' μ' η' a' w', StepsIn I0 P (lone (b.atR a (.inRegion ops (t :: rest) :: k)) cs w) (lone (b.atR a' (.inRegion ops rest :: k)) cs w') ∧ Inv P ops n s tr s' b c0 μ0 w0 (fun j => S j || j == t) e' μ' η' a' cs w' := by
  have htl : t < tr.length := by rw [hs.len]; exact (Array.getElem?_eq_some_iff.1 ho).1
  have ht : tr[t]? = some tr[t] := List.getElem?_eq_getElem htl
  have hop : o = tr[t].o := by have := hs.op ht; rw [ho] at this; exact Option.some.inj this
  generalize tr[t] = r at ht hop
  subst hop
  have hmem : r.o ∈ ops := Array.mem_of_getElem? ho
  have hdst : ∀ o ∈ ops, ∀ d, o.dst = some d → d < n := fun o ho d hd => by
    have := hs.ok o ho
    unfold okOp at this
    simp only [Bool.and_eq_true] at this
    have := this.1.1.1
    rw [hd] at this
    simpa using this
  have hag : ∀ q ∈ r.o.looksAt ops, (frS (vAt tr) S ops.toList 0 s.F).get (Pos.of q) = r.F.get (Pos.of q) := fun q hq => by
    rw [looks_agree hs.draw I.closed ho hS hr (vAt tr) s.F hq, ← hs.frame t, fAt_some ht]
  have hOpT : OpOk P (μ.or η) r.F a r.o := op_agree (fun g hg => PM.le_or _ _ _ _ (I.rel.glob g (Nat.le_of_lt hg))) I.fr (hs.ok _ hmem) hag
  have hbelow : lowO r.o r.F (hAt tr s' e).next = true → OpOk P μ r.F a r.o := fun h => hOpT.below (fun x l hx => I.beyond hs hx) h
  have hscope : ∀ N, lowO r.o r.F N = true → N ≤ (hAt tr s' e).next → OpOk P μ r.F a r.o := fun N h hN2 => hOpT.below (fun x l hx => Nat.le_trans hN2 (I.beyond hs hx)) h
  have hwt := wanted_agree I.fr hdst r.o hag
  have hrec := hs.run.recOk t r ht
  have hsem : (∀ c, r.o.op ≠ .defer c) → r.o.semAt b.roundOf a.eval = execOp a.eval r.o := fun hnd => Oper.semAt_eq _ _ _ hnd
  unfold RecOk at hrec
  cases hk : r.kd with
  | skip =>
    rw [hk] at hrec
    have hst := stepR_op_skip (P := P) (b := b) (a := a) (k := k) (cs := cs) (w := w) (ops := ops) (i := t) (rest := rest) (by
      rw [ho]; simp only [Option.map_some, Option.getD_some]; rw [← hwt]; exact hrec.1)
    rw [ho] at hst
    exact ⟨e, μ, η, _, w, .one trivial hst, I.plain hs ht hS hr (by rintro ⟨_, h⟩; rw [hk] at h; cases h) (by rw [hrec.2]; exact vr_undef)⟩
  | pure =>
    rw [hk] at hrec
    obtain ⟨x, h1, h2⟩ := pure_sound hOpT hrec.2
    have hnd : ∀ c, r.o.op ≠ .defer c := fun c hc => by have := hrec.2; unfold pureV at this; rw [hc] at this; cases this
    exact ⟨e, μ, η, _, w, .one trivial (step_val ho (by rw [← hwt]; exact hrec.1) (by rw [hsem hnd]; exact h2 w)), I.plain hs ht hS hr (by rintro ⟨_, h⟩; rw [hk] at h; cases h) h1⟩
  | read =>
    rw [hk] at hrec
    obtain ⟨hw, hrd, hsc⟩ := hrec
    have hread : readV P r.F (hAt tr s' e) r.o = some r.v ∧ OpOk P μ r.F a r.o := by
      rcases Nat.lt_trichotomy t e with h | rfl | h
      · have hmono := hs.run.mono (i := t) e (Nat.le_of_lt h) I.le
        rw [hAt_some ht] at hmono
        refine ⟨?_, hscope _ hsc hmono⟩
        by_cases hel : e = tr.length
        · have : hAt tr s' e = s'.h := by unfold hAt; rw [List.getElem?_eq_none (by omega)]
          rw [this]
          rcases hs.run.read_end ht hk with ⟨i, ri, g1, g2, g3, g4⟩ | h1
          · have := I.closed.prec hs.draw (I.done i ri (by omega) g2 g3) g4
            rw [hS] at this; cases this
          · exact h1
        · have hel' : e < tr.length := Nat.lt_of_le_of_ne I.le hel
          have hget : tr[e]? = some tr[e] := List.getElem?_eq_getElem hel'
          rw [hAt_some hget]
          rcases hs.run.read_eff hget ht h (I.isE _ hget) hk with ⟨i, ri, g1, g2, g3, g4⟩ | h1
          · have := I.closed.prec hs.draw (I.done i ri g1 g2 g3) g4
            rw [hS] at this; cases this
          · exact h1
      · obtain ⟨_, h⟩ := I.isE r ht; rw [hk] at h; cases h
      · have hget : tr[e]? = some tr[e] := List.getElem?_eq_getElem (by omega)
        rcases hs.run.eff_read hget ht h (I.isE _ hget) hk with h1 | ⟨h1, h2⟩
        · have := I.closed.before hs.draw ho hr h1
          rw [I.undone] at this; cases this
        · exact ⟨by rw [hAt_some hget]; exact h1, hbelow (by rw [hAt_some hget]; exact h2)⟩
    obtain ⟨x, h1, h2⟩ := read_sound I.rel hread.2 hread.1
    have hnd : ∀ c, r.o.op ≠ .defer c := fun c hc => by have := hrd; unfold readV at this; rw [hc] at this; cases this
    exact ⟨e, μ, η, _, w, .one trivial (step_val ho (by rw [← hwt]; exact hw) (by rw [hsem hnd]; exact h2)), I.plain hs ht hS hr (by rintro ⟨_, h⟩; rw [hk] at h; cases h) (h1.mono (PM.le_or _ _))⟩
  | al ob =>
    rw [hk] at hrec
    obtain ⟨hw, ⟨f, hf, hv⟩, hsc⟩ := hrec
    have hnd : ∀ c, r.o.op ≠ .defer c := fun c hc => by have := hf; unfold allocV at this; rw [hc] at this; cases this
    rcases Nat.lt_trichotomy t e with h | h | h
    · have hmono := hs.run.mono (i := t) e (Nat.le_of_lt h) I.le
      rw [hAt_some ht] at hmono
      obtain ⟨obj, cap, x, h1, h2, h3⟩ := alloc_sound (hscope _ hsc hmono) hf
      exact ⟨e, _, η, _, _, .one trivial (step_val ho (by rw [← hwt]; exact hw) (by rw [hsem hnd]; exact h1 w)), I.alloc hs ht hS hr hk h h3 (fun ν hν => by rw [hv]; exact h2 _ _ _ hν)⟩
    · subst h
      obtain ⟨_, h⟩ := I.isE r ht; rw [hk] at h; cases h
    · have hget : tr[e]? = some tr[e] := List.getElem?_eq_getElem (by omega)
      rcases hs.run.eff_al hget ht h (I.isE _ hget) hk with h1 | hlow | hcl
      · have := I.closed.before hs.draw ho hr h1
        rw [I.undone] at this; cases this
      · obtain ⟨obj, cap, x, h1, h2, h3⟩ := alloc_sound (hbelow (by rw [hAt_some hget]; exact hlow)) hf
        exact ⟨e, μ, _, _, _, .one trivial (step_val ho (by rw [← hwt]; exact hw) (by rw [hsem hnd]; exact h1 w)), I.allocE hs ht hS hr hk h (fun ν hν => h3 w ν hν) (fun ν hν => by rw [hv]; exact h2 _ _ _ hν)⟩
      · obtain ⟨obj, cap, x, h1, h2, h3⟩ := alloc_sound hOpT hf
        exact ⟨e, μ, _, _, _, .one trivial (step_val ho (by rw [← hwt]; exact hw) (by rw [hsem hnd]; exact h1 w)), I.allocE hs ht hS hr hk h (fun ν _ => closed_any (h3 w _ (.refl _)) hcl) (fun ν hν => by rw [hv]; exact h2 _ _ _ hν)⟩
  | eff h' =>
    rw [hk] at hrec
    obtain ⟨hw, hrun, hsc, hnn⟩ := hrec
    rw [hwt] at hw
    have hEf : r.isE := ⟨h', hk⟩
    have hte : t = e := by
      rcases Nat.lt_trichotomy t e with h | h | h
      · have := I.done t r h ht hEf; rw [hS] at this; cases this
      · exact h
      · have hget : tr[e]? = some tr[e] := List.getElem?_eq_getElem (by omega)
        have := I.closed.before hs.draw ho hr (hs.run.eff_eff hget ht h (I.isE _ hget) hEf)
        rw [I.undone] at this; cases this
    subst hte
    have hR := I.rel
    have hOp := hbelow (by rw [hAt_some ht]; exact hsc)
    rw [hAt_some ht] at hR
    have hout := eff_sound hE hN hR hOp
    have hnd : (∀ y, effV P r.F r.h r.o ≠ .bad y) → (∀ d, effV P r.F r.h r.o ≠ .defer d) → ∀ c, r.o.op ≠ .defer c := fun h1 h2 c hc => by
      have hki : kindO r.o = .ef := by unfold kindO; rw [hc]
      have he : opV P r.F r.h r.o = effV P r.F r.h r.o := by unfold opV; rw [hki]
      rcases opV_dfr (P := P) (F := r.F) (h := r.h) hc with ⟨y, hy⟩ | ⟨d, hd⟩
      · exact h1 y (he ▸ hy)
      · exact h2 d (he ▸ hd)
    obtain ⟨v0, hv0⟩ : ∃ v0, v0 = r.v := ⟨_, rfl⟩
    rw [← hv0] at hrun
    cases hrun with
    | val he =>
      rw [he] at hout hnd
      obtain ⟨x, w', μ', g1, g2, g3, g4⟩ := hout
      have hq := hsem (hnd (fun _ h => by cases h) (fun _ h => by cases h))
      obtain ⟨e', μ2, η2, I'⟩ := I.effect hs ht hr hk g2 g3 (by rw [← hv0]; exact g4)
      exact ⟨e', μ2, η2, _, w', .one trivial (step_val ho hw (by rw [hq]; exact g1)), I'⟩
    | skip he =>
      rw [he] at hout hnd
      obtain ⟨w', μ', g1, g2, g3⟩ := hout
      have hq := hsem (hnd (fun _ h => by cases h) (fun _ h => by cases h))
      obtain ⟨e', μ2, η2, I'⟩ := I.effect hs ht hr hk g2 g3 (x := undef) (by rw [← hv0]; exact vr_undef)
      exact ⟨e', μ2, η2, _, w', .one trivial (step_skp ho hw (by rw [hq]; exact g1)), I'⟩
    | enter he hc =>
      rename_i f args md
      rw [he] at hout hnd
      obtain ⟨rs, g1, g2⟩ := hout
      have hq := hsem (hnd (fun _ h => by cases h) (fun _ h => by cases h))
      have hst := step_ent (P := P) (b := b) (k := k) (cs := cs) (rest := rest) ho hw (by rw [hq]; exact g2)
      have hcall := hev.call f args rs none .normal μ r.h w (b.atR a (.inRegion ops (t :: rest) :: k) :: cs) (b.atR a (.inRegion ops (t :: rest) :: k) :: cs) hR g1 (.none rfl)
      rw [hc] at hcall
      obtain ⟨μ', w', cs', x, fr, k1, k2, k3, k4, k5, k6, k7, k8⟩ := hcall
      obtain rfl := k4.normal_inv rfl
      have hlv := step_leave_returned (P := P) (c := b.atR a (.inRegion ops (t :: rest) :: k)) (cs := cs) (going_leaving k7 k8)
      rw [fin_atR ho] at hlv
      obtain ⟨e', μ2, η2, I'⟩ := I.effect hs ht hr hk k1 k2 (by rw [← hv0]; exact k3)
      exact ⟨e', μ2, η2, _, w', .head trivial hst (k5.trans (.one trivial hlv)), I'⟩
    | round he hc =>
      rename_i l args md
      rw [he] at hout hnd
      obtain ⟨ld, rs, g0, g1, g2⟩ := hout
      have hq := hsem (hnd (fun _ h => by cases h) (fun _ h => by cases h))
      have hround := hev.round l args rs ld μ r.h w (b.atR a (.inRegion ops (t :: rest) :: k)) cs hR g1 g0
      rw [hc] at hround
      obtain ⟨μ', w', x, f, tmps, assign, body, k0, k1, k2, k3, k4⟩ := hround
      have hst := step_rnd (P := P) (b := b) (k := k) (cs := cs) (rest := rest) ho hw (by rw [hq, g2]; exact k0)
      rw [fin_atR ho] at k4
      obtain ⟨e', μ2, η2, I'⟩ := I.effect hs ht hr hk k1 k2 (by rw [← hv0]; exact k3)
      exact ⟨e', μ2, η2, _, w', .head trivial hst k4, I'⟩

/-! ### All of them, in any order -/
theorem mem_ready {listed : Array Bool} {i : Nat} (h : i ∈ Region.ready .any ops listed) : i < ops.size ∧ listed.getD i true = false ∧ ∃ o, ops[i]? = some o ∧ ∀ e ∈ o.after, Region.binds .any e = true → listed.getD e.on false = true := by
  unfold Region.ready at h
  simp only [List.mem_filter, List.mem_range, Bool.and_eq_true, Bool.not_eq_true'] at h
  obtain ⟨h1, h2, h3⟩ := h
  have ho : ops[i]? = some ops[i] := Array.getElem?_eq_getElem h1
  rw [ho] at h3
  simp only [Option.map_some, Option.getD_some, Array.all_eq_true_iff_forall_mem, Bool.or_eq_true, Bool.not_eq_true'] at h3
  exact ⟨h1, h2, _, ho, fun e he hb => by
    rcases h3 e he with h4 | h4
    · rw [hb] at h4; cases h4
    · exact h4⟩
theorem ready_nil (hd : drawOk ops = true) {listed : Array Bool} (hsz : listed.size = ops.size) (h : Region.ready .any ops listed = []) : ∀ i, i < ops.size → listed.getD i false = true := by
  intro i
  induction i using Nat.strongRecOn with
  | _ i ih =>
    intro hi
    cases hl : listed.getD i false with
    | true => rfl
    | false =>
      have ho : ops[i]? = some ops[i] := Array.getElem?_eq_getElem hi
      have hm : i ∈ Region.ready .any ops listed := by
        unfold Region.ready
        simp only [List.mem_filter, List.mem_range, Bool.and_eq_true, Bool.not_eq_true']
        refine ⟨hi, ?_, ?_⟩
        · rw [Array.getD_eq_getD_getElem?, Array.getElem?_eq_getElem (by omega)] at hl ⊢
          exact hl
        · rw [ho]
          simp only [Option.map_some, Option.getD_some, Array.all_eq_true_iff_forall_mem, Bool.or_eq_true, Bool.not_eq_true']
          intro e he
          cases hb : Region.binds .any e with
          | false => exact .inl rfl
          | true => exact .inr (ih e.on (drawOk_edge hd ho e he hb) (Nat.lt_trans (drawOk_edge hd ho e he hb) hi))
      rw [h] at hm
      cases hm
theorem go_acc (fuel t : Nat) (listed : Array Bool) (i : Nat) : Region.linearise.go .any ops fuel t listed [i] = i :: Region.linearise.go .any ops fuel t listed [] := by
  rw [linearise_go_acc]; rfl
theorem draw_loop (hev : EvOk P ev) (hE : ExtOk P) (hN : NumOk P) (hs : Setup P ev ops n s tr s') : ∀ (fuel t : Nat) (listed : Array Bool) (e : Nat) (μ η : PM) (a : Act) (w : World), listed.size = ops.size → listed.toList.count false = fuel →
    Inv P ops n s tr s' b c0 μ0 w0 (fun j => listed.getD j false) e μ η a cs w →
    ∃ e' μ' η' a' w' S', StepsIn I0 P (lone (b.atR a (.inRegion ops (Region.linearise.go .any ops fuel t listed []) :: k)) cs w) (lone (b.atR a' (.inRegion ops [] :: k)) cs w') ∧ (∀ i, i < ops.size → S' i = true) ∧ Inv P ops n s tr s' b c0 μ0 w0 S' e' μ' η' a' cs w' := by
  intro fuel
  induction fuel with
  | zero =>
    intro t listed e μ η a w hsz hc I
    refine ⟨e, μ, η, a, w, _, .refl _, fun i hi => ?_, I⟩
    rw [List.count_eq_zero] at hc
    rw [Array.getD_eq_getD_getElem?, Array.getElem?_eq_getElem (by omega), Option.getD_some]
    cases hl : listed[i] with
    | true => rfl
    | false => exact (hc (by rw [← hl]; exact Array.getElem_mem_toList (by omega))).elim
  | succ fuel ih =>
    intro t listed e μ η a w hsz hc I
    simp only [Region.linearise.go]
    change ∃ e' μ' η' a' w' S', StepsIn I0 P (lone (b.atR a (.inRegion ops (match (Region.ready .any ops listed)[t % (Region.ready .any ops listed).length]? with
      | some i => Region.linearise.go .any ops fuel (t / (Region.ready .any ops listed).length) (listed.setIfInBounds i true) [i]
      | none => [].reverse) :: k)) cs w) _ ∧ _
    cases hi : (Region.ready .any ops listed)[t % (Region.ready .any ops listed).length]? with
    | none =>
      have hnil : Region.ready .any ops listed = [] := by
        cases hr : Region.ready .any ops listed with
        | nil => rfl
        | cons x xs =>
          rw [hr] at hi
          have hlt : t % (x :: xs).length < (x :: xs).length := Nat.mod_lt _ (by simp)
          simp at hi
          simp at hlt
          omega
      exact ⟨e, μ, η, a, w, _, .refl _, ready_nil hs.draw hsz hnil, I⟩
    | some i =>
      obtain ⟨h1, h2, o, h3, h4⟩ := mem_ready (List.mem_of_getElem? hi)
      have hil : i < listed.size := by omega
      have hf : listed[i] = false := by rw [Array.getD_eq_getD_getElem?, Array.getElem?_eq_getElem hil] at h2; exact h2
      dsimp only
      rw [go_acc]
      obtain ⟨e1, μ1, η1, a1, w1, g1, I1⟩ := I.step (k := k) hev hE hN hs h3 (by rw [Array.getD_eq_getD_getElem?, Array.getElem?_eq_getElem hil]; exact hf) h4
        (Region.linearise.go .any ops fuel (t / (Region.ready .any ops listed).length) (listed.setIfInBounds i true) [])
      have hS : (fun j => listed.getD j false || j == i) = fun j => (listed.setIfInBounds i true).getD j false := by
        funext j
        simp only [Array.getD_eq_getD_getElem?]
        by_cases hj : j = i
        · subst hj
          rw [Array.getElem?_setIfInBounds_self_of_lt hil]
          simp
        · rw [Array.getElem?_setIfInBounds_ne (Ne.symm hj)]
          simp [hj]
      rw [hS] at I1
      obtain ⟨e2, μ2, η2, a2, w2, S2, g2, g3, g4⟩ := ih _ _ e1 μ1 η1 a1 w1 (by simp [hsz]) (by
        rw [Array.toList_setIfInBounds, List.count_set (by simpa using hil)]
        simp [hf, hc]) I1
      exact ⟨e2, μ2, η2, a2, w2, S2, g1.trans g2, g3, g4⟩
end
end
/-- Regions whose order is drawn. -/
theorem draw_ok (hm : P.follows .mixedOrders = true) (hE : ExtOk P) (hN : NumOk P) (hev : EvOk P ev) : DrawOk P ev := by
  intro ops id n b c0 cs k rnd s μ a w hok hd hs hr
  cases hx : drawV P ev ops (Region.before ops) ops.toList 0 { s, reads := [], effs := [], als := [] } with
  | bad y => trivial
  | x e s' =>
    obtain ⟨rfl, tr, hT⟩ := drawV_tr _ _ _ _ _ hx
    have hS : Setup P ev ops n s tr s' := ⟨hok, hd, hT⟩
    have hfalse : ∀ j, (Array.replicate ops.size false).getD j false = false := fun j => by
      rw [Array.getD_eq_getD_getElem?, Array.getElem?_replicate]; split <;> rfl
    obtain ⟨e, f1, f2, f3, f4⟩ := first_undone tr (fun j => (Array.replicate ops.size false).getD j false) (fun j hj => by rw [hfalse] at hj; cases hj) tr.length 0 (by omega) (by omega) (fun k r h => absurd h (Nat.not_lt_zero _))
    have hseg := fun j (hj : j ≤ e) => hT.seg (i := 0) j (by omega) (by omega) (fun k r _ h2 h3 h4 => by have := f2 k r (by omega) h3 h4; rw [hfalse] at this; cases this)
    rw [hT.hd.1] at hseg
    have hsame : ∀ b l, μ b = some l → (hAt tr s' e).get b = s.h.get b := fun b l hb => (hseg e (Nat.le_refl _)).2 b (hs.rel.dom b l hb)
    have hnx := (hseg e (Nat.le_refl _)).1
    have hF : frS (vAt tr) (fun j => (Array.replicate ops.size false).getD j false) ops.toList 0 s.F = s.F := frS_none _ _ _ _ _ fun j _ => hfalse j
    have hor : PM.le μ (PM.or μ fun _ => none) := PM.le_or _ _
    have I : Inv P ops n s tr s' b c0 μ { w with drawn := w.drawn + 1 } (fun j => (Array.replicate ops.size false).getD j false) e μ (fun _ => none) a cs { w with drawn := w.drawn + 1 } :=
      ⟨⟨fun j hj => (by rw [hfalse] at hj; cases hj), fun j o _ hj => (by rw [hfalse] at hj; cases hj)⟩, f1, f2, f3, f4, (Ext.refl _ _ _).reheap hsame hnx,
       (hs.rel.drew _).reheap hsame hnx, by rw [hF]; exact hs.fr.mono hor, hs.df, hs.cal, fun t r h1 h2 h3 _ => by
        have := (hseg t (Nat.le_of_lt h1)).1
        rw [hAt_some h2] at this
        cases hm : μ r.h.next with
        | none => rfl
        | some l => have h5 := hs.rel.dom _ _ hm; have h6 : s.h.next ≤ r.h.next := this; omega, ⟨fun _ _ h => (by cases h), fun _ _ h => (by cases h), fun _ _ h => (by cases h), fun _ _ h => (by cases h), fun _ _ _ _ h => (by cases h)⟩⟩
    obtain ⟨e', μ', η', a', w', S', g1, g2, I'⟩ := draw_loop (k := k) hev hE hN hS ops.size (w.tape w.drawn (.order b.fn id)) _ e μ _ a _ (by simp) (by simp [List.count_replicate]) I
    have he' : e' = tr.length := by
      rcases Nat.lt_or_eq_of_le I'.le with h | h
      · have := g2 e' (by rw [← hS.len]; exact h)
        rw [I'.undone] at this; cases this
      · exact h
    have hh : hAt tr s' e' = s'.h := by unfold hAt; rw [List.getElem?_eq_none (by omega)]
    have hFF : ∀ q : Tmp, s'.F.get (Pos.of q) = (frS (vAt tr) S' ops.toList 0 s.F).get (Pos.of q) := fun q => by
      have h1 := hS.frame tr.length
      unfold fAt at h1
      rw [List.getElem?_eq_none (Nat.le_refl _)] at h1
      dsimp only at h1
      rw [h1]
      refine frS_congr _ _ _ _ _ _ _ _ (fun k o hk _ => ?_) rfl
      have hlt : k < ops.size := by have := (List.getElem?_eq_some_iff.1 hk).1; simpa using this
      rw [Nat.zero_add, Nat.zero_add, g2 k hlt, hS.len, decide_eq_true hlt]
    have hη : ∀ x l, η' x = some l → False := fun x l hx => by
      obtain ⟨t, r, k1, k2, _⟩ := I'.early.at_ x l hx
      have := (List.getElem?_eq_some_iff.1 k2).1
      omega
    have hor' : PM.le (PM.or μ' η') μ' := fun x l hx => by
      rcases PM.or_inv hx with h1 | h1
      · exact h1
      · exact (hη x l h1).elim
    have hx' := I'.ext
    have hrel := I'.rel
    rw [hh] at hx' hrel
    obtain ⟨hds, hmd⟩ := hT.same
    refine ⟨μ', a', w', cs, .normal, (Ext.drew _ _ _ _).trans hx', ⟨hrel, (I'.fr.mono hor').congr hFF, by rw [hds]; exact I'.df, by rw [hmd]; exact I'.cal⟩, trivial, ?_⟩
    refine StepsIn.head trivial stepR_region_draw ?_
    have : Region.schedule (P.follows .mixedOrders) ops (w.tape w.drawn (.order b.fn id)) = Region.linearise.go .any ops ops.size (w.tape w.drawn (.order b.fn id)) (Array.replicate ops.size false) [] := by
      simp only [Region.schedule, hm, Bool.true_or, if_true]
      rfl
    rw [this]
    exact g1.trans (.one trivial stepR_region_end)
end Go.Vm
