/- A run of drawV that ended well, as a trace. -/
import Derived.Test.YtbckpoddpghdcaaGreatDoorVmFrm
namespace Go.Vm
set_option linter.unusedSimpArgs false
set_option linter.unusedVariables false

inductive DK where
  | skip
  | pure
  | read
  | al (ob : Ob)
  | eff (h' : Hp)
structure TRec where
  o : Oper
  F : Frm
  h : Hp
  v : V
  kd : DK
inductive EffTo (P : Program) (ev : Ev) (F : Frm) (h : Hp) (o : Oper) : V → Hp → Prop where
  | val {v : V} {h' : Hp} (e : effV P F h o = .val v h') : EffTo P ev F h o v h'
  | skip {h' : Hp} (e : effV P F h o = .skip h') : EffTo P ev F h o vundef h'
  | enter {f : FuncId} {args : List V} {v : V} {md : Option Md} {h' : Hp} (e : effV P F h o = .enter f args) (c : ev.call f args none h = .ret v md h') : EffTo P ev F h o v h'
  | round {l : Nat} {args : List V} {v : V} {md : Option Md} {h' : Hp} (e : effV P F h o = .round l args) (c : ev.round l args h = .ret v md h') : EffTo P ev F h o v h'
inductive Tr (P : Program) (ev : Ev) (ops : Array Oper) (bf : Array Nat) : List Oper → Nat → DS → List TRec → S → Prop where
  | nil {t : Nat} {d : DS} (hc : recheck P bf d = true) : Tr P ev ops bf [] t d [] d.s
  | skip {o : Oper} {rest : List Oper} {t : Nat} {d : DS} {tr : List TRec} {s' : S} (hw : wantedV ops d.s.F o = false)
      (k : Tr P ev ops bf rest (t + 1) { d with s := { d.s with F := setO o.dst vundef d.s.F } } tr s') : Tr P ev ops bf (o :: rest) t d (⟨o, d.s.F, d.s.h, vundef, .skip⟩ :: tr) s'
  | pure {o : Oper} {rest : List Oper} {t : Nat} {d : DS} {tr : List TRec} {s' : S} {v : V} (hw : wantedV ops d.s.F o = true) (hp : pureV P d.s.F o = some v)
      (k : Tr P ev ops bf rest (t + 1) { d with s := { d.s with F := setO o.dst v d.s.F } } tr s') : Tr P ev ops bf (o :: rest) t d (⟨o, d.s.F, d.s.h, v, .pure⟩ :: tr) s'
  | read {o : Oper} {rest : List Oper} {t : Nat} {d : DS} {tr : List TRec} {s' : S} {v : V} (hw : wantedV ops d.s.F o = true) (hp : readV P d.s.F d.s.h o = some v) (hs : lowO o d.s.F d.s.h.next = true)
      (he : d.effs.all (fun (e, h) => prec bf e t || (sameV (readV P d.s.F h o) v && lowO o d.s.F h.next)) = true)
      (k : Tr P ev ops bf rest (t + 1) { d with s := { d.s with F := setO o.dst v d.s.F }, reads := (t, d.s.F, o, v) :: d.reads } tr s') : Tr P ev ops bf (o :: rest) t d (⟨o, d.s.F, d.s.h, v, .read⟩ :: tr) s'
  | al {o : Oper} {rest : List Oper} {t : Nat} {d : DS} {tr : List TRec} {s' : S} {ob : Ob} {f : Nat → V} (hw : wantedV ops d.s.F o = true) (hp : allocV P d.s.F o = some (ob, f)) (hs : lowO o d.s.F d.s.h.next = true) (he : ((d.effs.all fun (e, _) => prec bf e t) || closedOb ob) = true)
      (k : Tr P ev ops bf rest (t + 1) { d with s := { d.s with F := setO o.dst (f d.s.h.next) d.s.F, h := d.s.h.new ob }, als := t :: d.als } tr s') : Tr P ev ops bf (o :: rest) t d (⟨o, d.s.F, d.s.h, f d.s.h.next, .al ob⟩ :: tr) s'
  | eff {o : Oper} {rest : List Oper} {t : Nat} {d : DS} {tr : List TRec} {s' : S} {v : V} {h' : Hp} (hw : wantedV ops d.s.F o = true) (hp : EffTo P ev d.s.F d.s.h o v h') (hs : lowO o d.s.F d.s.h.next = true) (hn : d.s.h.next ≤ h'.next)
      (he : d.effs.all (fun (e, _) => prec bf e t) = true) (ha : d.als.all (fun a => prec bf a t) = true) (hc : recheck P bf d = true)
      (k : Tr P ev ops bf rest (t + 1) { s := { d.s with F := setO o.dst v d.s.F, h := h' }, reads := d.reads, effs := (t, d.s.h) :: d.effs, als := d.als } tr s') : Tr P ev ops bf (o :: rest) t d (⟨o, d.s.F, d.s.h, v, .eff h'⟩ :: tr) s'
theorem drawV_tr {P : Program} {ev : Ev} {ops : Array Oper} {bf : Array Nat} : ∀ (l : List Oper) (t : Nat) (d : DS) (e : X) (s' : S), drawV P ev ops bf l t d = .x e s' → e = .normal ∧ ∃ tr, Tr P ev ops bf l t d tr s'
  | [], t, d, e, s', h => by
    unfold drawV at h
    split at h
    · rename_i hc
      injection h with h1 h2
      subst h1 h2
      exact ⟨rfl, [], .nil hc⟩
    · cases h
  | o :: rest, t, d, e, s', h => by
    have IH := fun (d : DS) => drawV_tr (P := P) (ev := ev) (ops := ops) (bf := bf) rest (t + 1) d e s'
    unfold drawV at h
    dsimp only at h
    have eff : wantedV ops d.s.F o = true → (if (d.effs.all fun (e, _) => prec bf e t) && (d.als.all fun a => prec bf a t) && recheck P bf d && lowO o d.s.F d.s.h.next then
        match effV P d.s.F d.s.h o with
        | .val v h => if !decide (d.s.h.next ≤ h.next) then XR.bad "drawn: next" else drawV P ev ops bf rest (t + 1) { s := { d.s with F := setO o.dst v d.s.F, h }, reads := d.reads, effs := (t, d.s.h) :: d.effs, als := d.als }
        | .skip h => if !decide (d.s.h.next ≤ h.next) then XR.bad "drawn: next" else drawV P ev ops bf rest (t + 1) { s := { d.s with F := setO o.dst vundef d.s.F, h }, reads := d.reads, effs := (t, d.s.h) :: d.effs, als := d.als }
        | .enter f args => (match ev.call f args none d.s.h with | .ret v _ h => if !decide (d.s.h.next ≤ h.next) then XR.bad "drawn: next" else drawV P ev ops bf rest (t + 1) { s := { d.s with F := setO o.dst v d.s.F, h }, reads := d.reads, effs := (t, d.s.h) :: d.effs, als := d.als } | .bad w => .bad w | _ => .bad "a panic in a drawn region")
        | .round l args => (match ev.round l args d.s.h with | .ret v _ h => if !decide (d.s.h.next ≤ h.next) then XR.bad "drawn: next" else drawV P ev ops bf rest (t + 1) { s := { d.s with F := setO o.dst v d.s.F, h }, reads := d.reads, effs := (t, d.s.h) :: d.effs, als := d.als } | .bad w => .bad w | _ => .bad "a panic in a drawn region")
        | .bad w => .bad (o.pos ++ " " ++ w)
        | _ => .bad (o.pos ++ " drawn")
      else .bad (o.pos ++ " drawn: order")) = .x e s' → e = .normal ∧ ∃ tr, Tr P ev ops bf (o :: rest) t d tr s' := fun hw h => by
      split at h
      · rename_i hc
        simp only [Bool.and_eq_true] at hc
        obtain ⟨⟨⟨c1, c2⟩, c3⟩, c4⟩ := hc
        split at h
        · rename_i v h' he
          split at h
          · cases h
          · rename_i hn
            obtain ⟨h1, tr, h2⟩ := IH _ h
            exact ⟨h1, _, .eff hw (.val he) c4 (by simpa using hn) c1 c2 c3 h2⟩
        · rename_i h' he
          split at h
          · cases h
          · rename_i hn
            obtain ⟨h1, tr, h2⟩ := IH _ h
            exact ⟨h1, _, .eff hw (.skip he) c4 (by simpa using hn) c1 c2 c3 h2⟩
        · rename_i f args he
          split at h
          · rename_i v md h' hc
            split at h
            · cases h
            · rename_i hn
              obtain ⟨h1, tr, h2⟩ := IH _ h
              exact ⟨h1, _, .eff hw (.enter he hc) c4 (by simpa using hn) c1 c2 c3 h2⟩
          · cases h
          · cases h
        · rename_i l args he
          split at h
          · rename_i v md h' hc
            split at h
            · cases h
            · rename_i hn
              obtain ⟨h1, tr, h2⟩ := IH _ h
              exact ⟨h1, _, .eff hw (.round he hc) c4 (by simpa using hn) c1 c2 c3 h2⟩
          · cases h
          · cases h
        · cases h
        · cases h
      · cases h
    split at h
    · rename_i hw
      split at h
      · split at h
        · rename_i ob f hp
          split at h
          · rename_i hs
            rw [Bool.and_eq_true] at hs
            obtain ⟨h1, tr, h2⟩ := IH _ h
            exact ⟨h1, _, .al hw hp hs.1 hs.2 h2⟩
          · cases h
        · cases h
      · exact eff hw h
      · split at h
        · rename_i v hp
          obtain ⟨h1, tr, h2⟩ := IH _ h
          exact ⟨h1, _, .pure hw hp h2⟩
        · split at h
          · rename_i v hp
            split at h
            · rename_i hc
              rw [Bool.and_eq_true] at hc
              obtain ⟨h1, tr, h2⟩ := IH _ h
              exact ⟨h1, _, .read hw hp hc.1 hc.2 h2⟩
            · cases h
          · exact eff hw h
    · rename_i hw
      obtain ⟨h1, tr, h2⟩ := IH _ h
      exact ⟨h1, _, .skip (by simpa using hw) h2⟩
end Go.Vm
