/- More rounds tell the same: runs of the virtual machine without a bound, and what must hold ahead of code so that something holds behind it. -/
import Derived.Test.YtodpkcebihbghaaGreatDoorVmDraw3
set_option linter.unusedVariables false
set_option linter.unusedSimpArgs false
namespace Go.Vm
variable {P : Program} {Y : Fns}

/-- What one runs, the other one runs just so. -/
structure Le (ev ev' : Ev) : Prop where
  exec : ∀ ctx c s e s', ev.exec ctx c s = .x e s' → ev'.exec ctx c s = .x e s'
  call : ∀ f a m h r, ev.call f a m h = r → (∀ w, r ≠ .bad w) → ev'.call f a m h = r
  round : ∀ l a h r, ev.round l a h = r → (∀ w, r ≠ .bad w) → ev'.round l a h = r
theorem Le.refl (ev : Ev) : Le ev ev := ⟨fun _ _ _ _ _ h => h, fun _ _ _ _ _ h _ => h, fun _ _ _ _ h _ => h⟩
theorem Le.trans {a b c : Ev} (x : Le a b) (y : Le b c) : Le a c :=
  ⟨fun ctx co s e s' h => y.exec _ _ _ _ _ (x.exec _ _ _ _ _ h), fun f a m h r e hr => y.call _ _ _ _ _ (x.call _ _ _ _ _ e hr) hr, fun l a h r e hr => y.round _ _ _ _ (x.round _ _ _ _ e hr) hr⟩

theorem Le.opsV {ev ev' : Ev} (L : Le ev ev') (rnd : Option Nat) (ops : Array Oper) : ∀ (l : List Oper) (s : S) (e : X) (s' : S), opsV P ev rnd ops l s = .x e s' → opsV P ev' rnd ops l s = .x e s'
  | [], s, e, s', h => h
  | o :: rest, s, e, s', h => by
    have ih := Le.opsV L rnd ops rest
    unfold Vm.opsV at h ⊢
    split at h
    · rename_i hw
      (try rw [if_pos hw])
      cases ho : opV P s.F s.h o with
      | bad w => try rw [ho] at h; cases h
      | val v h2 => try rw [ho] at h; exact ih _ _ _ h
      | skip h2 => try rw [ho] at h; exact ih _ _ _ h
      | enter f args =>
        try rw [ho] at h
        (try dsimp only at h ⊢)
        cases hc : ev.call f args none s.h with
        | bad w => try rw [hc] at h; cases h
        | ret v m h2 => (try rw [hc] at h; try rw [L.call _ _ _ _ _ hc (fun w hw => by cases hw)]); exact ih _ _ _ h
        | pan c m h2 => (try rw [hc] at h; try rw [L.call _ _ _ _ _ hc (fun w hw => by cases hw)]); exact h
      | round l args =>
        try rw [ho] at h
        (try dsimp only at h ⊢)
        cases hc : ev.round l args s.h with
        | bad w => try rw [hc] at h; cases h
        | ret v m h2 => (try rw [hc] at h; try rw [L.round _ _ _ _ hc (fun w hw => by cases hw)]); exact ih _ _ _ h
        | pan c m h2 => (try rw [hc] at h; try rw [L.round _ _ _ _ hc (fun w hw => by cases hw)]); exact h
      | panic v => try rw [ho] at h; exact h
      | defer d =>
        try rw [ho] at h
        (try dsimp only at h ⊢)
        split at h
        · cases h
        · rename_i hr; (try rw [if_neg hr]); exact ih _ _ _ h
      | recover =>
        try rw [ho] at h
        (try dsimp only at h ⊢)
        split at h
        · cases h
        · rename_i hr
          (try rw [if_neg hr])
          split at h <;> first | exact ih _ _ _ h | cases h
    · rename_i hw
      (try rw [if_neg hw])
      exact ih _ _ _ h

theorem Le.drawV {ev ev' : Ev} (L : Le ev ev') (ops : Array Oper) (bf : Array Nat) : ∀ (l : List Oper) (t : Nat) (d : DS) (e : X) (s' : S), drawV P ev ops bf l t d = .x e s' → drawV P ev' ops bf l t d = .x e s'
  | [], t, d, e, s', h => h
  | o :: rest, t, d, e, s', h => by
    have ih := Le.drawV L ops bf rest
    have call : ∀ {f args h2 r}, ev.call f args none h2 = r → (∀ w, r ≠ .bad w) → ev'.call f args none h2 = r := fun a b => L.call _ _ _ _ _ a b
    have eff : ∀ e s', (if (d.effs.all fun (e, _) => prec bf e t) && (d.als.all fun a => prec bf a t) && recheck P bf d && lowO o d.s.F d.s.h.next then
        let go (v : V) (h : Hp) : XR := if !decide (d.s.h.next ≤ h.next) then .bad "drawn: next" else Vm.drawV P ev ops bf rest (t + 1) { s := { d.s with F := setO o.dst v d.s.F, h }, reads := d.reads, effs := (t, d.s.h) :: d.effs, als := d.als }
        match effV P d.s.F d.s.h o with
        | .val v h => go v h
        | .skip h => go vundef h
        | .enter f args => (match ev.call f args none d.s.h with | .ret v _ h => go v h | .bad w => .bad w | _ => .bad "a panic in a drawn region")
        | .round l args => (match ev.round l args d.s.h with | .ret v _ h => go v h | .bad w => .bad w | _ => .bad "a panic in a drawn region")
        | .bad w => .bad (o.pos ++ " " ++ w)
        | _ => .bad (o.pos ++ " drawn")
      else .bad (o.pos ++ " drawn: order") : XR) = .x e s' → (if (d.effs.all fun (e, _) => prec bf e t) && (d.als.all fun a => prec bf a t) && recheck P bf d && lowO o d.s.F d.s.h.next then
        let go (v : V) (h : Hp) : XR := if !decide (d.s.h.next ≤ h.next) then .bad "drawn: next" else Vm.drawV P ev' ops bf rest (t + 1) { s := { d.s with F := setO o.dst v d.s.F, h }, reads := d.reads, effs := (t, d.s.h) :: d.effs, als := d.als }
        match effV P d.s.F d.s.h o with
        | .val v h => go v h
        | .skip h => go vundef h
        | .enter f args => (match ev'.call f args none d.s.h with | .ret v _ h => go v h | .bad w => .bad w | _ => .bad "a panic in a drawn region")
        | .round l args => (match ev'.round l args d.s.h with | .ret v _ h => go v h | .bad w => .bad w | _ => .bad "a panic in a drawn region")
        | .bad w => .bad (o.pos ++ " " ++ w)
        | _ => .bad (o.pos ++ " drawn")
      else .bad (o.pos ++ " drawn: order") : XR) = .x e s' := fun e s' h => by
      have go : ∀ v h2 e s', (if !decide (d.s.h.next ≤ h2.next) then XR.bad "drawn: next" else Vm.drawV P ev ops bf rest (t + 1) { s := { d.s with F := setO o.dst v d.s.F, h := h2 }, reads := d.reads, effs := (t, d.s.h) :: d.effs, als := d.als }) = .x e s' →
          (if !decide (d.s.h.next ≤ h2.next) then XR.bad "drawn: next" else Vm.drawV P ev' ops bf rest (t + 1) { s := { d.s with F := setO o.dst v d.s.F, h := h2 }, reads := d.reads, effs := (t, d.s.h) :: d.effs, als := d.als }) = .x e s' := fun v h2 e s' h => by
        split at h
        · cases h
        · rename_i hn; (try rw [if_neg hn]); exact ih _ _ _ _ h
      split at h
      · rename_i hc
        (try rw [if_pos hc])
        (try dsimp only at h ⊢)
        cases ho : effV P d.s.F d.s.h o with
        | val v h2 => try rw [ho] at h; exact go _ _ _ _ h
        | skip h2 => try rw [ho] at h; exact go _ _ _ _ h
        | enter f args =>
          try rw [ho] at h
          (try dsimp only at h ⊢)
          cases hc : ev.call f args none d.s.h with
          | bad w => try rw [hc] at h; cases h
          | ret v m h2 => (try rw [hc] at h; try rw [L.call _ _ _ _ _ hc (fun w hw => by cases hw)]); exact go _ _ _ _ h
          | pan c m h2 => try rw [hc] at h; cases h
        | round l args =>
          try rw [ho] at h
          (try dsimp only at h ⊢)
          cases hc : ev.round l args d.s.h with
          | bad w => try rw [hc] at h; cases h
          | ret v m h2 => (try rw [hc] at h; try rw [L.round _ _ _ _ hc (fun w hw => by cases hw)]); exact go _ _ _ _ h
          | pan c m h2 => try rw [hc] at h; cases h
        | _ => try rw [ho] at h; cases h
      · cases h
    unfold Vm.drawV at h ⊢
    (try dsimp only at h ⊢)
    split at h
    · rename_i hw
      (try rw [if_pos hw])
      split at h <;> rename_i hk
      · (try rw [hk])
        (try dsimp only)
        split at h <;> rename_i ha
        · (try rw [ha])
          (try dsimp only)
          split at h
          · rename_i hl; (try rw [if_pos hl]); exact ih _ _ _ _ h
          · cases h
        · cases h
      · (try rw [hk])
        exact eff _ _ h
      · (try rw [hk])
        (try dsimp only)
        split at h <;> rename_i hp
        · (try rw [hp]); exact ih _ _ _ _ h
        · (try rw [hp])
          (try dsimp only)
          split at h <;> rename_i hr
          · (try rw [hr])
            (try dsimp only)
            split at h
            · rename_i hl; (try rw [if_pos hl]); exact ih _ _ _ _ h
            · cases h
          · (try rw [hr]); exact eff _ _ h
    · rename_i hw
      (try rw [if_neg hw])
      exact ih _ _ _ _ h

theorem Le.leaveV {ev ev' : Ev} (L : Le ev ev') (fn : Func) (F : Frm) (omd : Option Md) : ∀ (ds : List Dfr) (u : Md) (h : Hp) (r : CR), leaveV P ev fn F omd ds u h = r → (∀ w, r ≠ .bad w) → leaveV P ev' fn F omd ds u h = r
  | [], .returning, h, r, e, hr => e
  | [], .panicking c, h, r, e, hr => e
  | .mark b :: ds, u, h, r, e, hr => by
    unfold Vm.leaveV at e ⊢
    split at e
    · exact Le.leaveV L fn F omd ds _ _ _ e hr
    · exact absurd e.symm (hr _)
  | .fn f args :: ds, u, h, r, e, hr => by
    unfold Vm.leaveV at e ⊢
    split at e
    · exact absurd e.symm (hr _)
    · rename_i hb
      (try rw [if_neg hb])
      cases hc : ev.call f args (some u) h with
      | bad w => try rw [hc] at e; exact absurd e.symm (hr _)
      | ret v m h2 =>
        try rw [hc] at e
        (try rw [L.call _ _ _ _ _ hc (fun w hw => by cases hw)])
        cases m with
        | none => exact absurd e.symm (hr _)
        | some u' => exact Le.leaveV L fn F omd ds _ _ _ e hr
      | pan c m h2 =>
        try rw [hc] at e
        (try rw [L.call _ _ _ _ _ hc (fun w hw => by cases hw)])
        cases m with
        | none => exact absurd e.symm (hr _)
        | some u' => exact Le.leaveV L fn F omd ds _ _ _ e hr

theorem Le.callF {ev ev' : Ev} (L : Le ev ev') (f : FuncId) (args : List V) (md : Option Md) (h : Hp) (r : CR) (e : callF P Y ev f args md h = r) (hr : ∀ w, r ≠ .bad w) : callF P Y ev' f args md h = r := by
  unfold Vm.callF at e ⊢
  split at e
  · exact e
  · unfold callB at e ⊢
    split at e
    · rename_i hf
      (try rw [hf])
      (try dsimp only at e ⊢)
      split at e
      · rename_i hi; (try rw [if_pos hi]); exact e
      · rename_i hi
        (try rw [if_neg hi])
        split at e
        · rename_i hb
          (try rw [hb])
          (try dsimp only)
          split at e
          · rename_i hk
            (try rw [if_pos hk])
            split at e <;> rename_i hx
            · exact absurd e.symm (hr _)
            · (try rw [L.exec _ _ _ _ _ hx]); exact L.leaveV _ _ _ _ _ _ _ e hr
            · (try rw [L.exec _ _ _ _ _ hx]); exact L.leaveV _ _ _ _ _ _ _ e hr
            · (try rw [L.exec _ _ _ _ _ hx]); exact L.leaveV _ _ _ _ _ _ _ e hr
            · exact absurd e.symm (hr _)
          · exact absurd e.symm (hr _)
        · exact absurd e.symm (hr _)
    · exact absurd e.symm (hr _)

theorem Le.roundF {ev ev' : Ev} (L : Le ev ev') (l : Nat) (args : List V) (h : Hp) (r : CR) (e : roundF P ev l args h = r) (hr : ∀ w, r ≠ .bad w) : roundF P ev' l args h = r := by
  unfold Vm.roundF at e ⊢
  split at e
  · rename_i hl
    (try rw [hl])
    (try dsimp only)
    split at e
    · exact absurd e.symm (hr _)
    · rename_i hn
      (try rw [if_neg hn])
      split at e <;> rename_i hx
      · (try rw [L.exec _ _ _ _ _ hx])
        (try dsimp only)
        split at e <;> rename_i hs
        · rename_i h2
          (try rw [hs, h2])
          (try dsimp only)
          split at e <;> rename_i hst
          · (try rw [hst])
            (try dsimp only)
            split at e <;> rename_i hx2
            · (try rw [L.exec _ _ _ _ _ hx2]); exact e
            · exact absurd e.symm (hr _)
          · exact absurd e.symm (hr _)
        · exact absurd e.symm (hr _)
      · exact absurd e.symm (hr _)
      · exact absurd e.symm (hr _)
  · exact absurd e.symm (hr _)

theorem Le.execF {ev ev' : Ev} (L : Le ev ev') (ctx : Ctx) (c : Code) (s : S) (e : X) (s' : S) (hx : execF P ev ctx c s = .x e s') : execF P ev' ctx c s = .x e s' := by
  unfold Vm.execF at hx ⊢
  split at hx
  · exact hx
  · exact hx
  · exact L.opsV _ _ _ _ _ _ hx
  · exact L.drawV _ _ _ _ _ _ _ hx
  · rename_i a b
    cases h1 : ev.exec ctx a s with
    | bad w => try rw [h1] at hx; cases hx
    | x e1 s1 =>
      try rw [h1] at hx
      (try rw [L.exec _ _ _ _ _ h1])
      cases e1 <;> first | exact L.exec _ _ _ _ _ hx | exact hx
  · split at hx <;> rename_i ho
    · (try rw [ho]); exact L.exec _ _ _ _ _ hx
    · (try rw [ho]); exact L.exec _ _ _ _ _ hx
    · cases hx
  · rename_i id b
    cases h1 : ev.exec ctx b s with
    | bad w => try rw [h1] at hx; cases hx
    | x e1 s1 =>
      try rw [h1] at hx
      (try rw [L.exec _ _ _ _ _ h1])
      exact hx
  · rename_i b
    cases h1 : ev.exec ctx b s with
    | bad w => try rw [h1] at hx; cases hx
    | x e1 s1 =>
      try rw [h1] at hx
      (try rw [L.exec _ _ _ _ _ h1])
      cases e1 <;> first | exact L.exec _ _ _ _ _ hx | exact hx
  · exact L.exec _ _ _ _ _ hx
  · exact hx
  · exact hx
  · split at hx <;> rename_i hm
    · (try rw [hm])
      (try dsimp only at hx ⊢)
      split at hx <;> rename_i ho
      · (try rw [ho])
        (try dsimp only)
        split at hx
        · cases hx
        · rename_i hb
          (try rw [if_neg hb])
          split at hx <;> rename_i hc
          · (try rw [L.call _ _ _ _ _ hc (fun w hw => by cases hw)])
            (try dsimp only)
            split at hx <;> rename_i hl
            · (try rw [hl])
              (try dsimp only)
              split at hx
              · cases hx
              · rename_i hbz
                (try rw [if_neg hbz])
                split at hx <;> rename_i hp
                · exact hx
                · exact L.exec _ _ _ _ _ hx
            · cases hx
          · (try rw [L.call _ _ _ _ _ hc (fun w hw => by cases hw)]); exact hx
          · cases hx
      · cases hx
    · cases hx
  · cases hx

theorem Le.outT {ev ev' : Ev} (L : Le ev ev') {h : Hp} {r : OR} {p : V × Hp} (hx : Vm.outT ev h r = some p) : Vm.outT ev' h r = some p := by
  cases r with
  | enter f args =>
    simp only [Vm.outT] at hx ⊢
    cases hc : ev.call f args none h with
    | bad w => rw [hc] at hx; cases hx
    | ret v m h2 => rw [L.call _ _ _ _ _ hc (fun w hw => by cases hw)]; rw [hc] at hx; exact hx
    | pan c m h2 => rw [hc] at hx; cases hx
  | round l args =>
    simp only [Vm.outT] at hx ⊢
    cases hc : ev.round l args h with
    | bad w => rw [hc] at hx; cases hx
    | ret v m h2 => rw [L.round _ _ _ _ hc (fun w hw => by cases hw)]; rw [hc] at hx; exact hx
    | pan c m h2 => rw [hc] at hx; cases hx
  | _ => exact hx
theorem Le.drawT {ev ev' : Ev} (L : Le ev ev') (ops : Array Oper) (bf : Array Nat) : ∀ (l : List Oper) (t : Nat) (s : S) (E : List (Nat × Hp)) (R : RdL) (e : X) (s' : S), Vm.drawT P ev ops bf l t s E R = .x e s' → Vm.drawT P ev' ops bf l t s E R = .x e s'
  | [], t, s, E, R, e, s', h => h
  | o :: rest, t, s, E, R, e, s', h => by
    have ih := Le.drawT L ops bf rest
    unfold Vm.drawT at h ⊢
    cases hw : wantedV ops s.F o with
    | false => rw [hw] at h; simp only [Bool.false_eq_true, if_false] at h ⊢; exact ih _ _ _ _ _ _ h
    | true =>
      rw [hw] at h
      simp only [if_true] at h ⊢
      cases ho : Vm.outT ev s.h (opV P s.F s.h o) with
      | none => rw [ho] at h; cases h
      | some p =>
        rw [ho] at h
        rw [L.outT ho]
        obtain ⟨v, h2⟩ := p
        dsimp only at h ⊢
        split at h
        · rename_i hc
          rw [if_pos hc]
          exact ih _ _ _ _ _ _ h
        · cases h
theorem Le.execS {ev ev' : Ev} (L : Le ev ev') (ctx : Ctx) (c : Code) (s : S) (e : X) (s' : S) (hx : execS P ev ctx c s = .x e s') : execS P ev' ctx c s = .x e s' := by
  unfold Vm.execS at hx ⊢
  split at hx
  · rename_i id ops
    by_cases hs : dsafe P ops = true
    · rw [if_pos hs] at hx ⊢
      cases h1 : Vm.opsV P ev (some 0) ops ops.toList s with
      | bad w => rw [h1] at hx; cases hx
      | x e1 s1 =>
        rw [h1] at hx
        rw [L.opsV _ _ _ _ _ _ h1]
        exact hx
    · rw [if_neg hs] at hx ⊢
      by_cases ht : statD P ops (Region.before ops) = true
      · rw [if_pos ht] at hx ⊢
        cases h1 : Vm.drawT P ev ops (Region.before ops) ops.toList 0 s [] [] with
        | bad w => rw [h1] at hx; cases hx
        | x e1 s1 =>
          rw [h1] at hx
          rw [L.drawT _ _ _ _ _ _ _ _ _ h1]
          exact hx
      · rw [if_neg ht] at hx; cases hx
  · exact L.execF ctx _ s e s' hx
theorem Le.evS {ev ev' : Ev} (L : Le ev ev') : Le (evT P Y ev) (evT P Y ev') :=
  ⟨fun ctx c s e s' h => L.execS (P := P) ctx c s e s' h, fun f a m h r e hr => L.callF (P := P) (Y := Y) f a m h r e hr, fun l a h r e hr => L.roundF (P := P) l a h r e hr⟩
theorem evBad_le (ev : Ev) : Le evBad ev := ⟨fun _ _ _ _ _ h => (by cases h), fun _ _ _ _ r (h : CR.bad _ = r) hr => absurd h.symm (hr _), fun _ _ _ r (h : CR.bad _ = r) hr => absurd h.symm (hr _)⟩
theorem evN_succ : ∀ n, Le (evM P Y n) (evM P Y (n + 1))
  | 0 => evBad_le _
  | n + 1 => (evN_succ n).evS
theorem evN_le {m n : Nat} (h : m ≤ n) : Le (evM P Y m) (evM P Y n) := by
  obtain ⟨k, rfl⟩ := Nat.exists_eq_add_of_le h
  induction k with
  | zero => exact .refl _
  | succ k ih => exact (ih (by omega)).trans (evN_succ _)
end Go.Vm
/- What must hold ahead of code so that something holds behind it: the rules, form by form. -/
namespace Go.Vm
variable {P : Program} {Y : Fns}

def XW (P : Program) (Y : Fns) (ctx : Ctx) (c : Code) (s : S) (Q : X → S → Prop) : Prop := ∃ n e s', (evM P Y n).exec ctx c s = .x e s' ∧ Q e s'
def CW (P : Program) (Y : Fns) (f : FuncId) (args : List V) (md : Option Md) (h : Hp) (Q : CR → Prop) : Prop := ∃ n r, (evM P Y n).call f args md h = r ∧ (∀ w, r ≠ .bad w) ∧ Q r
def RW (P : Program) (Y : Fns) (l : Nat) (args : List V) (h : Hp) (Q : CR → Prop) : Prop := ∃ n r, (evM P Y n).round l args h = r ∧ (∀ w, r ≠ .bad w) ∧ Q r
def OW (P : Program) (Y : Fns) (rnd : Option Nat) (ops : Array Oper) (l : List Oper) (s : S) (Q : X → S → Prop) : Prop := ∃ n e s', opsV P (evM P Y n) rnd ops l s = .x e s' ∧ Q e s'
def LW (P : Program) (Y : Fns) (fn : Func) (F : Frm) (omd : Option Md) (ds : List Dfr) (u : Md) (h : Hp) (Q : CR → Prop) : Prop := ∃ n r, leaveV P (evM P Y n) fn F omd ds u h = r ∧ (∀ w, r ≠ .bad w) ∧ Q r

theorem XW.mono {ctx : Ctx} {c : Code} {s : S} {Q R : X → S → Prop} (h : XW P Y ctx c s Q) (k : ∀ e s', Q e s' → R e s') : XW P Y ctx c s R := by
  obtain ⟨n, e, s', h1, h2⟩ := h; exact ⟨n, e, s', h1, k _ _ h2⟩
theorem CW.mono {f : FuncId} {a : List V} {md : Option Md} {h : Hp} {Q R : CR → Prop} (w : CW P Y f a md h Q) (k : ∀ r, Q r → R r) : CW P Y f a md h R := by
  obtain ⟨n, r, h1, h2, h3⟩ := w; exact ⟨n, r, h1, h2, k _ h3⟩
theorem RW.mono {l : Nat} {a : List V} {h : Hp} {Q R : CR → Prop} (w : RW P Y l a h Q) (k : ∀ r, Q r → R r) : RW P Y l a h R := by
  obtain ⟨n, r, h1, h2, h3⟩ := w; exact ⟨n, r, h1, h2, k _ h3⟩
theorem OW.mono {rnd : Option Nat} {ops : Array Oper} {l : List Oper} {s : S} {Q R : X → S → Prop} (h : OW P Y rnd ops l s Q) (k : ∀ e s', Q e s' → R e s') : OW P Y rnd ops l s R := by
  obtain ⟨n, e, s', h1, h2⟩ := h; exact ⟨n, e, s', h1, k _ _ h2⟩

theorem exec_up {m n : Nat} (h : m ≤ n) {ctx : Ctx} {c : Code} {s s' : S} {e : X} (hx : (evM P Y m).exec ctx c s = .x e s') : (evM P Y n).exec ctx c s = .x e s' := (evN_le h).exec _ _ _ _ _ hx
theorem call_up {m n : Nat} (h : m ≤ n) {f : FuncId} {a : List V} {md : Option Md} {hp : Hp} {r : CR} (hx : (evM P Y m).call f a md hp = r) (hr : ∀ w, r ≠ .bad w) : (evM P Y n).call f a md hp = r := (evN_le h).call _ _ _ _ _ hx hr
theorem round_up {m n : Nat} (h : m ≤ n) {l : Nat} {a : List V} {hp : Hp} {r : CR} (hx : (evM P Y m).round l a hp = r) (hr : ∀ w, r ≠ .bad w) : (evM P Y n).round l a hp = r := (evN_le h).round _ _ _ _ hx hr
theorem ops_up {m n : Nat} (h : m ≤ n) {rnd : Option Nat} {ops : Array Oper} {l : List Oper} {s s' : S} {e : X} (hx : opsV P (evM P Y m) rnd ops l s = .x e s') : opsV P (evM P Y n) rnd ops l s = .x e s' := (evN_le h).opsV _ _ _ _ _ _ hx
theorem leave_up {m n : Nat} (h : m ≤ n) {fn : Func} {F : Frm} {omd : Option Md} {ds : List Dfr} {u : Md} {hp : Hp} {r : CR} (hx : leaveV P (evM P Y m) fn F omd ds u hp = r) (hr : ∀ w, r ≠ .bad w) : leaveV P (evM P Y n) fn F omd ds u hp = r := (evN_le h).leaveV _ _ _ _ _ _ _ hx hr

section forms
variable {ctx : Ctx} {s : S} {Q : X → S → Prop}
/-- One more round: what code is run as. -/
theorem XW_iff {c : Code} : XW P Y ctx c s Q ↔ ∃ n e s', execS P (evM P Y n) ctx c s = .x e s' ∧ Q e s' := by
  constructor
  · rintro ⟨n, e, s', h, q⟩
    cases n with
    | zero => cases h
    | succ n => exact ⟨n, e, s', h, q⟩
  · rintro ⟨n, e, s', h, q⟩
    exact ⟨n + 1, e, s', h, q⟩
theorem XW_skip : XW P Y ctx .skip s Q ↔ Q .normal s := by
  rw [XW_iff]
  exact ⟨fun ⟨n, e, s', h, q⟩ => (by cases h; exact q), fun q => ⟨0, _, _, rfl, q⟩⟩
theorem XW_label {l : Nat} : XW P Y ctx (.label l) s Q ↔ Q .normal s := by
  rw [XW_iff]
  exact ⟨fun ⟨n, e, s', h, q⟩ => (by cases h; exact q), fun q => ⟨0, _, _, rfl, q⟩⟩
theorem XW_exit {id : Nat} : XW P Y ctx (.exit id) s Q ↔ Q (.exit id) s := by
  rw [XW_iff]
  exact ⟨fun ⟨n, e, s', h, q⟩ => (by cases h; exact q), fun q => ⟨0, _, _, rfl, q⟩⟩
theorem XW_ret : XW P Y ctx .ret s Q ↔ Q .ret s := by
  rw [XW_iff]
  exact ⟨fun ⟨n, e, s', h, q⟩ => (by cases h; exact q), fun q => ⟨0, _, _, rfl, q⟩⟩
theorem XW_region {id : Nat} {ops : Array Oper} : XW P Y ctx (.region id ops false) s Q ↔ OW P Y ctx.rnd ops ops.toList s Q := by
  rw [XW_iff]; rfl
/-- A region whose order is drawn, where that makes no difference. -/
theorem XW_draw {id : Nat} {ops : Array Oper} (hd : dsafe P ops = true) (h : OW P Y (some 0) ops ops.toList s (fun e s' => match e with | .normal => Q .normal s' | _ => False)) : XW P Y ctx (.region id ops true) s Q := by
  rw [XW_iff]
  obtain ⟨n, e, s', h, q⟩ := h
  cases e with
  | normal =>
    refine ⟨n, .normal, s', ?_, q⟩
    unfold execS
    dsimp only
    rw [if_pos hd, h]
  | _ => exact q.elim
/-- A region whose order is drawn, where reads are looked at again. -/
theorem XW_drawT {id : Nat} {ops : Array Oper} (hd : dsafe P ops = false) (hs : statD P ops (Region.before ops) = true)
    (h : ∃ n s', drawT P (evM P Y n) ops (Region.before ops) ops.toList 0 s [] [] = .x .normal s' ∧ Q .normal s') : XW P Y ctx (.region id ops true) s Q := by
  rw [XW_iff]
  obtain ⟨n, s', h, q⟩ := h
  refine ⟨n, .normal, s', ?_, q⟩
  unfold execS
  dsimp only
  rw [hd]
  simp only [Bool.false_eq_true, if_false]
  rw [if_pos hs, h]
theorem XW_seq {a b : Code} : XW P Y ctx (.seq a b) s Q ↔ XW P Y ctx a s (fun e s' => match e with | .normal => XW P Y ctx b s' Q | e => Q e s') := by
  rw [XW_iff]
  constructor
  · rintro ⟨n, e, s', h, q⟩
    unfold execS execF at h
    dsimp only at h
    cases h1 : (evM P Y n).exec ctx a s with
    | bad w => rw [h1] at h; cases h
    | x e1 s1 =>
      rw [h1] at h
      refine ⟨n, e1, s1, h1, ?_⟩
      cases e1 <;> first | exact ⟨n, e, s', h, q⟩ | (cases h; exact q)
  · rintro ⟨n, e, s', h, q⟩
    cases e with
    | normal =>
      obtain ⟨m, e2, s2, h2, q2⟩ := q
      refine ⟨n + m, e2, s2, ?_, q2⟩
      unfold execS execF
      dsimp only
      rw [exec_up (Nat.le_add_right n m) h]
      exact exec_up (Nat.le_add_left m n) h2
    | _ =>
      refine ⟨n, _, s', ?_, q⟩
      unfold execS execF
      dsimp only
      rw [h]
theorem XW_cond {c : Operand} {a b : Code} : XW P Y ctx (.cond c a b) s Q ↔ (match opr s.F c with | .bool true => XW P Y ctx a s Q | .bool false => XW P Y ctx b s Q | _ => False) := by
  rw [XW_iff]
  unfold execS execF
  dsimp only
  cases opr s.F c with
  | bool b => cases b <;> exact Iff.rfl
  | _ => exact ⟨fun ⟨n, e, s', h, q⟩ => (by cases h), fun h => h.elim⟩
theorem XW_block {id : Nat} {b : Code} : XW P Y ctx (.block id b) s Q ↔ XW P Y ctx b s (fun e s' => match e with | .exit i => if i = id then Q .normal s' else Q (.exit i) s' | e => Q e s') := by
  rw [XW_iff]
  unfold execS execF
  dsimp only
  constructor
  · rintro ⟨n, e, s', h, q⟩
    cases h1 : (evM P Y n).exec ctx b s with
    | bad w => rw [h1] at h; cases h
    | x e1 s1 =>
      rw [h1] at h
      refine ⟨n, e1, s1, h1, ?_⟩
      cases e1 with
      | exit i =>
        dsimp only at h ⊢
        by_cases hi : i = id
        · rw [if_pos hi] at h ⊢; cases h; exact q
        · rw [if_neg hi] at h ⊢; cases h; exact q
      | _ => cases h; exact q
  · rintro ⟨n, e, s', h, q⟩
    cases e with
    | exit i =>
      dsimp only at q
      split at q
      · rename_i hi; exact ⟨n, .normal, s', by rw [h]; dsimp only; rw [if_pos hi], q⟩
      · rename_i hi; exact ⟨n, .exit i, s', by rw [h]; dsimp only; rw [if_neg hi], q⟩
    | _ => exact ⟨n, _, s', by rw [h], q⟩
theorem XW_scope {b : Code} : XW P Y ctx (.scope b) s Q ↔ XW P Y ctx b s Q := by
  rw [XW_iff]; rfl
theorem XW_loop {b : Code} : XW P Y ctx (.loop b) s Q ↔ XW P Y ctx b s (fun e s' => match e with | .normal => XW P Y ctx (.loop b) s' Q | e => Q e s') := by
  rw [XW_iff]
  constructor
  · rintro ⟨n, e, s', h, q⟩
    unfold execS execF at h
    dsimp only at h
    cases h1 : (evM P Y n).exec ctx b s with
    | bad w => rw [h1] at h; cases h
    | x e1 s1 =>
      rw [h1] at h
      refine ⟨n, e1, s1, h1, ?_⟩
      cases e1 <;> first | exact ⟨n, e, s', h, q⟩ | (cases h; exact q)
  · rintro ⟨n, e, s', h, q⟩
    cases e with
    | normal =>
      obtain ⟨m, e2, s2, h2, q2⟩ := q
      refine ⟨n + m, e2, s2, ?_, q2⟩
      unfold execS execF
      dsimp only
      rw [exec_up (Nat.le_add_right n m) h]
      exact exec_up (Nat.le_add_left m n) h2
    | _ =>
      refine ⟨n, _, s', ?_, q⟩
      unfold execS execF
      dsimp only
      rw [h]
/-- A loop, by what holds each time ahead of it, with so much left. -/
theorem XW_loop_inv {b : Code} (I : Nat → S → Prop) (hI : ∀ k s, I k s → XW P Y ctx b s (fun e s' => match e with | .normal => ∃ j, j < k ∧ I j s' | e => Q e s')) : ∀ k s, I k s → XW P Y ctx (.loop b) s Q := by
  intro k
  induction k using Nat.strongRecOn with
  | ind k ih =>
    intro s hs
    rw [XW_loop]
    refine (hI k s hs).mono fun e s' h => ?_
    cases e with
    | normal => obtain ⟨j, hj, h⟩ := h; exact ih j hj s' h
    | _ => exact h
end forms

section ops
variable {rnd : Option Nat} {ops : Array Oper} {s : S} {Q : X → S → Prop}
theorem OW_nil : OW P Y rnd ops [] s Q ↔ Q .normal s := ⟨fun ⟨n, e, s', h, q⟩ => (by cases h; exact q), fun q => ⟨0, _, _, rfl, q⟩⟩
/-- One operation. -/
def OStep (P : Program) (Y : Fns) (rnd : Option Nat) (d : Option Tmp) (s : S) (Q : X → S → Prop) (K : S → Prop) : OR → Prop
  | .bad _ => False
  | .val v h => K { s with F := setO d v s.F, h }
  | .skip h => K { s with F := setO d vundef s.F, h }
  | .enter f args => CW P Y f args none s.h fun r => match r with
    | .ret v _ h => K { s with F := setO d v s.F, h }
    | .pan c _ h => Q (.panic c) { s with h }
    | .bad _ => False
  | .round l args => RW P Y l args s.h fun r => match r with
    | .ret v _ h => K { s with F := setO d v s.F, h }
    | .pan c _ h => Q (.panic c) { s with h }
    | .bad _ => False
  | .panic v => Q (.panic [(v, false)]) s
  | .defer df => rnd.isSome = false ∧ K { s with F := setO d vundef s.F, ds := df :: s.ds }
  | .recover => rnd.isSome = false ∧ (match s.md with
    | some (.panicking ((v, false) :: older)) => K { s with F := setO d v s.F, md := some (.panicking ((v, true) :: older)) }
    | some _ => K { s with F := setO d .nilIface s.F }
    | none => False)
theorem OW_cons {o : Oper} {rest : List Oper} : OW P Y rnd ops (o :: rest) s Q ↔
    (if wantedV ops s.F o then OStep P Y rnd o.dst s Q (fun s' => OW P Y rnd ops rest s' Q) (opV P s.F s.h o) else OW P Y rnd ops rest { s with F := setO o.dst vundef s.F } Q) := by
  unfold OW
  simp only [opsV]
  split
  · cases ho : opV P s.F s.h o with
    | bad w => exact ⟨fun ⟨n, e, s', h, q⟩ => (by cases h), fun h => h.elim⟩
    | val v h => exact Iff.rfl
    | skip h => exact Iff.rfl
    | enter f args =>
      dsimp only [OStep]
      constructor
      · rintro ⟨n, e, s', h, q⟩
        cases hc : (evM P Y n).call f args none s.h with
        | bad w => rw [hc] at h; cases h
        | ret v m h2 => rw [hc] at h; exact ⟨n, _, hc, fun w hw => (by cases hw), n, e, s', h, q⟩
        | pan c m h2 => rw [hc] at h; cases h; exact ⟨n, _, hc, fun w hw => (by cases hw), q⟩
      · rintro ⟨n, r, hc, hr, q⟩
        cases r with
        | bad w => exact absurd rfl (hr w)
        | ret v m h2 =>
          obtain ⟨k, e, s', h, q⟩ := q
          refine ⟨n + k, e, s', ?_, q⟩
          rw [call_up (Nat.le_add_right n k) hc hr]
          exact ops_up (Nat.le_add_left k n) h
        | pan c m h2 => exact ⟨n, _, _, by rw [hc], q⟩
    | round l args =>
      dsimp only [OStep]
      constructor
      · rintro ⟨n, e, s', h, q⟩
        cases hc : (evM P Y n).round l args s.h with
        | bad w => rw [hc] at h; cases h
        | ret v m h2 => rw [hc] at h; exact ⟨n, _, hc, fun w hw => (by cases hw), n, e, s', h, q⟩
        | pan c m h2 => rw [hc] at h; cases h; exact ⟨n, _, hc, fun w hw => (by cases hw), q⟩
      · rintro ⟨n, r, hc, hr, q⟩
        cases r with
        | bad w => exact absurd rfl (hr w)
        | ret v m h2 =>
          obtain ⟨k, e, s', h, q⟩ := q
          refine ⟨n + k, e, s', ?_, q⟩
          rw [round_up (Nat.le_add_right n k) hc hr]
          exact ops_up (Nat.le_add_left k n) h
        | pan c m h2 => exact ⟨n, _, _, by rw [hc], q⟩
    | panic v => exact ⟨fun ⟨n, e, s', h, q⟩ => (by cases h; exact q), fun q => ⟨0, _, _, rfl, q⟩⟩
    | defer d =>
      dsimp only [OStep]
      cases hr : rnd.isSome with
      | true => exact ⟨fun ⟨n, e, s', h, q⟩ => (by cases h), fun h => by cases h.1⟩
      | false => exact ⟨fun h => ⟨rfl, h⟩, fun h => h.2⟩
    | recover =>
      dsimp only [OStep]
      cases hr : rnd.isSome with
      | true => exact ⟨fun ⟨n, e, s', h, q⟩ => (by cases h), fun h => by cases h.1⟩
      | false =>
        simp only [Bool.false_eq_true, if_false, true_and]
        rcases hm : s.md with _ | m
        · exact ⟨fun ⟨n, e, s', h, q⟩ => (by cases h), fun h => h.elim⟩
        · rcases m with _ | c
          · exact Iff.rfl
          · rcases c with _ | ⟨⟨v, b⟩, older⟩
            · exact Iff.rfl
            · cases b <;> exact Iff.rfl
  · exact Iff.rfl
end ops

section calls
variable {Q : CR → Prop}
theorem LW_nil_ret {fn : Func} {F : Frm} {omd : Option Md} {h : Hp} : LW P Y fn F omd [] .returning h Q ↔
    (match resultsV P F h fn.results.toList with | some [v] => Q (.ret v omd h) | some l => Q (.ret (.tuple l) omd h) | none => False) := by
  unfold LW
  simp only [leaveV]
  rcases resultsV P F h fn.results.toList with _ | _ | ⟨v, _ | ⟨w, l⟩⟩
  · exact ⟨fun ⟨n, r, h1, h2, q⟩ => absurd h1.symm (h2 _), fun h => h.elim⟩
  · exact ⟨fun ⟨n, r, h1, h2, q⟩ => (by subst h1; exact q), fun q => ⟨0, _, rfl, fun w hw => (by cases hw), q⟩⟩
  · exact ⟨fun ⟨n, r, h1, h2, q⟩ => (by subst h1; exact q), fun q => ⟨0, _, rfl, fun w hw => (by cases hw), q⟩⟩
  · exact ⟨fun ⟨n, r, h1, h2, q⟩ => (by subst h1; exact q), fun q => ⟨0, _, rfl, fun w hw => (by cases hw), q⟩⟩
theorem LW_nil_pan {fn : Func} {F : Frm} {omd : Option Md} {h : Hp} {c : List PE} : LW P Y fn F omd [] (.panicking c) h Q ↔ Q (.pan c omd h) :=
  ⟨fun ⟨n, r, h1, h2, q⟩ => by cases h1; exact q, fun q => ⟨0, _, rfl, fun w hw => (by cases hw), q⟩⟩
theorem LW_mark {fn : Func} {F : Frm} {omd : Option Md} {h : Hp} {b : Nat} {ds : List Dfr} {u : Md} (hb : h.get b = some (.deferred true)) : LW P Y fn F omd (.mark b :: ds) u h Q ↔ LW P Y fn F omd ds u (h.put b (.deferred false)) Q := by
  unfold LW
  simp only [leaveV, hb]
/-- A call of a function with a body. -/
theorem CW_of {f : FuncId} {fn : Func} {c : Code} {args : List V} {md : Option Md} {h : Hp} (hf : P.funcs[f]? = some fn) (hb : fn.body = some c) (hs : Y.sum f args md h = none) (hi : Y.ins f = false) (hk : Y.ok f = true) (ha : args.length ≤ fn.ntmps)
    (hx : XW P Y { fn := f, rnd := none } c { F := setArgs args 0 .nil, ds := [], md, h } (fun e s => match e with
      | .normal | .ret => LW P Y fn s.F s.md s.ds .returning s.h Q
      | .panic c => LW P Y fn s.F s.md s.ds (.panicking c) s.h Q
      | .exit _ => False)) : CW P Y f args md h Q := by
  obtain ⟨n, e, s, h1, q⟩ := hx
  have key : ∀ {m : Nat} {u : Md}, (∀ k, n ≤ k → m ≤ k → callF P Y (evM P Y k) f args md h = leaveV P (evM P Y k) fn s.F s.md s.ds u s.h) → ∀ {r : CR}, leaveV P (evM P Y m) fn s.F s.md s.ds u s.h = r → (∀ w, r ≠ .bad w) → Q r → CW P Y f args md h Q := fun hk r h2 h3 q => by
    rename_i m u
    refine ⟨n + m + 1, r, ?_, h3, q⟩
    show callF P Y (evM P Y (n + m)) f args md h = r
    rw [hk (n + m) (Nat.le_add_right _ _) (Nat.le_add_left _ _)]
    exact leave_up (Nat.le_add_left m n) h2 h3
  cases e with
  | normal =>
    obtain ⟨m, r, h2, h3, q⟩ := q
    exact key (fun k h4 h5 => by simp only [callF, hs, callB, hf, hi, hb, hk, ha, exec_up h4 h1, Bool.false_eq_true, if_false, decide_true, Bool.and_self, if_true]) h2 h3 q
  | ret =>
    obtain ⟨m, r, h2, h3, q⟩ := q
    exact key (fun k h4 h5 => by simp only [callF, hs, callB, hf, hi, hb, hk, ha, exec_up h4 h1, Bool.false_eq_true, if_false, decide_true, Bool.and_self, if_true]) h2 h3 q
  | panic c =>
    obtain ⟨m, r, h2, h3, q⟩ := q
    exact key (fun k h4 h5 => by simp only [callF, hs, callB, hf, hi, hb, hk, ha, exec_up h4 h1, Bool.false_eq_true, if_false, decide_true, Bool.and_self, if_true]) h2 h3 q
  | exit i => exact q.elim
end calls

/-! ### Frames -/
def gt (F : Frm) (i : Nat) : V := (F.get (Pos.of i)).getD vundef
def st (i : Nat) (v : V) (F : Frm) : Frm := F.set (Pos.of i) v
theorem zbk (i j : Nat) (v : V) (F : Frm) : gt (st i v F) j = if i = j then v else gt F j := by
  unfold gt st
  split
  · rename_i h; subst h; rw [T.get_set_same]; rfl
  · rename_i h; rw [T.get_set_ne (fun e => h (Pos.of_inj e))]
theorem zbi (d : Tmp) (v : V) (F : Frm) : setO (some d) v F = st d v F := rfl
theorem zbj (v : V) (F : Frm) : setO none v F = F := rfl
theorem zbl (v : V) (l : List V) (i : Nat) (F : Frm) : setArgs (v :: l) i F = setArgs l (i + 1) (st i v F) := rfl
theorem zbm (i : Nat) (F : Frm) : setArgs [] i F = F := rfl
/-- A range over a function: the loop is laid, the function is called with its yield. -/
def rngStart (rnd : Option Nat) (s : S) : Option (Nat × List Dfr × Hp) :=
  match rnd with
  | some l => (match s.h.get l with | some (.loop r) => some (r.defers, s.ds, s.h) | _ => none)
  | none => some (s.h.next, Dfr.mark s.h.next :: s.ds, s.h.new (.deferred true))
def rngEnd (P : Program) (Y : Fns) (ctx : Ctx) (s : S) (ds : List Dfr) (l : Nat) (Q : X → S → Prop) : CR → Prop
  | .ret _ _ h3 => (match h3.get l with
    | some (.loop r) => (r.state == .busy) = false ∧ (match r.pending with
      | none => Q .normal { s with ds, h := h3.put l (.loop { r with state := .exhausted }) }
      | some c => XW P Y ctx c { s with ds, h := h3.put l (.loop { r with state := .exhausted }) } Q)
    | _ => False)
  | .pan c _ h3 => Q (.panic c) { s with ds, h := h3 }
  | .bad _ => False
def rngCall (P : Program) (Y : Fns) (ctx : Ctx) (ps : List Tmp) (ca cb : Code) (s : S) (Q : X → S → Prop) (v : V) : Option (Nat × List Dfr × Hp) → Prop
  | none => False
  | some (d, ds, h1) => (match v with
    | .func g first caps => ((P.funcs[g]?).bind (·.body)).isSome = true ∧
        CW P Y g (first ++ [.yield h1.next] ++ caps) none (h1.new (.loop { state := .ready, pending := none, fn := ctx.fn, F := s.F, params := ps.map Pos.of, assign := ca, body := cb, defers := d })) (rngEnd P Y ctx s ds h1.next Q)
    | _ => False)
theorem execS_range {ev : Ev} {ctx : Ctx} {s : S} {f : Operand} {ps : Array Tmp} {ca cb : Code} : execS P ev ctx (.rangeFunc f ps ca cb) s = (match rngStart ctx.rnd s with
     | some (d, ds, h1) => (match opr s.F f with
        | .func g first caps => if !((P.funcs[g]?).bind (·.body)).isSome then .bad "range over a function" else (match ev.call g (first ++ [.yield h1.next] ++ caps) none (h1.new (.loop { state := .ready, pending := none, fn := ctx.fn, F := s.F, params := ps.toList.map Pos.of, assign := ca, body := cb, defers := d })) with
          | .ret _ _ h3 => (match h3.get h1.next with
            | some (.loop r) => if r.state == .busy then .bad "busy" else
                (match r.pending with
                 | none => .x .normal { s with ds, h := h3.put h1.next (.loop { r with state := .exhausted }) }
                 | some c => ev.exec ctx c { s with ds, h := h3.put h1.next (.loop { r with state := .exhausted }) })
            | _ => .bad "loop gone")
          | .pan c _ h3 => .x (.panic c) { s with ds, h := h3 }
          | .bad w => .bad w)
        | _ => .bad "range over a function")
     | none => .bad "rangeFunc") := by
  unfold execS
  rfl
theorem XW_range {ctx : Ctx} {s : S} {Q : X → S → Prop} {f : Operand} {ps : Array Tmp} {ca cb : Code} (h : rngCall P Y ctx ps.toList ca cb s Q (opr s.F f) (rngStart ctx.rnd s)) : XW P Y ctx (.rangeFunc f ps ca cb) s Q := by
  rw [XW_iff]
  cases hs : rngStart ctx.rnd s with
  | none => rw [hs] at h; exact h.elim
  | some t =>
    obtain ⟨d, ds, h1⟩ := t
    rw [hs] at h
    unfold rngCall at h
    dsimp only at h
    split at h
    · rename_i g first caps hv
      obtain ⟨hb, n, r, hc, hr, q⟩ := h
      cases r with
      | bad w => exact absurd rfl (hr w)
      | pan c m h3 =>
        refine ⟨n, .panic c, _, ?_, q⟩
        rw [execS_range]
        simp only [hs, hv, hb, hc, Bool.not_true, Bool.false_eq_true, if_false]
      | ret v m h3 =>
        unfold rngEnd at q
        dsimp only at q
        split at q
        · rename_i r hl
          obtain ⟨hbs, q⟩ := q
          split at q
          · rename_i hp
            refine ⟨n, .normal, _, ?_, q⟩
            rw [execS_range]
            simp only [hs, hv, hb, hc, hl, hbs, hp, Bool.not_true, Bool.false_eq_true, if_false]
          · rename_i c hp
            obtain ⟨k, e, s', hx, q⟩ := q
            refine ⟨n + k, e, s', ?_, q⟩
            have hc' := call_up (Nat.le_add_right n k) hc hr
            have hx' := exec_up (Nat.le_add_left k n) hx
            rw [hp] at hx'
            rw [execS_range]
            simp only [hs, hv, hb, hc', hl, hbs, hp, hx', Bool.not_true, Bool.false_eq_true, if_false]
        · exact q.elim
    · exact h.elim
/-- One round of a loop over a function. -/
def rndBody (P : Program) (Y : Fns) (l : Nat) (Q : CR → Prop) : X → S → Prop := fun e s => s.ds = [] ∧ ∃ L, s.h.get l = some (.loop L) ∧ (match e with
  | .normal => Q (.ret (.bool true) none (s.h.put l (.loop { L with state := .ready, pending := none })))
  | .ret => Q (.ret (.bool false) none (s.h.put l (.loop { L with state := .done, pending := some .ret })))
  | .exit id => Q (.ret (.bool false) none (s.h.put l (.loop { L with state := .done, pending := some (.exit id) })))
  | .panic _ => False)
theorem RW_of {l : Nat} {args : List V} {h : Hp} {Q : CR → Prop} {L : Lp} (hl : h.get l = some (.loop L)) (hp : args.length = L.params.length)
    (hx : XW P Y { fn := L.fn, rnd := some l } L.assign { F := setPs L.params args L.F, ds := [], md := none, h } (fun e s => e = .normal ∧ s.ds = [] ∧ ∃ L', s.h.get l = some (.loop L') ∧ L'.state = .ready ∧
      XW P Y { fn := L.fn, rnd := some l } L.body { s with h := s.h.put l (.loop { L' with state := .busy }) } (rndBody P Y l Q))) : RW P Y l args h Q := by
  obtain ⟨n, e, s, h1, rfl, h2, L', h3, h4, m, e2, s2, k1, k2, L2, k3, q⟩ := hx
  have h1' := exec_up (Nat.le_add_right n m) h1
  have k1' := exec_up (Nat.le_add_left m n) k1
  rw [h2] at k1'
  have key : (evM P Y (n + m + 1)).round l args h = (match e2 with
      | .normal => .ret (.bool true) none (s2.h.put l (.loop { L2 with state := .ready, pending := none }))
      | .ret => .ret (.bool false) none (s2.h.put l (.loop { L2 with state := .done, pending := some .ret }))
      | .exit id => .ret (.bool false) none (s2.h.put l (.loop { L2 with state := .done, pending := some (.exit id) }))
      | .panic _ => .bad "panic in a round") := by
    show roundF P (evM P Y (n + m)) l args h = _
    unfold roundF
    simp only [hl, hp, ne_eq, not_true_eq_false, if_false, h1', h2, h3, h4, k1', k2, k3]
    cases e2 <;> rfl
  cases e2 with
  | normal => exact ⟨_, _, key, fun w hw => (by cases hw), q⟩
  | ret => exact ⟨_, _, key, fun w hw => (by cases hw), q⟩
  | exit id => exact ⟨_, _, key, fun w hw => (by cases hw), q⟩
  | panic c => exact q.elim
end Go.Vm
