/- The outermost frame, item by item; between two stretches the state may be cut down. -/
import Derived.Test.YtodpkcebihbghaaGreatDoorVmDraw2
set_option linter.unusedVariables false
set_option linter.unusedSimpArgs false
namespace Go.Vm
open Go.RowKit
variable {P : Program} {μ : PM} {h : Hp} {w : World}

/-! ### The outermost frame -/
def outer (ex : Code → S → XR) (op : Frm → Operand → V) : Nat → List Item → S → Option (List Item × S)
  | 0, k, s => some (k, s)
  | n + 1, k, s =>
    match k with
    | .code c :: k =>
      (match c with
       | .seq a b => outer ex op n (.code a :: .code b :: k) s
       | .cond x t e => (match op s.F x with | .bool true => outer ex op n (.code t :: k) s | .bool false => outer ex op n (.code e :: k) s | _ => none)
       | .block id b => outer ex op n (.code b :: .inBlock id :: k) s
       | .loop b => outer ex op n (.code b :: .inLoop b :: k) s
       | .scope b => outer ex op n (.code b :: .inScope b :: k) s
       | .exit id => (match exitTo id k with | some k' => outer ex op n k' s | none => none)
       | .ret => some (.code .ret :: k, s)
       | c => (match ex c s with | .x .normal s' => outer ex op n k s' | _ => none))
    | .inBlock _ :: k => outer ex op n k s
    | .inScope _ :: k => outer ex op n k s
    | .inLoop b :: k => outer ex op n (.code b :: .inLoop b :: k) s
    | _ => none
/-- What is left of a region in text order from i on. -/
def restI (ops : Array Oper) (i : Nat) : List Nat := List.range' i (ops.size - i)
def itemOk (P : Program) (n : Nat) : Item → Bool
  | .code c | .inLoop c => okCode P n c
  | .inRegion ops l => ops.toList.all (okOp P n) && l == restI ops (l.headD ops.size)
  | _ => true
def itemsOk (P : Program) (n : Nat) (k : List Item) : Bool := k.all (itemOk P n)
theorem itemsOk_exit {n id : Nat} : ∀ (k k' : List Item), exitTo id k = some k' → itemsOk P n k = true → itemsOk P n k' = true
  | [], k', h, _ => by simp [exitTo] at h
  | x :: k, k', h, hk => by
    simp only [itemsOk, List.all_cons, Bool.and_eq_true] at hk
    cases x <;> simp only [exitTo] at h <;> first
      | exact itemsOk_exit k k' h hk.2
      | (split at h <;> first | exact itemsOk_exit k k' h hk.2 | (simp at h; subst h; exact hk.2))

section
variable {ev : Ev} {f : FuncId} {nt : Nat} {b : Frame} {cs : List Frame}
theorem outer_sound (hev : EvOk P ev) (hfn : b.fn = f) (hk : b.kind = .normal) (hr : b.roundOf = none) : ∀ (n : Nat) (k : List Item) (s : S) (k' : List Item) (s' : S), outer (ev.exec { fn := f, rnd := none }) opr n k s = some (k', s') → itemsOk P nt k = true →
    ∀ (μ : PM) (a : Act) (w : World), SR P μ nt .normal cs s a cs w → ∃ μ' a' w', Ext μ s.h w μ' s'.h w' ∧ SR P μ' nt .normal cs s' a' cs w' ∧ StepsIn I0 P (lone (b.atR a k) cs w) (lone (b.atR a' k') cs w') ∧ itemsOk P nt k' = true := by
  intro n
  induction n with
  | zero =>
    intro k s k' s' h hok μ a w hs
    simp only [outer, Option.some.injEq, Prod.mk.injEq] at h
    obtain ⟨rfl, rfl⟩ := h
    exact ⟨μ, a, w, .refl _ _ _, hs, .refl _, hok⟩
  | succ n ih =>
    intro k s k' s' h hok μ a w hs
    have one : ∀ {k1 : List Item}, outer (ev.exec { fn := f, rnd := none }) opr n k1 s = some (k', s') → step P (lone (b.atR a k) cs w) = .next (lone (b.atR a k1) cs w) → itemsOk P nt k1 = true →
        ∃ μ' a' w', Ext μ s.h w μ' s'.h w' ∧ SR P μ' nt .normal cs s' a' cs w' ∧ StepsIn I0 P (lone (b.atR a k) cs w) (lone (b.atR a' k') cs w') ∧ itemsOk P nt k' = true := fun h1 h2 h3 => by
      obtain ⟨μ', a', w', g1, g2, g3, g4⟩ := ih _ _ _ _ h1 h3 μ a w hs
      exact ⟨μ', a', w', g1, g2, .head trivial h2 g3, g4⟩
    cases k with
    | nil => simp [outer] at h
    | cons x k =>
      simp only [itemsOk, List.all_cons, Bool.and_eq_true] at hok
      obtain ⟨ho1, ho2⟩ := hok
      cases x with
      | code c =>
        have gen : (match ev.exec { fn := f, rnd := none } c s with | .x .normal s1 => outer (ev.exec { fn := f, rnd := none }) opr n k s1 | _ => none) = some (k', s') →
            ∃ μ' a' w', Ext μ s.h w μ' s'.h w' ∧ SR P μ' nt .normal cs s' a' cs w' ∧ StepsIn I0 P (lone (b.atR a (.code c :: k)) cs w) (lone (b.atR a' k') cs w') ∧ itemsOk P nt k' = true := fun h1 => by
          have hx := hev.exec { fn := f, rnd := none } c s μ nt b cs cs a w k (by rw [hk]; exact hs) hfn hr ho1
          cases hxr : ev.exec { fn := f, rnd := none } c s with
          | bad y => rw [hxr] at h1; cases h1
          | x e s1 =>
            rw [hxr] at hx h1
            cases e with
            | normal =>
              obtain ⟨μ1, a1, w1, cs1, e1, g1, g2, g3, g4⟩ := hx
              cases e1 with
              | normal =>
                rw [hk] at g2
                obtain rfl := g2.cal.normal_inv rfl
                obtain ⟨μ', a', w', q1, q2, q3, q4⟩ := ih _ _ _ _ h1 ho2 μ1 a1 w1 g2
                exact ⟨μ', a', w', g1.trans q1, q2, g4.trans q3, q4⟩
              | _ => exact g3.elim
            | _ => cases h1
        cases c with
        | seq x y =>
          simp only [itemOk, okCode, Bool.and_eq_true] at ho1
          exact one (by simpa only [outer] using h) stepR_seq (by simp only [itemsOk, List.all_cons, itemOk, Bool.and_eq_true]; exact ⟨ho1.1, ho1.2, ho2⟩)
        | cond x t e =>
          simp only [itemOk, okCode, Bool.and_eq_true] at ho1
          have hv := hs.fr.eval hs.rel ho1.1.1
          simp only [outer] at h
          split at h
          · rename_i hb
            rw [hb] at hv
            exact one h (stepR_cond hv.bool_inv) (by simp only [itemsOk, List.all_cons, itemOk, Bool.and_eq_true]; exact ⟨ho1.1.2, ho2⟩)
          · rename_i hb
            rw [hb] at hv
            exact one h (stepR_cond hv.bool_inv) (by simp only [itemsOk, List.all_cons, itemOk, Bool.and_eq_true]; exact ⟨ho1.2, ho2⟩)
          · cases h
        | block id x =>
          simp only [itemOk, okCode] at ho1
          exact one (by simpa only [outer] using h) stepR_block (by simp only [itemsOk, List.all_cons, itemOk, Bool.and_eq_true]; exact ⟨ho1, trivial, ho2⟩)
        | loop x =>
          simp only [itemOk, okCode] at ho1
          exact one (by simpa only [outer] using h) stepR_loop (by simp only [itemsOk, List.all_cons, itemOk, Bool.and_eq_true]; exact ⟨ho1, ho1, ho2⟩)
        | scope x =>
          simp only [itemOk, okCode] at ho1
          exact one (by simpa only [outer] using h) stepR_scope (by simp only [itemsOk, List.all_cons, itemOk, Bool.and_eq_true]; exact ⟨ho1, trivial, ho2⟩)
        | exit id =>
          simp only [outer] at h
          split at h
          · rename_i k1 he
            exact one h (stepR_exit he) (itemsOk_exit _ _ he ho2)
          · cases h
        | ret =>
          simp only [outer, Option.some.injEq, Prod.mk.injEq] at h
          obtain ⟨rfl, rfl⟩ := h
          exact ⟨μ, a, w, .refl _ _ _, hs, .refl _, by simp only [itemsOk, List.all_cons, Bool.and_eq_true]; exact ⟨ho1, ho2⟩⟩
        | _ => exact gen (by simpa only [outer] using h)
      | inBlock id => exact one (by simpa only [outer] using h) stepR_inBlock ho2
      | inScope id => exact one (by simpa only [outer] using h) stepR_inScope ho2
      | inLoop x =>
        simp only [itemOk] at ho1
        exact one (by simpa only [outer] using h) stepR_inLoop (by simp only [itemsOk, List.all_cons, itemOk, Bool.and_eq_true]; exact ⟨ho1, ho1, ho2⟩)
      | _ => simp [outer] at h
end

/-! ### A state cut down -/
mutual
def V.kept (K : Nat → Bool) : V → Bool
  | .ptr (some (b, _)) | .slice (some (b, _)) _ _ | .map (some b) | .yield b => K b
  | .func _ a b => V.kepts K a && V.kepts K b
  | .iface _ a => V.kept K a
  | .agg l | .tuple l => V.kepts K l
  | _ => true
def V.kepts (K : Nat → Bool) : List V → Bool
  | [] => true
  | x :: l => V.kept K x && V.kepts K l
end
def PM.keep (μ : PM) (K : Nat → Bool) : PM := fun b => if K b then μ b else none
theorem PM.keep_some {μ : PM} {K : Nat → Bool} {b : Nat} {l : Loc} (h : μ b = some l) (hb : K b = true) : μ.keep K b = some l := by unfold PM.keep; rw [if_pos hb]; exact h
theorem PM.keep_inv {μ : PM} {K : Nat → Bool} {b : Nat} {l : Loc} (h : μ.keep K b = some l) : K b = true ∧ μ b = some l := by
  unfold PM.keep at h
  split at h
  · rename_i hb; exact ⟨hb, h⟩
  · cases h
theorem VR.keep {K : Nat → Bool} {v : V} {r : Value} (h : VR μ v r) (hs : V.kept K v = true) : VR (μ.keep K) v r := by
  refine VR.rec (μ := μ) (motive_1 := fun v r _ => V.kept K v = true → VR (μ.keep K) v r) (motive_2 := fun l m _ => V.kepts K l = true → VRs (μ.keep K) l m)
    ?_ ?_ ?_ ?_ ?_ ?_ ?_ ?_ ?_ ?_ ?_ ?_ ?_ ?_ ?_ ?_ ?_ ?_ h hs
  · intro b _; exact .bool b
  · intro k n _; exact .int k n
  · intro s _; exact .str s
  · intro _; exact .ptrN
  · intro b o l h hs; exact .ptr (PM.keep_some h (by simpa [V.kept] using hs))
  · intro n c h _; exact .sliceN h
  · intro b o len cap c l a h hc hl ha hs; exact .slice (PM.keep_some h (by simpa [V.kept] using hs)) hc hl ha
  · intro _; exact .mapN
  · intro b l h hs; exact .map (PM.keep_some h (by simpa [V.kept] using hs))
  · intro f fs cs fs' cs' _ _ h1 h2 hs
    simp only [V.kept, Bool.and_eq_true] at hs
    exact .func (h1 hs.1) (h2 hs.2)
  · intro b l h hs; exact .yield (PM.keep_some h (by simpa [V.kept] using hs))
  · intro _; exact .nilFunc
  · intro t v v' _ h1 hs; exact .iface (h1 (by simpa [V.kept] using hs))
  · intro _; exact .nilIface
  · intro l l' _ h1 hs; exact .agg (h1 (by simpa [V.kept] using hs))
  · intro l l' _ h1 hs; exact .tuple (h1 (by simpa [V.kept] using hs))
  · intro _; exact .nil
  · intro v l v' l' _ _ h1 h2 hs
    simp only [V.kepts, Bool.and_eq_true] at hs
    exact .cons (h1 hs.1) (h2 hs.2)
def entBeq : List (V × V × Nat) → List (V × V × Nat) → Bool
  | [], [] => true
  | (k, v, b) :: l, (k', v', b') :: m => V.beq k k' && V.beq v v' && Nat.beq b b' && entBeq l m
  | _, _ => false
def obBeq : Ob → Ob → Bool
  | .cells x, .cells y => V.beqs x.l y.l && Nat.beq x.elem y.elem && (x.exact == y.exact) && (x.rw == y.rw) && Nat.beq x.frz.1 y.frz.1 && Nat.beq x.frz.2 y.frz.2
  | .map es c, .map es' c' => entBeq es es' && Nat.beq c c'
  | .dead, .dead => true
  | .deferred a, .deferred b => a == b
  | _, _ => false
theorem entBeq_eq : ∀ (l m : List (V × V × Nat)), entBeq l m = true → l = m
  | [], m, h => by cases m <;> simp_all [entBeq]
  | (k, v, b) :: l, [], h => by simp [entBeq] at h
  | (k, v, b) :: l, (k', v', b') :: m, h => by
    simp only [entBeq, Bool.and_eq_true] at h
    rw [V.beq_eq _ _ h.1.1.1, V.beq_eq _ _ h.1.1.2, Nat.eq_of_beq_eq_true h.1.2, entBeq_eq l m h.2]
theorem obBeq_eq (x y : Ob) (h : obBeq x y = true) : x = y := by
  cases x <;> cases y <;> simp only [obBeq, Bool.and_eq_true, Bool.false_eq_true] at h
  · rename_i x y
    obtain ⟨⟨⟨⟨⟨h1, h2⟩, h3⟩, h4⟩, h5⟩, h6⟩ := h
    obtain ⟨xl, xe, xx, xr, xf1, xf2⟩ := x
    obtain ⟨yl, ye, yx, yr, yf1, yf2⟩ := y
    simp only at h1 h2 h3 h4 h5 h6
    rw [V.beqs_eq _ _ h1, Nat.eq_of_beq_eq_true h2, eq_of_beq h3, eq_of_beq h4, Nat.eq_of_beq_eq_true h5, Nat.eq_of_beq_eq_true h6]
  · rw [entBeq_eq _ _ h.1, Nat.eq_of_beq_eq_true h.2]
  · rw [eq_of_beq h]
  · rfl
def obKept (K : Nat → Bool) : Ob → Bool
  | .cells x => x.l.all (V.kept K)
  | .map es _ => es.all fun e => V.kept K e.1 && V.kept K e.2.1
  | .dead | .deferred _ => true
  | _ => false
theorem ObR.keep {K : Nat → Bool} {l : Loc} {o : Ob} (h : ObR P μ w l o) (hk : obKept K o = true) : ObR P (μ.keep K) w l o := by
  cases o with
  | cells x =>
    obtain ⟨c, e, fz, h1, h2, h3⟩ := h
    refine ⟨c, e, fz, h1, fun i v hv => ?_, h3⟩
    obtain ⟨r, k1, k2⟩ := h2 i v hv
    exact ⟨r, k1, k2.keep (List.all_eq_true.1 hk v (List.mem_of_getElem? hv))⟩
  | map es k =>
    obtain ⟨a, h1, h2⟩ := h
    refine ⟨a, h1, ?_⟩
    have hk' : ∀ e ∈ es, V.kept K e.1 = true ∧ V.kept K e.2.1 = true := fun e he => by
      have := List.all_eq_true.1 hk e he
      simpa using this
    generalize a.toList = m at h2
    clear hk h1
    induction es generalizing m with
    | nil => cases m with | nil => trivial | cons _ _ => exact h2.elim
    | cons e es ih =>
      obtain ⟨k, v, b⟩ := e
      cases m with
      | nil => exact h2.elim
      | cons y m =>
        obtain ⟨q1, q2, q3, q4⟩ := h2
        have := hk' (k, v, b) List.mem_cons_self
        exact ⟨q1.keep this.1, q2.keep this.2, q3, ih (fun e he => hk' e (List.mem_cons_of_mem _ he)) m q4⟩
  | dead => trivial
  | loop _ => cases hk
  | deferred b => cases b <;> exact h
def mkT {α : Type} : List (Nat × α) → T α
  | [] => .nil
  | (b, o) :: l => (mkT l).set (Pos.of b) o
theorem mkT_mem {α : Type} : ∀ (l : List (Nat × α)) (b : Nat) (o : α), (mkT l).get (Pos.of b) = some o → (b, o) ∈ l
  | [], b, o, h => by simp [mkT, T.get_nil] at h
  | (c, q) :: l, b, o, h => by
    simp only [mkT] at h
    by_cases hb : c = b
    · subst hb
      rw [T.get_set_same] at h
      cases h
      exact List.mem_cons_self
    · rw [T.get_set_ne (fun e => hb (Pos.of_inj e))] at h
      exact List.mem_cons_of_mem _ (mkT_mem l b o h)
/-- How two states are held against each other: how one looks into heap and frame. -/
structure Look where
  hg : Hp → Nat → Option Ob
  fg : Frm → Nat → Option V
  kg : T Ob → Nat → Option Ob
def Look.std : Look := { hg := Hp.get, fg := fun F t => F.get (Pos.of t), kg := fun t b => t.get (Pos.of b) }
def frameSame (fg : Frm → Nat → Option V) (K : Nat → Bool) (F : Frm) : List V → Nat → Bool
  | [], _ => true
  | v :: l, i => V.beq ((fg F i).getD vundef) v && V.kept K v && frameSame fg K F l (i + 1)
/-- The marks of a frame's loops over functions. -/
def dsSame (K : Nat → Bool) : List Dfr → List Nat → Bool
  | [], [] => true
  | .mark b :: l, c :: m => Nat.beq b c && K b && dsSame K l m
  | _, _ => false
theorem DsR.keep {K : Nat → Bool} : ∀ (l : List Dfr) (m : List Nat) (d : List Deferred), dsSame K l m = true → DsR μ l d → DsR (μ.keep K) (m.map .mark) d
  | [], [], _, _, h => by
    cases h2 : ‹List Deferred› with
    | nil => trivial
    | cons _ _ => rw [h2] at h; exact h.elim
  | .mark b :: l, c :: m, [], h, hd => hd.elim
  | .mark b :: l, c :: m, e :: d, h, hd => by
    simp only [dsSame, Bool.and_eq_true] at h
    obtain ⟨⟨h1, h2⟩, h3⟩ := h
    obtain rfl := Nat.eq_of_beq_eq_true h1
    obtain ⟨⟨ld, k1, k2⟩, hd⟩ := hd
    exact ⟨⟨ld, PM.keep_some k1 h2, k2⟩, DsR.keep l m d h3 hd⟩
  | [], _ :: _, _, h, _ => by simp [dsSame] at h
  | .mark _ :: _, [], _, h, _ => by simp [dsSame] at h
  | .fn _ _ :: _, _, _, h, _ => by simp [dsSame] at h
/-- A block that is not looked at any more may be left out. -/
def isDead : Ob → Bool
  | .dead => true
  | _ => false
def agree (X : Look) (ng nt : Nat) (s : S) (ds : List Nat) (Fl : List V) (hl : List (Nat × Ob)) (t : T Ob) (nx : Nat) : Bool :=
  dsSame (fun b => (X.kg t b).isSome) s.ds ds && s.md.isNone && Nat.beq s.h.next nx && Nat.beq Fl.length nt && (hl.all fun e => (match X.hg s.h e.1 with | some o => (match isDead e.2 with | true => true | false => obBeq o e.2) | none => false) && obKept (fun b => (X.kg t b).isSome) e.2) &&
  frameSame X.fg (fun b => (X.kg t b).isSome) s.F Fl 0 && (List.range (ng + 1)).all fun g => (X.kg t g).isSome
def cutS (ds : List Nat) (Fl : List V) (t : T Ob) (nx : Nat) : S := { F := setArgs Fl 0 .nil, ds := ds.map .mark, md := none, h := { t := t, next := nx } }
theorem frameSame_get {fg : Frm → Nat → Option V} {K : Nat → Bool} {F : Frm} : ∀ (l : List V) (i : Nat), frameSame fg K F l i = true → ∀ j v, l[j]? = some v → (fg F (i + j)).getD vundef = v ∧ V.kept K v = true
  | [], i, h, j, v, hv => by simp at hv
  | x :: l, i, h, j, v, hv => by
    simp only [frameSame, Bool.and_eq_true] at h
    cases j with
    | zero => simp at hv; subst hv; exact ⟨V.beq_eq _ _ h.1.1, h.1.2⟩
    | succ j =>
      have := frameSame_get l (i + 1) h.2 j v (by simpa using hv)
      rwa [show i + 1 + j = i + (j + 1) by omega] at this
theorem fr_cut {K : Nat → Bool} {nt : Nat} {F : Frm} {Fl : List V} {tmps : Array Value} (h4 : Fl.length = nt) (h6 : frameSame (fun F t => F.get (Pos.of t)) K F Fl 0 = true) (hF : FR μ F nt tmps) : FR (μ.keep K) (setArgs Fl 0 .nil) nt tmps := by
  refine ⟨hF.1, fun i hi => ?_⟩
  have hlt : i < Fl.length := by omega
  obtain ⟨q1, q2⟩ := frameSame_get Fl 0 h6 i Fl[i] (List.getElem?_eq_getElem hlt)
  rw [setArgs_get, if_pos ⟨Nat.zero_le _, by omega⟩, Nat.sub_zero, List.getElem?_eq_getElem hlt, Option.getD_some]
  rw [Nat.zero_add] at q1
  have := hF.2 i hi
  rw [q1] at this
  exact this.keep q2
theorem agree_sound' {nt nx : Nat} {s : S} {ds : List Nat} {Fl : List V} {hl : List (Nat × Ob)} {a : Act} {cs : List Frame} (h : agree Look.std P.globals.size nt s ds Fl hl (mkT hl) nx = true) (hs : SR P μ nt .normal cs s a cs w) :
    SR P (μ.keep fun b => ((mkT hl).get (Pos.of b)).isSome) nt .normal cs (cutS ds Fl (mkT hl) nx) a cs w ∧ ∀ r, Unw true μ s.h r → Unw true (μ.keep fun b => ((mkT hl).get (Pos.of b)).isSome) (cutS ds Fl (mkT hl) nx).h r := by
  unfold agree Look.std at h
  simp only [Bool.and_eq_true, List.all_eq_true] at h
  obtain ⟨⟨⟨⟨⟨⟨h1, h2⟩, h3⟩, h4⟩, h5⟩, h6⟩, h7⟩ := h
  have h3' := Nat.eq_of_beq_eq_true h3
  have h4' := Nat.eq_of_beq_eq_true h4
  let K : Nat → Bool := fun b => ((mkT hl).get (Pos.of b)).isSome
  have hK : ∀ b, K b = true → ∃ o, (mkT hl).get (Pos.of b) = some o ∧ (s.h.get b = some o ∨ o = .dead) ∧ obKept K o = true := fun b hb => by
    obtain ⟨o, ho⟩ := Option.isSome_iff_exists.1 hb
    have hm := h5 _ (mkT_mem hl b o ho)
    refine ⟨o, ho, ?_, hm.2⟩
    have h8 := hm.1
    split at h8
    · rename_i o2 hg
      dsimp only at hg h8
      cases o with
      | dead => exact .inr rfl
      | _ => exact .inl (by rw [hg, obBeq_eq _ _ h8])
    · cases h8
  have hcal := hs.cal
  have hmd : s.md = none := by simpa using h2
  have hdf := DsR.keep _ _ _ h1 hs.df
  rw [hmd] at hcal
  refine ⟨⟨⟨fun b l hb => ?_, fun b l hb => ?_, fun b1 l1 b2 l2 e1 e2 hne hr => ?_, fun g hg => ?_, fun b l hb => ?_⟩, fr_cut h4' h6 hs.fr, ?_, ?_⟩, fun r hu b l hb hr => ?_⟩
  · obtain ⟨k1, k2⟩ := PM.keep_inv hb
    obtain ⟨o, g1, g2, g3⟩ := hK b k1
    obtain ⟨o2, q1, q2⟩ := hs.rel.ob b l k2
    rcases g2 with g2 | rfl
    · rw [g2] at q1; cases q1
      exact ⟨o, g1, q2.keep g3⟩
    · exact ⟨.dead, g1, trivial⟩
  · obtain ⟨k1, k2⟩ := PM.keep_inv hb
    have := hs.rel.dom b l k2
    show b < nx
    omega
  · obtain ⟨k1, k2⟩ := PM.keep_inv e1
    obtain ⟨m1, m2⟩ := PM.keep_inv e2
    obtain ⟨o1, g1, g2, _⟩ := hK b1 k1
    obtain ⟨o2, q1, q2, _⟩ := hK b2 m1
    have hsh := hs.rel.sep b1 l1 b2 l2 k2 m2 hne hr
    show Share ((mkT hl).get (Pos.of b1)) ((mkT hl).get (Pos.of b2)) l1 l2
    rw [g1, q1]
    rcases g2 with g2 | rfl
    · rcases q2 with q2 | rfl
      · rw [g2, q2] at hsh
        exact hsh
      · exact .inr (.inl rfl)
    · exact .inl rfl
  · exact PM.keep_some (hs.rel.glob g hg) (h7 g (List.mem_range.2 (by omega)))
  · exact hs.rel.low b l (PM.keep_inv hb).2
  · exact hdf
  · cases hcal with | none hk => exact .none hk
  · obtain ⟨k1, k2⟩ := PM.keep_inv hb
    obtain ⟨o, g1, g2, _⟩ := hK b k1
    rcases g2 with g2 | rfl
    · rcases hu b l k2 hr with q | ⟨_, x, q1, q2⟩
      · rw [g2] at q; cases q; exact .inl g1
      · rw [g2] at q1; cases q1; exact .inr ⟨rfl, x, g1, q2⟩
    · exact .inl g1


/-! ### The whole -/
structure Kept (w0 : World) (μ : PM) (h : Hp) (w : World) : Prop where
  os : w.os = w0.os
  tape : w.tape = w0.tape
  output : w.output = w0.output
  size : w0.heap.size ≤ w.heap.size
  same : ∀ r, r < w0.heap.size → w.heap[r]? = w0.heap[r]? ∧ Unw true μ h r
theorem Kept.ext {w0 : World} {μ' : PM} {h' : Hp} {w' : World} (k : Kept w0 μ h w) (x : Ext μ h w μ' h' w') : Kept w0 μ' h' w' :=
  ⟨x.os.trans k.os, x.tape.trans k.tape, x.output.trans k.output, Nat.le_trans k.size x.size, fun r hr => by
    obtain ⟨e1, e2⟩ := k.same r hr
    obtain ⟨g1, g2⟩ := x.frame true r (Nat.lt_of_lt_of_le hr k.size) e2
    exact ⟨g1.trans e1, g2⟩⟩
def Same0 (w0 w : World) : Prop := w.os = w0.os ∧ w.tape = w0.tape ∧ w.output = w0.output ∧ w0.heap.size ≤ w.heap.size ∧ ∀ r, r < w0.heap.size → w.heap[r]? = w0.heap[r]?
/-- From here the frame of f comes to an end that returns v, a value without blocks. -/
def Goes (P : Program) (f : FuncId) (nt : Nat) (v : V) (k : List Item) (s : S) : Prop :=
  ∀ (w0 : World) (μ : PM) (b : Frame) (a : Act) (cs : List Frame) (w : World), b.fn = f → b.kind = .normal → b.roundOf = none → SR P μ nt .normal cs s a cs w → Kept w0 μ s.h w →
    ∃ w' fr μ' r, Same0 w0 w' ∧ VR μ' v r ∧ StepsIn I0 P (lone (b.atR a k) cs w) (lone fr cs w') ∧ fr.fn = f ∧ fr.leaving P w' (.returned r)
/-- A call of a function without arguments. -/
theorem calls_of_goes {f : FuncId} {fn : Func} {c : Code} {bo : Bool} {h0 : Hp} {w : World} (hf : P.funcs[f]? = some fn) (hb : fn.body = some c) (hg : Goes P f fn.ntmps (.bool bo) [.code c] { F := .nil, ds := [], md := none, h := h0 })
    (R : Rel P μ h0 w) (hu : ∀ r, r < w.heap.size → Unw true μ h0 r) : Calls P f #[] w fun e w' => e = .returned (.bool bo) ∧ Same0 w w' := by
  intro cs
  let b : Frame := { (default : Frame) with fn := f, kind := .normal, roundOf := none }
  have henter : Frame.enter P f #[] .normal = b.atR { tmps := #[] ++ Array.replicate (fn.ntmps - (#[] : Array Value).size) undef, defers := [] } [.code c] := by
    simp [Frame.enter, Frame.atR, hf, hb, b]
  have hfr := enter_fr (μ := μ) (args := []) (rs := []) .nil (n := fn.ntmps) (Nat.zero_le _)
  obtain ⟨w', fr, μ', r, h1, h2, h3, h4, h5⟩ := hg w μ b { tmps := #[] ++ Array.replicate (fn.ntmps - (#[] : Array Value).size) undef, defers := [] } cs w rfl rfl rfl ⟨R, hfr, trivial, .none rfl⟩ ⟨rfl, rfl, rfl, Nat.le_refl _, fun r hr => ⟨rfl, hu r hr⟩⟩
  cases h2
  exact ⟨_, w', fr, ⟨rfl, h1⟩, by rw [henter]; exact h3.steps, h4, h5⟩
end Go.Vm
