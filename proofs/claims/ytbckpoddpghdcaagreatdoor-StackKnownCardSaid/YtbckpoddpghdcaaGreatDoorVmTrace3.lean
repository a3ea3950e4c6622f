/- The checks of a drawn region's run, by index. -/
import Derived.Test.YtbckpoddpghdcaaGreatDoorVmTrace2
namespace Go.Vm
set_option linter.unusedSimpArgs false
set_option linter.unusedVariables false
variable {P : Program} {ev : Ev} {ops : Array Oper} {bf : Array Nat}

mutual
theorem V.beq_eq : ∀ (a b : V), V.beq a b = true → a = b
  | .bool a, b, h => by cases b <;> simp_all [V.beq]
  | .int k n, b, h => by cases b <;> simp_all [V.beq]
  | .str s, b, h => by cases b <;> simp_all [V.beq]
  | .ptr p, b, h => by cases b <;> simp_all [V.beq]
  | .slice a n c, b, h => by cases b <;> simp_all [V.beq]
  | .map a, b, h => by cases b <;> simp_all [V.beq]
  | .func f x y, b, h => by
    cases b <;> simp only [V.beq, Bool.and_eq_true, reduceCtorEq, Bool.false_eq_true] at h
    rw [V.beqs_eq _ _ h.1.2, V.beqs_eq _ _ h.2]
    simpa using h.1.1
  | .yield a, b, h => by cases b <;> simp_all [V.beq]
  | .nilFunc, b, h => by cases b <;> simp_all [V.beq]
  | .nilIface, b, h => by cases b <;> simp_all [V.beq]
  | .iface t a, b, h => by
    cases b <;> simp only [V.beq, Bool.and_eq_true, reduceCtorEq, Bool.false_eq_true] at h
    rw [V.beq_eq _ _ h.2]
    simpa using h.1
  | .agg l, b, h => by
    cases b <;> simp only [V.beq, Bool.and_eq_true, reduceCtorEq, Bool.false_eq_true] at h
    rw [V.beqs_eq _ _ h]
  | .tuple l, b, h => by
    cases b <;> simp only [V.beq, Bool.and_eq_true, reduceCtorEq, Bool.false_eq_true] at h
    rw [V.beqs_eq _ _ h]
theorem V.beqs_eq : ∀ (a b : List V), V.beqs a b = true → a = b
  | [], b, h => by cases b <;> simp_all [V.beqs]
  | x :: l, [], h => by simp [V.beqs] at h
  | x :: l, y :: m, h => by
    simp only [V.beqs, Bool.and_eq_true] at h
    rw [V.beq_eq _ _ h.1, V.beqs_eq _ _ h.2]
end
theorem sameV_eq {x : Option V} {v : V} (h : sameV x v = true) : x = some v := by
  cases x with
  | none => simp [sameV] at h
  | some a => rw [V.beq_eq _ _ h]

def TRec.isE (r : TRec) : Prop := ∃ h', r.kd = .eff h'
def TRec.isA (r : TRec) : Prop := ∃ ob, r.kd = .al ob
def RecOk (P : Program) (ev : Ev) (ops : Array Oper) (r : TRec) : Prop :=
  match r.kd with
  | .skip => wantedV ops r.F r.o = false ∧ r.v = vundef
  | .pure => wantedV ops r.F r.o = true ∧ pureV P r.F r.o = some r.v
  | .read => wantedV ops r.F r.o = true ∧ readV P r.F r.h r.o = some r.v ∧ lowO r.o r.F r.h.next = true
  | .al ob => wantedV ops r.F r.o = true ∧ (∃ f, allocV P r.F r.o = some (ob, f) ∧ r.v = f r.h.next) ∧ lowO r.o r.F r.h.next = true
  | .eff h' => wantedV ops r.F r.o = true ∧ EffTo P ev r.F r.h r.o r.v h' ∧ lowO r.o r.F r.h.next = true ∧ r.h.next ≤ h'.next
theorem Tr.recOk {l : List Oper} {t : Nat} {d : DS} {tr : List TRec} {s' : S} (h : Tr P ev ops bf l t d tr s') : ∀ (k : Nat) (r : TRec), tr[k]? = some r → RecOk P ev ops r := by
  induction h with
  | nil => intro k r hr; simp at hr
  | skip hw _ ih =>
    intro k r hr
    cases k with
    | zero => simp at hr; subst hr; exact ⟨hw, rfl⟩
    | succ k => exact ih k r (by simpa using hr)
  | pure hw hp _ ih =>
    intro k r hr
    cases k with
    | zero => simp at hr; subst hr; exact ⟨hw, hp⟩
    | succ k => exact ih k r (by simpa using hr)
  | read hw hp hs _ _ ih =>
    intro k r hr
    cases k with
    | zero => simp at hr; subst hr; exact ⟨hw, hp, hs⟩
    | succ k => exact ih k r (by simpa using hr)
  | al hw hp hs _ _ ih =>
    intro k r hr
    cases k with
    | zero => simp at hr; subst hr; exact ⟨hw, ⟨_, hp, rfl⟩, hs⟩
    | succ k => exact ih k r (by simpa using hr)
  | eff hw hp hs hn _ _ _ _ ih =>
    intro k r hr
    cases k with
    | zero => simp at hr; subst hr; exact ⟨hw, hp, hs, hn⟩
    | succ k => exact ih k r (by simpa using hr)

/-! ### The end of a run, from the k-th operation on -/
structure Upto (tr : List TRec) (t k : Nat) (d dk : DS) : Prop where
  eff0 : ∀ x ∈ d.effs, x ∈ dk.effs
  als0 : ∀ x ∈ d.als, x ∈ dk.als
  rds0 : ∀ x ∈ d.reads, x ∈ dk.reads
  eff : ∀ j r, j < k → tr[j]? = some r → r.isE → (t + j, r.h) ∈ dk.effs
  als : ∀ j r, j < k → tr[j]? = some r → r.isA → t + j ∈ dk.als
  rds : ∀ j r, j < k → tr[j]? = some r → r.kd = .read → (t + j, r.F, r.o, r.v) ∈ dk.reads
  inv : ∀ x ∈ dk.effs, x ∈ d.effs ∨ ∃ j r, j < k ∧ tr[j]? = some r ∧ r.isE ∧ x = (t + j, r.h)
theorem Upto.zero (tr : List TRec) (t : Nat) (d : DS) : Upto tr t 0 d d :=
  ⟨fun _ h => h, fun _ h => h, fun _ h => h, fun _ _ h => absurd h (Nat.not_lt_zero _), fun _ _ h => absurd h (Nat.not_lt_zero _), fun _ _ h => absurd h (Nat.not_lt_zero _), fun _ h => .inl h⟩
theorem Upto.succ {tr : List TRec} {t k : Nat} {d d1 dk : DS} {r0 : TRec} (h : Upto tr (t + 1) k d1 dk)
    (e0 : ∀ x ∈ d.effs, x ∈ d1.effs) (a0 : ∀ x ∈ d.als, x ∈ d1.als) (q0 : ∀ x ∈ d.reads, x ∈ d1.reads)
    (e1 : r0.isE → (t, r0.h) ∈ d1.effs) (a1 : r0.isA → t ∈ d1.als) (q1 : r0.kd = .read → (t, r0.F, r0.o, r0.v) ∈ d1.reads)
    (i1 : ∀ x ∈ d1.effs, x ∈ d.effs ∨ r0.isE ∧ x = (t, r0.h)) : Upto (r0 :: tr) t (k + 1) d dk where
  eff0 := fun x hx => h.eff0 x (e0 x hx)
  als0 := fun x hx => h.als0 x (a0 x hx)
  rds0 := fun x hx => h.rds0 x (q0 x hx)
  eff := fun j r hj hr hE => by
    cases j with
    | zero => simp at hr; subst hr; exact h.eff0 _ (e1 hE)
    | succ j => rw [show t + (j + 1) = t + 1 + j by omega]; exact h.eff j r (by omega) (by simpa using hr) hE
  als := fun j r hj hr hE => by
    cases j with
    | zero => simp at hr; subst hr; exact h.als0 _ (a1 hE)
    | succ j => rw [show t + (j + 1) = t + 1 + j by omega]; exact h.als j r (by omega) (by simpa using hr) hE
  rds := fun j r hj hr hE => by
    cases j with
    | zero => simp at hr; subst hr; exact h.rds0 _ (q1 hE)
    | succ j => rw [show t + (j + 1) = t + 1 + j by omega]; exact h.rds j r (by omega) (by simpa using hr) hE
  inv := fun x hx => by
    rcases h.inv x hx with hx | ⟨j, r, h1, h2, h3, h4⟩
    · rcases i1 x hx with hx | ⟨h1, h2⟩
      · exact .inl hx
      · exact .inr ⟨0, r0, by omega, rfl, h1, h2⟩
    · exact .inr ⟨j + 1, r, by omega, by simpa using h2, h3, by rw [h4, show t + (j + 1) = t + 1 + j by omega]⟩
theorem Tr.tail {l : List Oper} {t : Nat} {d : DS} {tr : List TRec} {s' : S} (h : Tr P ev ops bf l t d tr s') :
    ∀ k, k ≤ tr.length → ∃ dk, Tr P ev ops bf (l.drop k) (t + k) dk (tr.drop k) s' ∧ Upto tr t k d dk := by
  induction h with
  | nil hc =>
    intro k hk
    simp only [List.length_nil, Nat.le_zero_eq] at hk
    subst hk
    exact ⟨_, .nil hc, .zero _ _ _⟩
  | skip hw kk ih =>
    intro k hk
    cases k with
    | zero => exact ⟨_, .skip hw kk, .zero _ _ _⟩
    | succ k =>
      obtain ⟨dk, h1, h2⟩ := ih k (by simpa using hk)
      rw [show ∀ t, t + 1 + k = t + (k + 1) by intro t; omega] at h1
      refine ⟨dk, h1, h2.succ (fun _ h => h) (fun _ h => h) (fun _ h => h) ?_ ?_ ?_ fun _ h => .inl h⟩
      · rintro ⟨_, h⟩; cases h
      · rintro ⟨_, h⟩; cases h
      · intro h; cases h
  | pure hw hp kk ih =>
    intro k hk
    cases k with
    | zero => exact ⟨_, .pure hw hp kk, .zero _ _ _⟩
    | succ k =>
      obtain ⟨dk, h1, h2⟩ := ih k (by simpa using hk)
      rw [show ∀ t, t + 1 + k = t + (k + 1) by intro t; omega] at h1
      refine ⟨dk, h1, h2.succ (fun _ h => h) (fun _ h => h) (fun _ h => h) ?_ ?_ ?_ fun _ h => .inl h⟩
      · rintro ⟨_, h⟩; cases h
      · rintro ⟨_, h⟩; cases h
      · intro h; cases h
  | read hw hp hs he kk ih =>
    intro k hk
    cases k with
    | zero => exact ⟨_, .read hw hp hs he kk, .zero _ _ _⟩
    | succ k =>
      obtain ⟨dk, h1, h2⟩ := ih k (by simpa using hk)
      rw [show ∀ t, t + 1 + k = t + (k + 1) by intro t; omega] at h1
      refine ⟨dk, h1, h2.succ (fun _ h => h) (fun _ h => h) (fun _ h => List.mem_cons_of_mem _ h) ?_ ?_ (fun _ => List.mem_cons_self) fun _ h => .inl h⟩
      · rintro ⟨_, h⟩; cases h
      · rintro ⟨_, h⟩; cases h
  | al hw hp hs he kk ih =>
    intro k hk
    cases k with
    | zero => exact ⟨_, .al hw hp hs he kk, .zero _ _ _⟩
    | succ k =>
      obtain ⟨dk, h1, h2⟩ := ih k (by simpa using hk)
      rw [show ∀ t, t + 1 + k = t + (k + 1) by intro t; omega] at h1
      refine ⟨dk, h1, h2.succ (fun _ h => h) (fun _ h => List.mem_cons_of_mem _ h) (fun _ h => h) ?_ (fun _ => List.mem_cons_self) ?_ fun _ h => .inl h⟩
      · rintro ⟨_, h⟩; cases h
      · intro h; cases h
  | eff hw hp hs hn he ha hc kk ih =>
    intro k hk
    cases k with
    | zero => exact ⟨_, .eff hw hp hs hn he ha hc kk, .zero _ _ _⟩
    | succ k =>
      obtain ⟨dk, h1, h2⟩ := ih k (by simpa using hk)
      rw [show ∀ t, t + 1 + k = t + (k + 1) by intro t; omega] at h1
      refine ⟨dk, h1, h2.succ (fun _ h => List.mem_cons_of_mem _ h) (fun _ h => h) (fun _ h => h) (fun _ => List.mem_cons_self) ?_ ?_ fun x h => ?_⟩
      · rintro ⟨_, h⟩; cases h
      · intro h; cases h
      · rcases List.mem_cons.1 h with h | h
        · exact .inr ⟨⟨_, rfl⟩, h⟩
        · exact .inl h

/-! ### The checks -/
section
variable {l : List Oper} {s : S} {tr : List TRec} {s' : S}
theorem Tr.at (h : Tr P ev ops bf l 0 { s, reads := [], effs := [], als := [] } tr s') {k : Nat} {r : TRec} (hr : tr[k]? = some r) :
    ∃ dk tl l', Tr P ev ops bf l' k dk (r :: tl) s' ∧ Upto tr 0 k { s, reads := [], effs := [], als := [] } dk := by
  have hlt := (List.getElem?_eq_some_iff.1 hr).1
  obtain ⟨dk, h1, h2⟩ := h.tail k (Nat.le_of_lt hlt)
  rw [Nat.zero_add] at h1
  have : tr.drop k = r :: tr.drop (k + 1) := by
    rw [List.drop_eq_getElem_cons hlt]
    congr 1
    rw [List.getElem?_eq_getElem hlt] at hr
    exact Option.some.inj hr
  rw [this] at h1
  exact ⟨dk, _, _, h1, h2⟩
theorem Tr.eff_eff (h : Tr P ev ops bf l 0 { s, reads := [], effs := [], als := [] } tr s') {j k : Nat} {rj rk : TRec} (hj : tr[j]? = some rj) (hk : tr[k]? = some rk) (hlt : j < k) (ej : rj.isE) (ek : rk.isE) : prec bf j k = true := by
  obtain ⟨dk, tl, l', h1, h2⟩ := h.at hk
  have hm := h2.eff j rj hlt hj ej
  rw [Nat.zero_add] at hm
  obtain ⟨h', ek⟩ := ek
  cases h1 with
  | eff hw hp hs hn he ha hc kk => exact List.all_eq_true.1 he _ hm
  | _ => cases ek
theorem Tr.al_eff (h : Tr P ev ops bf l 0 { s, reads := [], effs := [], als := [] } tr s') {j k : Nat} {rj rk : TRec} (hj : tr[j]? = some rj) (hk : tr[k]? = some rk) (hlt : j < k) (ej : rj.isA) (ek : rk.isE) : prec bf j k = true := by
  obtain ⟨dk, tl, l', h1, h2⟩ := h.at hk
  have hm := h2.als j rj hlt hj ej
  rw [Nat.zero_add] at hm
  obtain ⟨h', ek⟩ := ek
  cases h1 with
  | eff hw hp hs hn he ha hc kk => exact List.all_eq_true.1 ha _ hm
  | _ => cases ek
theorem Tr.eff_al (h : Tr P ev ops bf l 0 { s, reads := [], effs := [], als := [] } tr s') {j k : Nat} {rj rk : TRec} {ob : Ob} (hj : tr[j]? = some rj) (hk : tr[k]? = some rk) (hlt : j < k) (ej : rj.isE) (ek : rk.kd = .al ob) : prec bf j k = true ∨ closedOb ob = true := by
  obtain ⟨dk, tl, l', h1, h2⟩ := h.at hk
  have hm := h2.eff j rj hlt hj ej
  rw [Nat.zero_add] at hm
  cases h1 with
  | al hw hp hs he kk =>
    cases ek
    rw [Bool.or_eq_true] at he
    rcases he with he | he
    · exact .inl (List.all_eq_true.1 he _ hm)
    · exact .inr he
  | _ => cases ek
theorem Tr.eff_read (h : Tr P ev ops bf l 0 { s, reads := [], effs := [], als := [] } tr s') {j k : Nat} {rj rk : TRec} (hj : tr[j]? = some rj) (hk : tr[k]? = some rk) (hlt : j < k) (ej : rj.isE) (ek : rk.kd = .read) :
    prec bf j k = true ∨ (readV P rk.F rj.h rk.o = some rk.v ∧ lowO rk.o rk.F rj.h.next = true) := by
  obtain ⟨dk, tl, l', h1, h2⟩ := h.at hk
  have hm := h2.eff j rj hlt hj ej
  rw [Nat.zero_add] at hm
  cases h1 with
  | read hw hp hs he kk =>
    have := List.all_eq_true.1 he _ hm
    simp only [Bool.or_eq_true, Bool.and_eq_true] at this
    exact this.imp id fun h => ⟨sameV_eq h.1, h.2⟩
  | _ => cases ek
theorem recheck_at {dk : DS} {k j : Nat} {r : TRec} (hc : recheck P bf dk = true) (h2 : Upto tr 0 j { s, reads := [], effs := [], als := [] } dk) (hk : tr[k]? = some r) (hlt : k < j) (ek : r.kd = .read) :
    (∃ i ri, i < j ∧ tr[i]? = some ri ∧ ri.isE ∧ prec bf k i = true) ∨ readV P r.F dk.s.h r.o = some r.v := by
  have hm := h2.rds k r hlt hk ek
  rw [Nat.zero_add] at hm
  have := List.all_eq_true.1 hc _ hm
  simp only [Bool.or_eq_true] at this
  rcases this with h1 | h1
  · left
    split at h1
    · rename_i e _ _ he
      rcases h2.inv (e, _) (by rw [he]; exact List.mem_cons_self) with h3 | ⟨i, ri, g1, g2, g3, g4⟩
      · cases h3
      · rw [Nat.zero_add] at g4
        cases g4
        exact ⟨_, ri, g1, g2, g3, h1⟩
    · cases h1
  · exact .inr (sameV_eq h1)
theorem Tr.read_eff (h : Tr P ev ops bf l 0 { s, reads := [], effs := [], als := [] } tr s') {j k : Nat} {rj rk : TRec} (hj : tr[j]? = some rj) (hk : tr[k]? = some rk) (hlt : k < j) (ej : rj.isE) (ek : rk.kd = .read) :
    (∃ i ri, i < j ∧ tr[i]? = some ri ∧ ri.isE ∧ prec bf k i = true) ∨ readV P rk.F rj.h rk.o = some rk.v := by
  obtain ⟨dk, tl, l', h1, h2⟩ := h.at hj
  obtain ⟨h', ej⟩ := ej
  cases h1 with
  | eff hw hp hs hn he ha hc kk => exact recheck_at hc h2 hk hlt ek
  | _ => cases ej
theorem Tr.read_end (h : Tr P ev ops bf l 0 { s, reads := [], effs := [], als := [] } tr s') {k : Nat} {rk : TRec} (hk : tr[k]? = some rk) (ek : rk.kd = .read) :
    (∃ i ri, i < tr.length ∧ tr[i]? = some ri ∧ ri.isE ∧ prec bf k i = true) ∨ readV P rk.F s'.h rk.o = some rk.v := by
  obtain ⟨dk, h1, h2⟩ := h.tail tr.length (Nat.le_refl _)
  have hlt := (List.getElem?_eq_some_iff.1 hk).1
  rw [List.drop_length] at h1
  generalize hl : List.drop tr.length l = l' at h1
  cases h1 with
  | nil hc => exact recheck_at hc h2 hk hlt ek
end

/-! ### Heaps and frames by index -/
def hAt (tr : List TRec) (s' : S) (k : Nat) : Hp := match tr[k]? with | some r => r.h | none => s'.h
def fAt (tr : List TRec) (s' : S) (k : Nat) : Frm := match tr[k]? with | some r => r.F | none => s'.F
theorem hAt_some {tr : List TRec} {s' : S} {k : Nat} {r : TRec} (h : tr[k]? = some r) : hAt tr s' k = r.h := by unfold hAt; rw [h]
theorem fAt_some {tr : List TRec} {s' : S} {k : Nat} {r : TRec} (h : tr[k]? = some r) : fAt tr s' k = r.F := by unfold fAt; rw [h]
theorem Tr.hd {l : List Oper} {t : Nat} {d : DS} {tr : List TRec} {s' : S} (h : Tr P ev ops bf l t d tr s') : hAt tr s' 0 = d.s.h ∧ fAt tr s' 0 = d.s.F := by
  cases h <;> exact ⟨rfl, rfl⟩
theorem Tr.next {l : List Oper} {t : Nat} {d : DS} {tr : List TRec} {s' : S} (h : Tr P ev ops bf l t d tr s') : ∀ (k : Nat) (r : TRec), tr[k]? = some r → hAt tr s' (k + 1) = r.nextH ∧ fAt tr s' (k + 1) = r.nextF := by
  induction h with
  | nil => intro k r hr; simp at hr
  | _ =>
    rename_i kk ih
    intro k r hr
    cases k with
    | zero =>
      simp only [List.getElem?_cons_zero, Option.some.injEq] at hr
      subst hr
      exact kk.hd
    | succ k => exact ih k r (by simpa using hr)
theorem Tr.same {l : List Oper} {t : Nat} {d : DS} {tr : List TRec} {s' : S} (h : Tr P ev ops bf l t d tr s') : s'.ds = d.s.ds ∧ s'.md = d.s.md := by
  induction h with
  | nil => exact ⟨rfl, rfl⟩
  | _ => rename_i ih; exact ih
theorem frS_none (v : Nat → V) (S : Nat → Bool) : ∀ (l : List Oper) (i : Nat) (F : Frm), (∀ k, i ≤ k → S k = false) → frS v S l i F = F
  | [], i, F, h => rfl
  | o :: l, i, F, h => by
    simp only [frS]
    rw [if_neg (by rw [h i (Nat.le_refl _)]; simp)]
    exact frS_none v S l (i + 1) F fun k hk => h k (by omega)
theorem Tr.fAt {l : List Oper} {t : Nat} {d : DS} {tr : List TRec} {s' : S} (h : Tr P ev ops bf l t d tr s') (v : Nat → V) : (∀ j r, tr[j]? = some r → v (t + j) = r.v) → ∀ k, fAt tr s' k = frS v (fun i => decide (i < t + k)) l t d.s.F := by
  induction h with
  | nil => intro _ k; simp [Vm.fAt, frS]
  | _ =>
    rename_i kk ih
    intro hv k
    cases k with
    | zero =>
      rw [frS_none _ _ _ _ _ (fun k hk => by simp; omega)]
      rfl
    | succ k =>
      have := ih (fun j r hj => by rw [← hv (j + 1) r (by simpa using hj)]; congr 1; omega) k
      simp only [frS]
      have hv0 := hv 0 _ rfl
      rw [Nat.add_zero] at hv0
      rw [if_pos (by simp), hv0, show ∀ t, t + (k + 1) = t + 1 + k by intro t; omega]
      exact this
/-- Where nothing takes effect, the heap only grows. -/
theorem Tr.seg {l : List Oper} {t : Nat} {d : DS} {tr : List TRec} {s' : S} (h : Tr P ev ops bf l t d tr s') {i : Nat} : ∀ j, i ≤ j → j ≤ tr.length → (∀ k r, i ≤ k → k < j → tr[k]? = some r → ¬ r.isE) →
    (hAt tr s' i).next ≤ (hAt tr s' j).next ∧ ∀ b, b < (hAt tr s' i).next → (hAt tr s' j).get b = (hAt tr s' i).get b := by
  intro j
  induction j with
  | zero => intro hi _ _; obtain rfl : i = 0 := by omega
            exact ⟨Nat.le_refl _, fun _ _ => rfl⟩
  | succ j ih =>
    intro hi hj hn
    by_cases he : i = j + 1
    · subst he; exact ⟨Nat.le_refl _, fun _ _ => rfl⟩
    · obtain ⟨h1, h2⟩ := ih (by omega) (by omega) (fun k r hk hk' => hn k r hk (by omega))
      have hj' : tr[j]? = some tr[j] := List.getElem?_eq_getElem (by omega)
      have hx := (h.next j _ hj').1
      have hne := hn j _ (by omega) (by omega) hj'
      rw [hx]
      rw [hAt_some hj'] at h1 h2
      generalize tr[j] = r at *
      unfold TRec.nextH
      cases hk : r.kd with
      | al ob =>
        dsimp only
        rw [Hp.next_new]
        exact ⟨by omega, fun b hb => by rw [Hp.get_new_ne _ (by omega)]; exact h2 b hb⟩
      | eff h' => exact (hne ⟨_, hk⟩).elim
      | _ => exact ⟨h1, h2⟩
/-- Numbers only grow. -/
theorem Tr.mono {l : List Oper} {t : Nat} {d : DS} {tr : List TRec} {s' : S} (h : Tr P ev ops bf l t d tr s') {i : Nat} : ∀ j, i ≤ j → j ≤ tr.length → (hAt tr s' i).next ≤ (hAt tr s' j).next := by
  intro j
  induction j with
  | zero => intro hi _; obtain rfl : i = 0 := by omega
            exact Nat.le_refl _
  | succ j ih =>
    intro hi hj
    by_cases he : i = j + 1
    · subst he; exact Nat.le_refl _
    · have h1 := ih (by omega) (by omega)
      have hj' : tr[j]? = some tr[j] := List.getElem?_eq_getElem (by omega)
      have hx := (h.next j _ hj').1
      have hr := h.recOk j _ hj'
      rw [hx]
      rw [hAt_some hj'] at h1
      generalize tr[j] = r at *
      unfold TRec.nextH
      unfold RecOk at hr
      cases hk : r.kd with
      | al ob => dsimp only; rw [Hp.next_new]; omega
      | eff h' => rw [hk] at hr; dsimp only; have := hr.2.2.2; omega
      | _ => exact h1
end Go.Vm
