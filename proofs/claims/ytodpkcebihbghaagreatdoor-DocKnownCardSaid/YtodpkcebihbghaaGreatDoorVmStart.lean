/- The world in which a law without arguments begins: what the row lists, as a virtual heap. -/
import Derived.Test.YtodpkcebihbghaaGreatDoorVmFin
import Derived.LaidLaws
import Derived.Lib.LaidTab
set_option linter.unusedVariables false
set_option linter.unusedSimpArgs false
namespace Go.Vm
open Go.RowKit
variable {P : Program} {W : World}

theorem laid_mem : ∀ {l : List (String × DataW Unit)} {ps : List MemPlace}, DataW.LaidVars P W l ps → ∀ n d, (n, d) ∈ l →
    ∃ g t cs fuel p, P.globalNamed n = some g ∧ (P.globals[g]?).map (·.type) = some t ∧ W.var? P n = some cs ∧ DataW.trod (fun _ => ()) P W 0 (fun _ => true) false fuel t cs.toList = some (d, p) ∧
      (∀ x ∈ MemPlace.row ⟨g, 0, none⟩ cs.size, x ∈ ps) ∧ ∀ x ∈ p, x ∈ ps
  | [], _, _, n, d, h => by cases h
  | (n', d') :: l, ps, ⟨g, t, cs, fuel, p, q, h1, h2, h3, h4, h5, h6⟩, n, d, h => by
    rcases List.mem_cons.1 h with h | h
    · cases h
      subst h6
      exact ⟨g, t, cs, fuel, p, h1, h2, h3, h4, fun x hx => List.mem_append_left _ (List.mem_append_left _ hx), fun x hx => List.mem_append_left _ (List.mem_append_right _ hx)⟩
    · obtain ⟨g', t', cs', f', p', k1, k2, k3, k4, k5, k6⟩ := laid_mem h5 n d h
      subst h6
      exact ⟨g', t', cs', f', p', k1, k2, k3, k4, fun x hx => List.mem_append_right _ (k5 x hx), fun x hx => List.mem_append_right _ (k6 x hx)⟩
theorem laid_split {l : List (String × DataW Unit)} (h : laidMetH P l W) : laidMet P (l.filter fun x => x.2.handleName?.isNone) W ∧ handlesMet P (l.filter fun x => x.2.handleName?.isSome) W := by
  unfold laidMetH at h
  cases hf : l.filter fun x => x.2.handleName?.isSome with
  | nil =>
    rw [hf] at h
    have e : (l.filter fun x => x.2.handleName?.isNone) = l := by
      rw [List.filter_eq_self]
      intro x hx
      have := (List.filter_eq_nil_iff.1 hf) x hx
      cases hn : x.2.handleName? with
      | none => rfl
      | some s => rw [hn] at this; exact absurd rfl this
    rw [e]
    exact ⟨h, fun x hx => by cases hx⟩
  | cons a as => rw [hf] at h; exact h
theorem var_heap {n : String} {g : Nat} {cs : Array Value} (hg : P.globalNamed n = some g) (h : W.var? P n = some cs) : ∃ t f, W.heap[g]? = some (.cells cs t f) := by
  simp only [World.var?, hg, Option.bind_some] at h
  split at h
  · rename_i c t f hh; cases h; exact ⟨t, f, hh⟩
  · cases h
/-- What of the types an error made by errors.New leans on. -/
structure ErrTy (P : Program) (ti tp te ts : TypeId) (ms : Array (String × TypeId)) (f : Field) : Prop where
  hi : P.underlying ti = some (.interface ms)
  hrow : ∀ u, P.typeName? 3 u = some "*errors.errorString" → u = tp
  hp : P.underlying tp = some (.pointer te)
  he : P.underlying te = some (.struct #[f])
  hft : f.type = ts
  hfo : f.offset = 0
  hs : P.underlying ts = some .string
  hc : P.cellsOf te = 1
  hcs : P.cellsOf ts = 1
def SentAt (W : World) (tp : TypeId) (g : Nat) (text : List UInt8) (a : Addr) : Prop :=
  a.spot = none ∧ (∃ c t, W.heap[g]? = some (.cells c t (0, 0)) ∧ c[0]? = some (.iface tp (.pointer (some a)))) ∧ ∃ c t, W.heap[a.block]? = some (.cells c t (0, 0)) ∧ c[a.off]? = some (.string ⟨text.toArray⟩)
theorem sent_of_laid {ti tp te ts : TypeId} {ms : Array (String × TypeId)} {f : Field} (E : ErrTy P ti tp te ts ms f) {n : String} {g : Nat} {text : List UInt8} {l : List (String × DataW Unit)} (hg : P.globalNamed n = some g) (hty : (P.globals[g]?).map (·.type) = some ti)
    (h : laidMet P l W) (hm : (n, DataW.iface "*errors.errorString" (.ptr (.agg [.lit (.string text)]))) ∈ l) : ∃ a, SentAt W tp g text a := by
  obtain ⟨ps, hl, _, hrows⟩ := h
  obtain ⟨g', t, cs, fuel, p, h1, h2, h3, h4, h5, h6⟩ := laid_mem hl _ _ hm
  obtain rfl := Option.some.inj (hg.symm.trans h1)
  obtain rfl := Option.some.inj (hty.symm.trans h2)
  obtain ⟨t', f', hh⟩ := var_heap hg h3
  obtain ⟨l0⟩ := cs
  have hcell : ∀ x, l0 = [x] → W.cell? ⟨g, 0, none⟩ = some x := fun x e => by
    subst e
    simp [World.cell?, hh]
  have hin : ∀ x, l0 = [x] → MemPlace.cell g 0 ∈ ps := fun x e => by
    subst e
    exact h5 _ (by simp [MemPlace.row])
  obtain ⟨a, s, e1, e2, e3, e4, e5⟩ := errorString_of_trod E.hi E.hrow E.hp E.he E.hft E.hfo E.hs E.hc E.hcs h4 (fun u v e => (hrows g 0 (hin _ e)).2 u v (hcell _ e))
  simp only at e1
  obtain ⟨c1, t1, hb1⟩ := (hrows g 0 (hin _ e1)).1
  subst e5
  obtain ⟨c2, t2, hb2⟩ := (hrows a.block a.off (h6 _ (by simp [MemPlace.row]))).1
  have hsp : a.spot = none := by
    unfold World.cell? at e2
    rw [hb2] at e2
    cases hs : a.spot with
    | none => rfl
    | some y => simp [hs] at e2
  refine ⟨a, hsp, ⟨c1, t1, hb1, ?_⟩, c2, t2, hb2, ?_⟩
  · rw [hh] at hb1
    cases hb1
    rw [e1]; rfl
  · unfold World.cell? at e2
    rw [hb2] at e2
    simp only [hsp, Option.isSome_none, Bool.false_eq_true, if_false] at e2
    rw [e2]
    subst e3
    simp
theorem tab_of_laid {n : String} {g : Nat} {t e : TypeId} {k : IntKind} {zs : List Int} {N : Nat} {l : List (String × DataW Unit)} (hg : P.globalNamed n = some g) (hty : (P.globals[g]?).map (·.type) = some t)
    (ht : P.underlying t = some (.array N e)) (he : P.underlying e = some (.int k)) (hce : P.cellsOf e = 1) (hct : P.cellsOf t = N) (hN : N ≠ 0)
    (h : laidMet P l W) (hm : (n, Lib.tabData k zs) ∈ l) : ∃ c t', W.heap[g]? = some (.cells c t' (0, 0)) ∧ c.toList = zs.map fun z => Value.int k z := by
  obtain ⟨ps, hl, _, hrows⟩ := h
  obtain ⟨g', t0, cs, fuel, p, h1, h2, h3, h4, h5, h6⟩ := laid_mem hl _ _ hm
  obtain rfl := Option.some.inj (hg.symm.trans h1)
  obtain rfl := Option.some.inj (hty.symm.trans h2)
  obtain ⟨t', f', hh⟩ := var_heap hg h3
  have hcs := Lib.cells_of_tab ht he hce hct h4
  have hsz : cs.size ≠ 0 := fun h0 => by
    have h0' : cs.toList = [] := by rw [← List.length_eq_zero_iff]; simpa using h0
    rw [h0'] at h4
    cases fuel with
    | zero => simp [DataW.trod] at h4
    | succ fuel => simp [DataW.trod, ht, hct] at h4; omega
  obtain ⟨c1, t1, hb1⟩ := (hrows g 0 (h5 _ (by
    unfold MemPlace.row
    exact List.mem_map.2 ⟨0, List.mem_range.2 (by omega), by simp⟩))).1
  rw [hh] at hb1
  cases hb1
  exact ⟨cs, _, hh, hcs⟩
theorem handle_of_laid {n : String} {d : DataW Unit} {g : Nat} {u ty : TypeId} {name : List UInt8} {l : List (String × DataW Unit)} (hg : P.globalNamed n = some g) (hd : d.funcsIn? = none) (hn : d.handleName? = some name)
    (hu : (P.cutTypes.find? (·.1 == "internal/reflectlite.rtype")).map (·.2) = some u) (hone : ((List.range P.types.size).filter fun t => P.rowNamed t name) = [ty]) (h : handlesMet P l W) (hm : (n, d) ∈ l) :
    ∃ t f, W.heap[g]? = some (.cells #[.iface u (.agg #[typeHandle P ty])] t f) := by
  have h1 := h _ hm
  simp only [hd] at h1
  obtain ⟨name', u', ty', e1, e2, e3, e4, e5⟩ := h1
  obtain rfl := Option.some.inj (hn.symm.trans e1)
  obtain rfl := Option.some.inj (hu.symm.trans e2)
  have hm2 : ty' ∈ (List.range P.types.size).filter fun t => P.rowNamed t name := List.mem_filter.2 ⟨List.mem_range.2 e3, e4⟩
  rw [hone] at hm2
  obtain rfl := List.mem_singleton.1 hm2
  exact var_heap hg e5

/-! ### The heap at start -/
def ro1 (l : List V) (frz : Nat × Nat) : Ob := .cells { l, elem := 0, exact := false, rw := false, frz }
def startL (tp G : Nat) (sents : List (Nat × List UInt8)) (ex : List (Nat × Ob)) : List (Nat × Ob) :=
  (sents.map fun e => (e.1, ro1 [.iface tp (.ptr (some (G + 1 + e.1, 0)))] (0, 0))) ++ (sents.map fun e => (G + 1 + e.1, ro1 [.str e.2] (0, 0))) ++ ex
def startM (G : Nat) (sents : List (Nat × List UInt8)) (A : Nat → Addr) : PM := fun b =>
  if b ≤ G then some ⟨b, 0, 0⟩ else if sents.any (fun e => e.1 == b - (G + 1)) then some ⟨(A (b - (G + 1))).block, (A (b - (G + 1))).off, 0⟩ else none
def noStr : Ob → Bool
  | .dead => true
  | .cells x => !x.rw && x.l.all fun v => match v with | .str _ => false | _ => true
  | _ => false
def startOk (tp G : Nat) (sents : List (Nat × List UInt8)) (ex : List (Nat × Ob)) : Bool :=
  (sents.all fun e => decide (e.1 < G)) && ((List.range (G + 1)).all fun b => ((mkT (startL tp G sents ex)).get (Pos.of b)).isSome) && (sents.all fun e => ((mkT (startL tp G sents ex)).get (Pos.of (G + 1 + e.1))).isSome) &&
  (sents.all fun e => sents.all fun e' => e.1 == e'.1 || !(e.2 == e'.2)) && (ex.all fun e => decide (e.1 ≤ G) && noStr e.2) && (sents.all fun e => sents.all fun e' => !(e.1 == e'.1) || e.2 == e'.2)
theorem rel_start {tp G : Nat} {sents : List (Nat × List UInt8)} {ex : List (Nat × Ob)} {A : Nat → Addr} (hG : P.globals.size = G) (hok : startOk tp G sents ex = true) (hW : G < W.heap.size) (hs : ∀ e ∈ sents, SentAt W tp e.1 e.2 (A e.1))
    (hx : ∀ e ∈ ex, ObR P (startM G sents A) W ⟨e.1, 0, 0⟩ e.2) :
    Rel P (startM G sents A) { t := mkT (startL tp G sents ex), next := 2 * G + 1 } W ∧ ∀ r, Unw true (startM G sents A) { t := mkT (startL tp G sents ex), next := 2 * G + 1 } r := by
  unfold startOk at hok
  simp only [Bool.and_eq_true] at hok
  obtain ⟨⟨⟨⟨⟨k1, k2⟩, k3⟩, k4⟩, k5⟩, k6⟩ := hok
  have hlt : ∀ e ∈ sents, e.1 < G := fun e he => by have := List.all_eq_true.1 k1 e he; simpa using this
  have htext : ∀ e ∈ sents, ∀ e' ∈ sents, e.2 = e'.2 → e.1 = e'.1 := fun e he e' he' h => by
    have := List.all_eq_true.1 (List.all_eq_true.1 k4 e he) e' he'
    simp only [Bool.or_eq_true, beq_iff_eq, Bool.not_eq_true', beq_eq_false_iff_ne, ne_eq] at this
    rcases this with h1 | h1
    · exact h1
    · exact (h1 h).elim
  have hex : ∀ e ∈ ex, e.1 ≤ G ∧ noStr e.2 = true := fun e he => by have := List.all_eq_true.1 k5 e he; simpa using this
  -- what lies at a number
  have low : ∀ b, b ≤ G → ∃ o, (mkT (startL tp G sents ex)).get (Pos.of b) = some o ∧ ((∃ e ∈ sents, e.1 = b ∧ o = ro1 [.iface tp (.ptr (some (G + 1 + e.1, 0)))] (0, 0)) ∨ (b, o) ∈ ex) := fun b hb => by
    obtain ⟨o, ho⟩ := Option.isSome_iff_exists.1 (List.all_eq_true.1 k2 b (List.mem_range.2 (by omega)))
    refine ⟨o, ho, ?_⟩
    have hm := mkT_mem _ b o ho
    unfold startL at hm
    rcases List.mem_append.1 hm with hm | hm
    · rcases List.mem_append.1 hm with hm | hm
      · obtain ⟨e, he, h1⟩ := List.mem_map.1 hm
        cases h1
        exact .inl ⟨e, he, rfl, rfl⟩
      · obtain ⟨e, he, h1⟩ := List.mem_map.1 hm
        cases h1
        omega
    · exact .inr hm
  have high : ∀ b, ¬ b ≤ G → sents.any (fun e => e.1 == b - (G + 1)) = true → ∃ e ∈ sents, b = G + 1 + e.1 ∧ (mkT (startL tp G sents ex)).get (Pos.of b) = some (ro1 [.str e.2] (0, 0)) := fun b hb hany => by
    obtain ⟨e, he, h1⟩ := List.any_eq_true.1 hany
    have h1' : e.1 = b - (G + 1) := by simpa using h1
    have hbe : b = G + 1 + e.1 := by omega
    obtain ⟨o, ho⟩ := Option.isSome_iff_exists.1 (List.all_eq_true.1 k3 e he)
    rw [← hbe] at ho
    have hm := mkT_mem _ b o ho
    unfold startL at hm
    rcases List.mem_append.1 hm with hm | hm
    · rcases List.mem_append.1 hm with hm | hm
      · obtain ⟨e', he', h2⟩ := List.mem_map.1 hm
        cases h2
        have := hlt e' he'
        omega
      · obtain ⟨e', he', h2⟩ := List.mem_map.1 hm
        have e1 : G + 1 + e'.1 = b := congrArg Prod.fst h2
        have e2 : ro1 [.str e'.2] (0, 0) = o := congrArg Prod.snd h2
        subst e2
        exact ⟨e', he', e1.symm, ho⟩
    · have := (hex _ hm).1
      simp only at this
      omega
  have cases_ : ∀ b l, startM G sents A b = some l → (b ≤ G ∧ l = ⟨b, 0, 0⟩) ∨ (¬ b ≤ G ∧ sents.any (fun e => e.1 == b - (G + 1)) = true ∧ l = ⟨(A (b - (G + 1))).block, (A (b - (G + 1))).off, 0⟩) := fun b l h => by
    unfold startM at h
    split at h
    · rename_i hb; cases h; exact .inl ⟨hb, rfl⟩
    · rename_i hb
      split at h
      · rename_i ha; cases h; exact .inr ⟨hb, ha, rfl⟩
      · cases h
  have strM : ∀ e ∈ sents, startM G sents A (G + 1 + e.1) = some ⟨(A e.1).block, (A e.1).off, 0⟩ := fun e he => by
    unfold startM
    rw [if_neg (by omega), if_pos (List.any_eq_true.2 ⟨e, he, by simp⟩), Nat.add_sub_cancel_left]
  have ro : ∀ b l, startM G sents A b = some l → ∃ o, (mkT (startL tp G sents ex)).get (Pos.of b) = some o ∧ ObR P (startM G sents A) W l o ∧ (o = .dead ∨ ∃ x, o = .cells x ∧ x.rw = false) ∧
      (b ≤ G → noStr o = true) := fun b l h => by
    rcases cases_ b l h with ⟨hb, rfl⟩ | ⟨hb, ha, rfl⟩
    · obtain ⟨o, ho, h1⟩ := low b hb
      refine ⟨o, ho, ?_⟩
      rcases h1 with ⟨e, he, rfl, rfl⟩ | h1
      · obtain ⟨hsp, ⟨c, t, q1, q2⟩, _⟩ := hs e he
        refine ⟨⟨c, t, (0, 0), q1, fun i v hv => ?_, (fun h => by cases h), (fun h => by cases h), (fun _ h => by cases h), (fun _ h => by cases h), fun _ _ => Nat.le_refl _⟩, .inr ⟨_, rfl, rfl⟩, fun _ => rfl⟩
        cases i with
        | zero =>
          simp at hv
          subst hv
          refine ⟨_, q2, .iface ?_⟩
          have := VR.ptr (o := 0) (strM e he)
          have ha : A e.1 = ⟨(A e.1).block, (A e.1).off, none⟩ := by
            cases hA : A e.1 with
            | mk b o s => rw [hA] at hsp; simp only at hsp; subst hsp; rfl
          rw [ha]
          exact this
        | succ i => simp at hv
      · refine ⟨hx _ h1, ?_, fun _ => (hex _ h1).2⟩
        have := (hex _ h1).2
        cases o with
        | dead => exact .inl rfl
        | cells x => simp [noStr] at this; exact .inr ⟨x, rfl, this.1⟩
        | _ => cases this
    · obtain ⟨e, he, h1, h2⟩ := high b hb ha
      refine ⟨_, h2, ?_, .inr ⟨_, rfl, rfl⟩, fun h => (hb h).elim⟩
      obtain ⟨hsp, _, c, t, q1, q2⟩ := hs e he
      have hbe : b - (G + 1) = e.1 := by omega
      rw [hbe]
      refine ⟨c, t, (0, 0), q1, fun i v hv => ?_, (fun h => by cases h), (fun h => by cases h), (fun _ h => by cases h), (fun _ h => by cases h), fun _ _ => Nat.le_refl _⟩
      cases i with
      | zero => simp at hv; subst hv; exact ⟨_, q2, .str _⟩
      | succ i => simp at hv
  have strAt : ∀ b l, startM G sents A b = some l → ¬ b ≤ G → ∃ e ∈ sents, b = G + 1 + e.1 ∧ l = ⟨(A e.1).block, (A e.1).off, 0⟩ ∧ (mkT (startL tp G sents ex)).get (Pos.of b) = some (ro1 [.str e.2] (0, 0)) := fun b l h hb => by
    rcases cases_ b l h with ⟨hb', _⟩ | ⟨_, ha, rfl⟩
    · exact (hb hb').elim
    · obtain ⟨e, he, h1, h2⟩ := high b hb ha
      exact ⟨e, he, h1, by rw [show b - (G + 1) = e.1 by omega], h2⟩
  have mixed : ∀ b1 l1 b2 l2, startM G sents A b1 = some l1 → startM G sents A b2 = some l2 → b1 ≤ G → ¬ b2 ≤ G → l1.r = l2.r → ∀ x1, (mkT (startL tp G sents ex)).get (Pos.of b1) = some (.cells x1) → ∀ i1, i1 < x1.l.length → l1.off + i1 ≠ l2.off + 0 := fun b1 l1 b2 l2 h1 h2 hb1 hb2 hr x1 hx1 i1 hi1 he => by
    obtain ⟨o1, g1, g2, g3, g4⟩ := ro b1 l1 h1
    rw [hx1] at g1; cases g1
    obtain ⟨e, hee, q1, rfl, q3⟩ := strAt b2 l2 h2 hb2
    obtain ⟨_, _, c, t, m1, m2⟩ := hs e hee
    obtain ⟨c1, t1, f1, n1, n2, _⟩ := g2
    obtain ⟨r, s1, s2⟩ := n2 i1 x1.l[i1] (List.getElem?_eq_getElem hi1)
    simp only at hr he
    rw [hr, m1] at n1
    cases n1
    rw [he, Nat.add_zero, m2] at s1
    cases s1
    have hno := g4 hb1
    simp only [noStr, Bool.and_eq_true, List.all_eq_true] at hno
    have := hno.2 x1.l[i1] (List.getElem_mem hi1)
    generalize x1.l[i1] = v at this s2
    cases s2
    cases this
  refine ⟨⟨fun b l h => ?_, fun b l h => ?_, fun b1 l1 b2 l2 h1 h2 hne hr => ?_, fun g hg => ?_, fun b l h => ?_⟩, fun r b l h _ => ?_⟩
  · obtain ⟨o, g1, g2, _⟩ := ro b l h
    exact ⟨o, g1, g2⟩
  · show b < 2 * G + 1
    rcases cases_ b l h with ⟨hb, rfl⟩ | ⟨hb, ha, rfl⟩
    · omega
    · obtain ⟨e, he, h1, _⟩ := high b hb ha
      have := hlt e he
      omega
  · show Share ((mkT (startL tp G sents ex)).get (Pos.of b1)) ((mkT (startL tp G sents ex)).get (Pos.of b2)) l1 l2
    obtain ⟨o1, g1, g2, g3, g4⟩ := ro b1 l1 h1
    obtain ⟨o2, q1, q2, q3, q4⟩ := ro b2 l2 h2
    rw [g1, q1]
    rcases g3 with rfl | ⟨x1, rfl, hx1⟩
    · exact .inl rfl
    rcases q3 with rfl | ⟨x2, rfl, hx2⟩
    · exact .inr (.inl rfl)
    refine .inr (.inr ⟨x1, x2, rfl, rfl, hx1, hx2, .inr (.inr fun i1 i2 hi1 hi2 he => ?_)⟩)
    by_cases hb1 : b1 ≤ G
    · by_cases hb2 : b2 ≤ G
      · rcases cases_ b1 l1 h1 with ⟨_, rfl⟩ | ⟨hq, _⟩
        · rcases cases_ b2 l2 h2 with ⟨_, rfl⟩ | ⟨hq, _⟩
          · exact hne hr
          · exact hq hb2
        · exact hq hb1
      · obtain ⟨e, hee, z1, z2, z3⟩ := strAt b2 l2 h2 hb2
        rw [q1] at z3; cases z3
        have hi2' : i2 = 0 := by simp at hi2; omega
        subst hi2'
        exact mixed b1 l1 b2 l2 h1 h2 hb1 hb2 hr x1 g1 i1 hi1 he
    · obtain ⟨e, hee, z1, z2, z3⟩ := strAt b1 l1 h1 hb1
      rw [g1] at z3; cases z3
      have hi1' : i1 = 0 := by simp at hi1; omega
      subst hi1'
      by_cases hb2 : b2 ≤ G
      · exact mixed b2 l2 b1 l1 h2 h1 hb2 hb1 hr.symm x2 q1 i2 hi2 he.symm
      · obtain ⟨e', hee', y1, y2, y3⟩ := strAt b2 l2 h2 hb2
        rw [q1] at y3; cases y3
        have hi2' : i2 = 0 := by simp at hi2; omega
        subst hi2'
        obtain ⟨_, _, c, t, m1, m2⟩ := hs e hee
        obtain ⟨_, _, c', t', m1', m2'⟩ := hs e' hee'
        subst z2 y2
        simp only at hr he
        rw [hr, m1'] at m1
        cases m1
        rw [show (A e.1).off = (A e'.1).off by omega, m2'] at m2
        simp only [Option.some.injEq, Value.string.injEq, ByteArray.mk.injEq] at m2
        have hte : e'.2 = e.2 := by have := congrArg Array.toList m2; simpa using this
        have := htext e' hee' e hee hte
        omega
  · unfold startM
    rw [if_pos (by omega)]
  · rcases cases_ b l h with ⟨hb, rfl⟩ | ⟨hb, ha, rfl⟩
    · show b < W.heap.size
      omega
    · obtain ⟨e, he, h1, _⟩ := high b hb ha
      obtain ⟨_, _, c, t, m1, _⟩ := hs e he
      rw [show b - (G + 1) = e.1 by omega]
      show (A e.1).block < W.heap.size
      exact (Array.getElem?_eq_some_iff.1 m1).1
  · obtain ⟨o, g1, _, g3, _⟩ := ro b l h
    rcases g3 with rfl | ⟨x, rfl, hx⟩
    · exact .inl g1
    · exact .inr ⟨rfl, x, g1, hx⟩
end Go.Vm
