/- What is handed in, as the virtual machine has it: blocks that are never written. -/
import Derived.Test.YthebkalnpmkkpaaGreatDoorWpUtil
import Derived.Test.YthebkalnpmkkpaaGreatDoorVmStart
set_option linter.unusedVariables false
set_option linter.unusedSimpArgs false
namespace Go.Vm
open Go.RowKit
variable {P : Program} {μ : PM} {h : Hp} {w : World}

def inB (l : List V) : Ob := .cells { l, elem := 0, exact := false, rw := false, frz := (0, 1) }
/-- One more block that is looked at alone. -/
theorem new_ro (R : Rel P μ h w) (hu : ∀ r, Unw true μ h r) {r off : Nat} {c : Array Value} {e : TypeId} {fz : Nat × Nat} {l : List V} (hr : w.heap[r]? = some (.cells c e fz)) (hc : CellR μ l c off) :
    Rel P (μ.add h.next ⟨r, off, 0⟩) (h.new (inB l)) w ∧ (∀ q, Unw true (μ.add h.next ⟨r, off, 0⟩) (h.new (inB l)) q) := by
  have hle := PM.le_add ⟨r, off, 0⟩ R.dom
  have ro : ∀ (b : Nat) (l' : Loc), μ.add h.next ⟨r, off, 0⟩ b = some l' → (h.new (inB l)).get b = some .dead ∨ ∃ x, (h.new (inB l)).get b = some (.cells x) ∧ x.rw = false := fun b l' hb => by
    rcases PM.add_inv hb with ⟨rfl, rfl⟩ | ⟨hne, hb⟩
    · exact .inr ⟨_, get_new_same _ _, rfl⟩
    · rw [get_new _ (R.dom b l' hb)]
      rcases hu l'.r b l' hb rfl with h1 | ⟨_, x, h1, h2⟩
      · exact .inl h1
      · exact .inr ⟨x, h1, h2⟩
  refine ⟨⟨fun b l' hb => ?_, fun b l' hb => ?_, fun b1 l1 b2 l2 h1 h2 hne hrr => ?_, fun g hg => hle _ _ (R.glob g hg), fun b l' hb => ?_⟩, fun q b l' hb hq => ?_⟩
  · rcases PM.add_inv hb with ⟨rfl, rfl⟩ | ⟨hne, hb⟩
    · exact ⟨inB l, get_new_same _ _, c, e, fz, hr, hc.mono hle, (fun h => by cases h), (fun h => by cases h), (fun _ h => by cases h), (fun _ h => by cases h), fun _ h => by cases h⟩
    · obtain ⟨o, g1, g2⟩ := R.ob b l' hb
      exact ⟨o, (get_new _ (R.dom b l' hb)).trans g1, g2.frame hle rfl⟩
  · rcases PM.add_inv hb with ⟨rfl, rfl⟩ | ⟨hne, hb⟩
    · exact Nat.lt_succ_self _
    · exact Nat.lt_succ_of_lt (R.dom b l' hb)
  · rcases PM.add_inv h1 with ⟨e1, e1'⟩ | ⟨k1, h1'⟩
    · rcases PM.add_inv h2 with ⟨e2, e2'⟩ | ⟨k2, h2'⟩
      · exact absurd (e1.trans e2.symm) hne
      · rcases ro b2 l2 h2 with g | ⟨x, g1, g2⟩
        · exact .inr (.inl g)
        · exact .inr (.inr ⟨_, x, by rw [e1]; exact get_new_same _ _, g1, rfl, g2, .inl (show (0 : Nat) ≠ 1 by decide)⟩)
    · rcases PM.add_inv h2 with ⟨e2, e2'⟩ | ⟨k2, h2'⟩
      · rcases ro b1 l1 h1 with g | ⟨x, g1, g2⟩
        · exact .inl g
        · exact .inr (.inr ⟨x, _, g1, by rw [e2]; exact get_new_same _ _, g2, rfl, .inr (.inl (show (0 : Nat) ≠ 1 by decide))⟩)
      · rw [get_new _ (R.dom b1 l1 h1'), get_new _ (R.dom b2 l2 h2')]
        exact R.sep b1 l1 b2 l2 h1' h2' hne hrr
  · rcases PM.add_inv hb with ⟨rfl, rfl⟩ | ⟨hne, hb⟩
    · exact (Array.getElem?_eq_some_iff.1 hr).1
    · exact R.low b l' hb
  · rcases ro b l' hb with g | g
    · exact .inl g
    · exact .inr ⟨rfl, g⟩

/-- Types of plain data whose cells tile. -/
def tiles (P : Program) : Nat → List Field → Nat → Bool
  | o, [], n => o == n
  | o, f :: fs, n => f.offset == o && tiles P (o + P.cellsOf f.type) fs n
def plainT (P : Program) : Nat → TypeId → Bool
  | 0, _ => false
  | n + 1, t => match P.underlying t with
    | some .bool | some (.int _) | some .string => true
    | some (.slice e) => decide (0 < P.cellsOf e) && plainT P n e
    | some (.struct fs) => tiles P 0 fs.toList (P.cellsOf t) && fs.toList.all fun f => plainT P n f.type
    | _ => false
/-- Cells of plain data. -/
def TyR (P : Program) (h : Hp) : Nat → TypeId → List V → Prop
  | 0, _, _ => False
  | n + 1, t, vs => match P.underlying t with
    | some .bool => ∃ b, vs = [.bool b]
    | some (.int k) => ∃ x, vs = [.int k x] ∧ (Lit.int k x).wf = true
    | some .string => ∃ s, vs = [.str s] ∧ s.length ≤ maxLen
    | some (.slice e) => ∃ a c rows, vs = [.slice a rows.length (.ex c)] ∧ rows.length ≤ c ∧ (c ≤ maxLen ∧ c * P.bytesOf e ≤ reachBytes) ∧ Sl h (P.cellsOf e) a rows ∧ ∀ r ∈ rows, TyR P h n e r
    | some (.struct fs) => vs.length = P.cellsOf t ∧ ∀ f ∈ fs.toList, TyR P h n f.type ((vs.drop f.offset).take (P.cellsOf f.type))
    | _ => False
theorem TyR.grow {h' : Hp} (g : Grow h h') : ∀ {n : Nat} {t : TypeId} {vs : List V}, TyR P h n t vs → TyR P h' n t vs
  | 0, t, vs, k => k.elim
  | n + 1, t, vs, k => by
    unfold TyR at k ⊢
    split at k
    · exact k
    · exact k
    · exact k
    · obtain ⟨a, c, rows, k1, k2, k3, k4, k5⟩ := k
      exact ⟨a, c, rows, k1, k2, k3, k4.grow g, fun r hr => (k5 r hr).grow g⟩
    · exact ⟨k.1, fun f hf => (k.2 f hf).grow g⟩
    · exact k
theorem mapM_get {α β : Type} (f : α → Option β) : ∀ {l : List α} {m : List β}, l.mapM f = some m → l.length = m.length ∧ ∀ (i : Nat) (x : α), l[i]? = some x → ∃ y, m[i]? = some y ∧ f x = some y
  | [], m, h => by
    simp at h
    subst h
    exact ⟨rfl, fun i x hx => by simp at hx⟩
  | a :: l, m, h => by
    simp only [List.mapM_cons, Option.bind_eq_bind, Option.bind_eq_some_iff, Option.pure_def, Option.some.injEq] at h
    obtain ⟨b, hb, m', hm, rfl⟩ := h
    obtain ⟨h1, h2⟩ := mapM_get f hm
    refine ⟨by simp [h1], fun i x hx => ?_⟩
    cases i with
    | zero => simp at hx; subst hx; exact ⟨b, rfl, hb⟩
    | succ i => simp at hx; simpa using h2 i x hx

theorem weights_each {H : Type} : ∀ {ts : List TypeId} {ds : List (DataW H)} {i : Nat} {t : TypeId} {d : DataW H} {n : Nat}, ts[i]? = some t → ds[i]? = some d → n ∈ d.weights P t → n ∈ DataW.weightsEach P ts ds
  | [], _, i, t, d, n, h1, _, _ => by simp at h1
  | _ :: _, [], i, t, d, n, _, h2, _ => by simp at h2
  | t0 :: ts, d0 :: ds, 0, t, d, n, h1, h2, h3 => by
    simp at h1 h2
    subst h1 h2
    unfold DataW.weightsEach
    exact List.mem_append_left _ h3
  | t0 :: ts, d0 :: ds, i + 1, t, d, n, h1, h2, h3 => by
    unfold DataW.weightsEach
    exact List.mem_append_right _ (weights_each (i := i) (by simpa using h1) (by simpa using h2) h3)
theorem weights_all {H : Type} {e : TypeId} : ∀ {ds : List (DataW H)} {d : DataW H} {n : Nat}, d ∈ ds → n ∈ d.weights P e → n ∈ DataW.weightsAll P e ds
  | d0 :: ds, d, n, h1, h2 => by
    unfold DataW.weightsAll
    rcases List.mem_cons.1 h1 with rfl | h1
    · exact List.mem_append_left _ h2
    · exact List.mem_append_right _ (weights_all h1 h2)
/-- What was laid so far. -/
structure Inp (P : Program) (w : World) (μ : PM) (h : Hp) (μ' : PM) (h' : Hp) : Prop where
  rel : Rel P μ' h' w
  ro : ∀ r, Unw true μ' h' r
  le : μ.le μ'
  grow : Grow h h'
theorem Inp.trans {μ1 μ2 : PM} {h1 h2 : Hp} (a : Inp P w μ h μ1 h1) (b : Inp P w μ1 h1 μ2 h2) : Inp P w μ h μ2 h2 := ⟨b.rel, b.ro, a.le.trans b.le, a.grow.trans b.grow⟩

theorem cells_at {a : Addr} {n : Nat} {cs : List Value} (h : w.cells? 0 a n = some cs) (hn : 0 < n) : a.spot = none ∧ ∃ c e fz, w.heap[a.block]? = some (.cells c e fz) ∧ cs.length = n ∧ ∀ i, i < n → c[a.off + i]? = cs[i]? := by
  unfold World.cells? at h
  rw [if_pos (Nat.zero_le _)] at h
  obtain ⟨h1, h2⟩ := mapM_get _ h
  simp only [List.length_range] at h1
  have key : ∀ i, i < n → ∃ y, cs[i]? = some y ∧ w.cell? (a.add i) = some y := fun i hi => h2 i i (List.getElem?_range hi)
  obtain ⟨y, _, hy⟩ := key 0 hn
  have hadd : ∀ i, (a.add i).block = a.block ∧ ((a.add i).spot.isSome = false → (a.add i).off = a.off + i) := fun i => by
    unfold Addr.add
    split
    · rename_i e; subst e; exact ⟨rfl, fun _ => rfl⟩
    · exact ⟨rfl, fun _ => rfl⟩
  unfold World.cell? at hy
  rw [(hadd 0).1] at hy
  split at hy
  · rename_i c e fz hb
    split at hy
    · cases hy
    · rename_i hs
      have hsp : a.spot = none := by
        have : (a.add 0) = a := by unfold Addr.add; rw [if_pos rfl]
        rw [this] at hs
        cases hsp : a.spot with
        | none => rfl
        | some x => rw [hsp] at hs; exact absurd rfl hs
      refine ⟨hsp, c, e, fz, hb, h1.symm, fun i hi => ?_⟩
      obtain ⟨y, k1, k2⟩ := key i hi
      have hs2 : (a.add i).spot.isSome = false := by
        unfold Addr.add
        split
        · rw [hsp]; rfl
        · rfl
      unfold World.cell? at k2
      rw [(hadd i).1, hb] at k2
      simp only [hs2, Bool.false_eq_true, if_false] at k2
      rw [(hadd i).2 hs2] at k2
      rw [k1, k2]
  · cases hy
theorem flat_get {α : Type} {sz : Nat} : ∀ {css : List (List α)} (hw : ∀ r ∈ css, r.length = sz) {i q : Nat} (hi : i < css.length) (hq : q < sz), css.flatten[i * sz + q]? = css[i][q]?
  | r :: css, hw, 0, q, hi, hq => by
    simp only [Nat.zero_mul, Nat.zero_add, List.flatten_cons, List.getElem_cons_zero]
    rw [List.getElem?_append_left (by rw [hw r (List.mem_cons_self ..)]; exact hq)]
  | r :: css, hw, i + 1, q, hi, hq => by
    have hr := hw r (List.mem_cons_self ..)
    simp only [List.flatten_cons, List.getElem_cons_succ]
    rw [List.getElem?_append_right (by rw [hr, Nat.succ_mul]; omega), hr, show (i + 1) * sz + q - sz = i * sz + q by rw [Nat.succ_mul]; omega]
    exact flat_get (fun r hr => hw r (List.mem_cons_of_mem _ hr)) (by simpa using hi) hq
section
variable {H : Type} {enc : TypeId × Value → H} {held : Bool}
/-- What is to be shown of a type. -/
def InpOk {H : Type} (enc : TypeId × Value → H) (P : Program) (w : World) (held : Bool) (n : Nat) (t : TypeId) : Prop :=
  ∀ (fuel : Nat) (cs : List Value) (x : DataW H × List MemPlace), DataW.trod enc P w 0 (fun _ => true) held fuel t cs = some x → (∀ m ∈ x.1.weights P t, m ≤ reachBytes) → ∀ (μ : PM) (h : Hp), Rel P μ h w → (∀ r, Unw true μ h r) →
    ∃ (μ' : PM) (h' : Hp) (vs : List V), Inp P w μ h μ' h' ∧ VRs μ' vs cs ∧ TyR P h' n t vs
theorem inp_rows {n : Nat} {e : TypeId} {sz : Nat} {fuel : Nat} (ih : InpOk enc P w held n e) {a : Addr} : ∀ (l : List Nat) (ys : List (DataW H × List MemPlace)),
    (l.mapM fun i => (w.cells? 0 (a.add (i * sz)) sz).bind (DataW.trod enc P w 0 (fun _ => true) held fuel e)) = some ys → (∀ y ∈ ys, ∀ m ∈ y.1.weights P e, m ≤ reachBytes) → ∀ (μ : PM) (h : Hp), Rel P μ h w → (∀ r, Unw true μ h r) →
    ∃ (μ' : PM) (h' : Hp) (rows : List (List V)) (css : List (List Value)), Inp P w μ h μ' h' ∧ css.length = l.length ∧ (∀ (k i : Nat), l[k]? = some i → ∃ cs, css[k]? = some cs ∧ w.cells? 0 (a.add (i * sz)) sz = some cs) ∧ rows.length = l.length ∧
      (∀ (k : Nat) (r : List V) (cs : List Value), rows[k]? = some r → css[k]? = some cs → r.length = cs.length) ∧ VRs μ' rows.flatten css.flatten ∧ ∀ r ∈ rows, TyR P h' n e r
  | [], ys, hm, hwt, μ, h, R, hu => ⟨μ, h, [], [], ⟨R, hu, .refl _, .refl _⟩, rfl, fun k i hk => by simp at hk, rfl, fun k r cs hk => by simp at hk, .nil, fun r hr => by cases hr⟩
  | i :: l, ys, hm, hwt, μ, h, R, hu => by
    simp only [List.mapM_cons, Option.bind_eq_bind, Option.bind_eq_some_iff, Option.pure_def, Option.some.injEq] at hm
    obtain ⟨y, ⟨cs, hcs, hy⟩, ys', hm, rfl⟩ := hm
    obtain ⟨μ1, h1, vs, k1, k2, k3⟩ := ih fuel cs y hy (hwt y (List.mem_cons_self ..)) μ h R hu
    obtain ⟨μ2, h2, rows, css, q1, q2, q3, q4, q5, q6, q7⟩ := inp_rows ih l ys' hm (fun y hy => hwt y (List.mem_cons_of_mem _ hy)) μ1 h1 k1.rel k1.ro
    refine ⟨μ2, h2, vs :: rows, cs :: css, k1.trans q1, by simp [q2], fun k j hk => ?_, by simp [q4], fun k r cs' hr hc => ?_, ?_, fun r hr => ?_⟩
    · cases k with
      | zero => simp at hk; subst hk; exact ⟨cs, rfl, hcs⟩
      | succ k => simp at hk; simpa using q3 k j hk
    · cases k with
      | zero => simp at hr hc; subst hr; subst hc; exact k2.length
      | succ k => simp at hr hc; exact q5 k r cs' hr hc
    · simp only [List.flatten_cons]; exact (k2.mono q1.le).append q6
    · rcases List.mem_cons.1 hr with rfl | hr
      · exact k3.grow q1.grow
      · exact q7 r hr
theorem inp_fields {n : Nat} {fuel : Nat} {cs : List Value} : ∀ (fs : List Field) (o : Nat) (ys : List (DataW H × List MemPlace)), tiles P o fs cs.length = true → o ≤ cs.length → (∀ f ∈ fs, InpOk enc P w held n f.type) →
    (fs.mapM fun f => DataW.trod enc P w 0 (fun _ => true) held fuel f.type ((cs.drop f.offset).take (P.cellsOf f.type))) = some ys → (∀ (i : Nat) (f : Field) (y : DataW H × List MemPlace), fs[i]? = some f → ys[i]? = some y → ∀ m ∈ y.1.weights P f.type, m ≤ reachBytes) → ∀ (μ : PM) (h : Hp), Rel P μ h w → (∀ r, Unw true μ h r) →
    ∃ (μ' : PM) (h' : Hp) (vs : List V), Inp P w μ h μ' h' ∧ VRs μ' vs (cs.drop o) ∧ ∀ f ∈ fs, o ≤ f.offset ∧ TyR P h' n f.type ((vs.drop (f.offset - o)).take (P.cellsOf f.type))
  | [], o, ys, ht, ho, ih, hm, hwt, μ, h, R, hu => by
    simp only [tiles, beq_iff_eq] at ht
    subst ht
    exact ⟨μ, h, [], ⟨R, hu, .refl _, .refl _⟩, by rw [List.drop_length]; exact .nil, fun f hf => by cases hf⟩
  | f :: fs, o, ys, ht, ho, ih, hm, hwt, μ, h, R, hu => by
    simp only [tiles, Bool.and_eq_true, beq_iff_eq] at ht
    obtain ⟨rfl, ht⟩ := ht
    simp only [List.mapM_cons, Option.bind_eq_bind, Option.bind_eq_some_iff, Option.pure_def, Option.some.injEq] at hm
    obtain ⟨y, hy, ys', hm, rfl⟩ := hm
    have hle : f.offset + P.cellsOf f.type ≤ cs.length := by
      clear hm ih hy hwt
      generalize f.offset + P.cellsOf f.type = p at ht
      induction fs generalizing p with
      | nil => simp only [tiles, beq_iff_eq] at ht; omega
      | cons g fs ihf =>
        simp only [tiles, Bool.and_eq_true, beq_iff_eq] at ht
        have := ihf _ ht.2
        omega
    obtain ⟨μ1, h1, v1, k1, k2, k3⟩ := ih f (List.mem_cons_self ..) fuel _ y hy (hwt 0 f y rfl rfl) μ h R hu
    obtain ⟨μ2, h2, v2, q1, q2, q3⟩ := inp_fields fs (f.offset + P.cellsOf f.type) ys' ht hle (fun g hg => ih g (List.mem_cons_of_mem _ hg)) hm (fun i f y h1 h2 => hwt (i + 1) f y (by simpa using h1) (by simpa using h2)) μ1 h1 k1.rel k1.ro
    have hl1 : v1.length = P.cellsOf f.type := by rw [k2.length, List.length_take, List.length_drop]; omega
    refine ⟨μ2, h2, v1 ++ v2, k1.trans q1, ?_, fun g hg => ?_⟩
    · have := (k2.mono q1.le).append q2
      rw [← List.drop_drop] at this
      rwa [List.take_append_drop] at this
    · rcases List.mem_cons.1 hg with rfl | hg
      · refine ⟨Nat.le_refl _, ?_⟩
        rw [Nat.sub_self, List.drop_zero, List.take_append_of_le_length (by omega), List.take_of_length_le (by omega)]
        exact k3.grow q1.grow
      · obtain ⟨g1, g2⟩ := q3 g hg
        refine ⟨by omega, ?_⟩
        rw [List.drop_append, List.drop_eq_nil_of_le (by omega), List.nil_append, hl1, show g.offset - f.offset - P.cellsOf f.type = g.offset - (f.offset + P.cellsOf f.type) by omega]
        exact g2
theorem inp_one : ∀ (n : Nat) (t : TypeId), plainT P n t = true → InpOk enc P w held n t
  | 0, t, hp => by cases hp
  | n + 1, t, hp => by
    intro fuel cs x hx hwt μ h R hu
    cases fuel with
    | zero => unfold DataW.trod at hx; cases hx
    | succ fuel =>
    unfold plainT at hp
    unfold DataW.trod at hx
    unfold TyR
    cases ht : P.underlying t with
    | none => rw [ht] at hp; cases hp
    | some td =>
      rw [ht] at hp hx
      cases td with
      | bool =>
        cases cs with
        | nil => simp at hx
        | cons v l =>
          cases l with
          | cons _ _ => cases v <;> simp at hx
          | nil =>
            cases v <;> try (simp at hx; done)
            exact ⟨μ, h, _, ⟨R, hu, .refl _, .refl _⟩, .single (.bool _), _, rfl⟩
      | int k =>
        cases cs with
        | nil => simp at hx
        | cons v l =>
          cases l with
          | cons _ _ => cases v <;> simp at hx
          | nil =>
            cases v <;> try (simp at hx; done)
            dsimp only at hx
            split at hx
            · rename_i hk
              obtain ⟨rfl, hk⟩ := hk
              exact ⟨μ, h, _, ⟨R, hu, .refl _, .refl _⟩, .single (.int _ _), _, rfl, hk⟩
            · cases hx
      | string =>
        cases cs with
        | nil => simp at hx
        | cons v l =>
          cases l with
          | cons _ _ => cases v <;> simp at hx
          | nil =>
            cases v <;> try (simp at hx; done)
            rename_i s
            dsimp only at hx
            split at hx
            · rename_i hk
              refine ⟨μ, h, [.str s.data.toList], ⟨R, hu, .refl _, .refl _⟩, .single ?_, _, rfl, ?_⟩
              · have := VR.str (μ := μ) s.data.toList
                simpa using this
              · simpa using hk
            · cases hx
      | slice e =>
        simp only [Bool.and_eq_true, decide_eq_true_eq] at hp
        obtain ⟨hsz, hpe⟩ := hp
        have ih := inp_one n e hpe
        cases cs with
        | nil => simp at hx
        | cons v l =>
          cases l with
          | cons _ _ => cases v <;> simp at hx
          | nil =>
            cases v <;> try (simp at hx; done)
            rename_i a len cap
            cases a with
            | none =>
              have h0 : len = 0 ∧ cap = 0 := by
                cases len <;> cases cap <;> simp at hx ⊢
              obtain ⟨rfl, rfl⟩ := h0
              exact ⟨μ, h, [.slice none 0 (.ex 0)], ⟨R, hu, .refl _, .refl _⟩, .single (.sliceN (Nat.le_refl 0)), none, 0, [], rfl, Nat.le_refl _, ⟨Nat.zero_le _, by rw [Nat.zero_mul]; exact Nat.zero_le _⟩, ⟨by simp, .inl rfl⟩, by simp⟩
            | some a =>
              dsimp only at hx
              split at hx
              · rename_i hcond
                obtain ⟨_, hl, hm⟩ := hcond
                simp only [Option.bind_eq_some_iff, Option.map_eq_some_iff, if_true] at hx
                obtain ⟨ys, hys, rest, hrest, hxe⟩ := hx
                obtain ⟨lenys, _⟩ := mapM_get _ hys
                obtain ⟨lenrest, _⟩ := mapM_get _ hrest
                simp only [List.length_range] at lenys lenrest
                have hwx : x.1 = .slice (ys.map (·.1)) (rest.map (·.1)) := by rw [← hxe]
                have hbytes : cap * P.bytesOf e ≤ reachBytes := by
                  have := hwt ((ys.length + rest.length) * P.bytesOf e) (by
                    rw [hwx]
                    unfold DataW.weights
                    rw [ht]
                    simp)
                  rwa [← lenys, ← lenrest, show len + (cap - len) = cap by omega] at this
                have hwy : ∀ y ∈ ys, ∀ m ∈ y.1.weights P e, m ≤ reachBytes := fun y hy m hm => hwt m (by
                  rw [hwx]
                  unfold DataW.weights
                  rw [ht]
                  exact List.mem_cons_of_mem _ (List.mem_append_left _ (weights_all (List.mem_map.2 ⟨y, hy, rfl⟩) hm)))
                obtain ⟨μ1, h1, rows, css, k1, k2, k3, k4, k5, k6, k7⟩ := inp_rows ih (List.range len) ys hys hwy μ h R hu
                rw [List.length_range] at k2 k4
                by_cases hc : cap = 0
                · subst hc
                  obtain rfl : len = 0 := by omega
                  exact ⟨μ, h, [.slice (some (0, 0)) 0 (.ex 0)], ⟨R, hu, .refl _, .refl _⟩, .single (.slice (R.glob 0 (Nat.zero_le _)) rfl (Nat.le_refl _) (fun hne => absurd rfl hne)), some (0, 0), 0, [], rfl, Nat.le_refl _, ⟨Nat.zero_le _, by rw [Nat.zero_mul]; exact Nat.zero_le _⟩, ⟨by simp, .inl rfl⟩, by simp⟩
                · have hadd0 : a.add 0 = a := by unfold Addr.add; rw [if_pos rfl]
                  have first : a.spot = none ∧ ∃ c e fz, w.heap[a.block]? = some (.cells c e fz) := by
                    by_cases hl0 : len = 0
                    · subst hl0
                      obtain ⟨_, g⟩ := mapM_get _ hrest
                      obtain ⟨y, _, hy⟩ := g 0 0 (List.getElem?_range (by omega))
                      simp only [Option.bind_eq_some_iff] at hy
                      obtain ⟨cs0, hcs0, _⟩ := hy
                      simp only [Nat.zero_add, Nat.zero_mul, hadd0] at hcs0
                      obtain ⟨q1, c, e', fz, q2, _⟩ := cells_at hcs0 hsz
                      exact ⟨q1, c, e', fz, q2⟩
                    · obtain ⟨cs0, _, hcs0⟩ := k3 0 0 (List.getElem?_range (by omega))
                      simp only [Nat.zero_mul, hadd0] at hcs0
                      obtain ⟨q1, c, e', fz, q2, _⟩ := cells_at hcs0 hsz
                      exact ⟨q1, c, e', fz, q2⟩
                  obtain ⟨hsp, c, e', fz, hb⟩ := first
                  have row : ∀ i, i < len → ∃ cs, css[i]? = some cs ∧ cs.length = P.cellsOf e ∧ ∀ q, q < P.cellsOf e → c[a.off + (i * P.cellsOf e + q)]? = cs[q]? := fun i hi => by
                    obtain ⟨cs, q1, q2⟩ := k3 i i (List.getElem?_range hi)
                    obtain ⟨z1, c2, e2, fz2, z2, z3, z4⟩ := cells_at q2 hsz
                    have hblk : (a.add (i * P.cellsOf e)).block = a.block := by unfold Addr.add; split <;> rfl
                    have hoff : (a.add (i * P.cellsOf e)).off = a.off + i * P.cellsOf e := by
                      unfold Addr.add
                      split
                      · rename_i e0; rw [e0]; rfl
                      · rfl
                    rw [hblk, hb] at z2
                    cases z2
                    refine ⟨cs, q1, z3, fun q hq => ?_⟩
                    rw [← z4 q hq, hoff]
                    congr 1
                    omega
                  have hcss : ∀ r ∈ css, r.length = P.cellsOf e := fun r hr => by
                    obtain ⟨i, hi, rfl⟩ := List.getElem_of_mem hr
                    obtain ⟨cs, q1, q2, _⟩ := row i (by omega)
                    rw [List.getElem?_eq_getElem hi] at q1
                    cases q1
                    exact q2
                  have hrows : ∀ r ∈ rows, r.length = P.cellsOf e := fun r hr => by
                    obtain ⟨i, hi, rfl⟩ := List.getElem_of_mem hr
                    obtain ⟨cs, q1, q2, _⟩ := row i (by omega)
                    rw [k5 i _ cs (List.getElem?_eq_getElem hi) q1, q2]
                  have hflat : CellR μ1 rows.flatten c a.off := fun j v hv => by
                    obtain ⟨r, hr, hvr⟩ := k6.get hv
                    refine ⟨r, ?_, hvr⟩
                    have hj := (List.getElem?_eq_some_iff.1 hr).1
                    have hlenf : css.flatten.length = len * P.cellsOf e := by
                      rw [← k2]
                      clear k3 k5 k6 hr hj row
                      clear k2
                      induction css with
                      | nil => simp
                      | cons r css ihc => simp only [List.flatten_cons, List.length_append, List.length_cons, hcss r (List.mem_cons_self ..), ihc (fun x hx => hcss x (List.mem_cons_of_mem _ hx)), Nat.succ_mul]; omega
                    have hjl : j / P.cellsOf e < len := by
                      rw [hlenf] at hj
                      exact Nat.div_lt_of_lt_mul (by rw [Nat.mul_comm]; exact hj)
                    have hjm := Nat.mod_lt j hsz
                    have hje : j / P.cellsOf e * P.cellsOf e + j % P.cellsOf e = j := by rw [Nat.mul_comm]; exact Nat.div_add_mod _ _
                    obtain ⟨cs, q1, q2, q3⟩ := row _ hjl
                    have := flat_get hcss (i := j / P.cellsOf e) (q := j % P.cellsOf e) (by omega) hjm
                    rw [hje, hr] at this
                    rw [← hje, q3 _ hjm, this]
                    have q4 := (List.getElem?_eq_some_iff.1 q1).2
                    rw [q4]
                  obtain ⟨R2, u2⟩ := new_ro k1.rel k1.ro hb hflat
                  refine ⟨μ1.add h1.next ⟨a.block, a.off, 0⟩, h1.new (inB rows.flatten), [.slice (some (h1.next, 0)) len (.ex cap)], ⟨R2, u2, k1.le.trans (PM.le_add _ k1.rel.dom), k1.grow.trans (Grow.new _ _)⟩,
                    .single (.slice (PM.add_same _ _ _) rfl hl (fun _ => ?_)), some (h1.next, 0), cap, rows, by rw [k4], by omega, ⟨hm, hbytes⟩, ⟨hrows, .inr ⟨_, _, rfl, ?_⟩⟩, fun r hr => (k7 r hr).grow (Grow.new _ _)⟩
                  · cases a; simp only at hsp; subst hsp; rfl
                  · exact ⟨⟨_, get_new_same _ _, by simp, by rw [List.drop_zero, List.take_length]⟩, Nat.lt_succ_self _⟩
              · cases hx
      | struct fs =>
        simp only [Bool.and_eq_true, List.all_eq_true] at hp
        dsimp only at hx
        split at hx
        · rename_i hlen
          obtain ⟨ys, hys, hxe⟩ := Option.map_eq_some_iff.1 hx
          have hwf : ∀ (i : Nat) (f : Field) (y : DataW H × List MemPlace), fs.toList[i]? = some f → ys[i]? = some y → ∀ m ∈ y.1.weights P f.type, m ≤ reachBytes := fun i f y h1 h2 m hm => hwt m (by
            rw [← hxe]
            unfold DataW.weights
            rw [ht]
            exact weights_each (i := i) (t := f.type) (d := y.1) (by rw [List.getElem?_map, h1]; rfl) (by rw [List.getElem?_map, h2]; rfl) hm)
          obtain ⟨μ1, h1, vs, k1, k2, k3⟩ := inp_fields fs.toList 0 ys (by rw [hlen]; exact hp.1) (Nat.zero_le _) (fun f hf => inp_one n f.type (hp.2 f hf)) hys hwf μ h R hu
          refine ⟨μ1, h1, vs, k1, by simpa using k2, by rw [k2.length]; simp [hlen], fun f hf => ?_⟩
          have := (k3 f hf).2
          simpa using this
        · cases hx
      | _ => cases hp
end
end Go.Vm
