/- What reads memory and turns nothing. -/
import Derived.Test.YtbckpoddpghdcaaGreatDoorVmHeap
import Derived.MapKept
import Derived.LaidEql
import Derived.Laws.BytesString
namespace Go.Vm
open Go.RowKit
set_option linter.unusedSimpArgs false
set_option linter.unusedVariables false

variable {P : Program} {μ : PM} {h : Hp} {w : World} {F : Frm} {a : Act}

/-! ### Keys -/
theorem eqD_now {d : TypeDesc} {x y : V} {x' y' : Value} {b : Bool} (h : eqD d x y = some b) (hx : VR μ x x') (hy : VR μ y y') : Instr.sameNow d x' y' = some b := by
  unfold eqD at h
  split at h
  · cases hx; cases hy; simpa [Instr.sameNow] using h
  · cases hx; cases hy; simpa [Instr.sameNow] using h
  · cases hx; cases hy
    simp only [Option.some.injEq] at h
    subst h
    simp only [Instr.sameNow, mk_beq]
  · cases h
theorem checkKey_fields (em : Bool) (n : Nat) : ∀ (fs : List Field) (i : Nat) (l m : List V) (xs ys : List Value) (b : Bool) (A : Array Value), eqFs P fs i l m = some b → VRs μ l xs → (∀ j v, xs[j]? = some v → A[i + j]? = some v) →
    Yields P (forIn fs PUnit.unit fun f _ => (do
      if f.name ≠ "_" then Instr.checkKey em (n + 1) f.type (← part f.type A f.offset)
      Pure.pure (ForInStep.yield PUnit.unit) : Sem (ForInStep PUnit))) PUnit.unit
  | [], i, l, m, xs, ys, b, A, _, _, _ => by simp only [List.forIn_nil]; exact .pure _
  | f :: fs, i, [], m, xs, ys, b, A, he, _, _ => by simp [eqFs] at he
  | f :: fs, i, x :: l, [], xs, ys, b, A, he, _, _ => by simp [eqFs] at he
  | f :: fs, i, x :: l, y :: m, xs, ys, b, A, he, hx, hA => by
    cases hx with
    | cons h0 ht =>
      rename_i x' xs'
      simp only [eqFs] at he
      split at he
      · rename_i hcond
        simp only [Bool.and_eq_true, bne_iff_ne, ne_eq, beq_iff_eq] at hcond
        split at he
        · rename_i d hd
          split at he
          · rename_i b1 b2 e1 e2
            have hp := eqD_plain e1
            have hn : isAggT P f.type = false := by
              unfold isAggT
              rw [hd]
              cases d <;> simp_all [plainD]
            have hcell : A[f.offset]? = some x' := by rw [hcond.2]; exact hA 0 x' rfl
            have h1 : Yields P (part f.type A f.offset) x' := part_cell hd hn hcell
            have h2 : Yields P (Instr.checkKey em (n + 1) f.type x') () := by
              unfold Instr.checkKey
              refine (yields_underlying hd).bind ?_
              cases d <;> simp [plainD] at hp <;> (cases h0 <;> exact .pure _)
            simp only [List.forIn_cons]
            refine Yields.bind (r := ForInStep.yield PUnit.unit) ?_ (checkKey_fields em n fs (i + 1) l m xs' [] b2 A e2 ht (fun j v hj => by have := hA (j + 1) v (by simpa using hj); rwa [show i + 1 + j = i + (j + 1) by omega]))
            rw [if_pos hcond.1]
            exact h1.bind (h2.bind (.pure _))
          · cases he
        · cases he
      · cases he
theorem checkKey_sound {t : TypeId} {k : V} {k' : Value} (em : Bool) (n : Nat) (h : keyOk P t k = true) (hk : VR μ k k') : Yields P (Instr.checkKey em (n + 2) t k') () := by
  unfold keyOk at h
  split at h
  · rename_i ht
    unfold Instr.checkKey
    refine (yields_underlying ht).bind ?_
    cases hk <;> exact .pure _
  · rename_i ht
    unfold Instr.checkKey
    refine (yields_underlying ht).bind ?_
    cases hk <;> exact .pure _
  · rename_i ht
    unfold Instr.checkKey
    refine (yields_underlying ht).bind ?_
    cases hk <;> exact .pure _
  · rename_i fs l ht
    cases hk with
    | @agg _ l' hl =>
      simp only [Bool.and_eq_true, Option.isSome_iff_exists] at h
      obtain ⟨⟨b, hb⟩, _⟩ := h
      unfold Instr.checkKey
      refine (yields_underlying ht).bind ?_
      have := checkKey_fields (P := P) em n fs.toList 0 l l l' [] b l'.toArray hb hl (fun j v hj => by simpa using hj)
      simp only [Array.forIn_toList] at this
      exact this.bind (.pure _)
  · cases h

theorem keyEq_ask {t : TypeId} {x y : V} {x' y' : Value} {b : Bool} (h : keyEq P t x y = some b) (hx : VR μ x x') (hy : VR μ y y') : Yields P (Op.equal t x' y') b := by
  unfold keyEq at h
  unfold Op.equal
  split at h
  · cases hx; cases hy; exact eqAgg_sound 9998 h (by assumption) (by assumption)
  · cases hx; cases hy; exact eqAgg_sound 9998 h (by assumption) (by assumption)
  · rename_i ht _ _; exact (eqD_sound 9999 ht h hx hy).1
  · cases h
theorem keyEq_now {t : TypeId} {d : TypeDesc} (ht : P.underlying t = some d) (hp : plainD d = true) {x y : V} {x' y' : Value} {b : Bool} (h : keyEq P t x y = some b) (hx : VR μ x x') (hy : VR μ y y') : Instr.sameNow d x' y' = some b := by
  unfold keyEq at h
  rw [ht] at h
  cases d <;> simp [plainD] at hp <;> exact eqD_now h hx hy
/-- What is found: its place, its elder key, its value. -/
def FoundR (μ : PM) : Option (Nat × V × V) → Option (Nat × Value) → List MapEntry → Nat → Prop
  | none, none, _, _ => True
  | some (i, k, v), some (i', v'), es, n => i' = i ∧ n ≤ i ∧ VR μ v v' ∧ ∃ e, es[i - n]? = some e ∧ VR μ k e.key
  | _, _, _, _ => False
theorem findNow_sound {t : TypeId} {d : TypeDesc} (ht : P.underlying t = some d) (hp : plainD d = true) {k : V} {k' : Value} (hk : VR μ k k') : ∀ (l : List (V × V × Nat)) (m : List MapEntry) (n : Nat) (r : Option (Nat × V × V)), findK P t k l n = some r → EntR μ l m →
    ∃ r', Instr.findNow d k' m n = some r' ∧ FoundR μ r r' m n
  | [], [], n, r, h, _ => by
    simp only [findK, Option.some.injEq] at h
    subst h
    exact ⟨none, rfl, trivial⟩
  | (k2, v2, c) :: l, e :: m, n, r, h, hE => by
    obtain ⟨h1, h2, _, h4⟩ := hE
    simp only [findK] at h
    split at h
    · rename_i he
      simp only [Option.some.injEq] at h
      subst h
      refine ⟨some (n, e.val), by simp only [Instr.findNow, keyEq_now ht hp he hk h1], rfl, Nat.le_refl _, h2, e, by simp, h1⟩
    · rename_i he
      obtain ⟨r', g1, g2⟩ := findNow_sound ht hp hk l m (n + 1) r h h4
      refine ⟨r', by simp only [Instr.findNow, keyEq_now ht hp he hk h1]; exact g1, ?_⟩
      cases r with
      | none => cases r' with
        | none => trivial
        | some y => exact g2
      | some x => cases r' with
        | none => exact g2
        | some y =>
          obtain ⟨q1, q2, q3, e2, q4, q5⟩ := g2
          exact ⟨q1, by omega, q3, e2, by rw [show x.1 - n = x.1 - (n + 1) + 1 by omega]; exact q4, q5⟩
    · cases h
  | [], _ :: _, _, _, _, hE => hE.elim
  | (_, _, _) :: _, [], _, _, _, hE => hE.elim
theorem findAsking_sound {t : TypeId} {k : V} {k' : Value} (hk : VR μ k k') : ∀ (l : List (V × V × Nat)) (m : List MapEntry) (n : Nat) (r : Option (Nat × V × V)), findK P t k l n = some r → EntR μ l m →
    ∃ r', Yields P (Instr.findAsking t k' m n) r' ∧ FoundR μ r r' m n
  | [], [], n, r, h, _ => by
    simp only [findK, Option.some.injEq] at h
    subst h
    exact ⟨none, .pure _, trivial⟩
  | (k2, v2, c) :: l, e :: m, n, r, h, hE => by
    obtain ⟨h1, h2, _, h4⟩ := hE
    simp only [findK] at h
    split at h
    · rename_i he
      simp only [Option.some.injEq] at h
      subst h
      refine ⟨some (n, e.val), ?_, rfl, Nat.le_refl _, h2, e, by simp, h1⟩
      unfold Instr.findAsking
      exact (keyEq_ask he hk h1).bind (.pure _)
    · rename_i he
      obtain ⟨r', g1, g2⟩ := findAsking_sound hk l m (n + 1) r h h4
      refine ⟨r', ?_, ?_⟩
      · unfold Instr.findAsking
        exact (keyEq_ask he hk h1).bind g1
      · cases r with
        | none => cases r' with
          | none => trivial
          | some y => exact g2
        | some x => cases r' with
          | none => exact g2
          | some y =>
            obtain ⟨q1, q2, q3, e2, q4, q5⟩ := g2
            exact ⟨q1, by omega, q3, e2, by rw [show x.1 - n = x.1 - (n + 1) + 1 by omega]; exact q4, q5⟩
    · cases h
  | [], _ :: _, _, _, _, hE => hE.elim
  | (_, _, _) :: _, [], _, _, _, hE => hE.elim
theorem findKey_sound {t : TypeId} {k : V} {k' : Value} (hok : keyOk P t k = true) (hk : VR μ k k') {l : List (V × V × Nat)} {m : List MapEntry} {r : Option (Nat × V × V)} (h : findK P t k l 0 = some r) (hE : EntR μ l m) :
    ∃ r', Yields P (Instr.findKey t k' m) r' ∧ FoundR μ r r' m 0 := by
  have plain : ∀ d, P.underlying t = some d → plainD d = true → ∃ r', Yields P (Instr.findKey t k' m) r' ∧ FoundR μ r r' m 0 := fun d ht hp => by
    obtain ⟨r', g1, g2⟩ := findNow_sound ht hp hk l m 0 r h hE
    refine ⟨r', ?_, g2⟩
    unfold Instr.findKey
    refine (yields_underlying ht).bind ?_
    rw [g1]
    exact .pure _
  unfold keyOk at hok
  split at hok
  · rename_i ht; exact plain _ ht rfl
  · rename_i ht; exact plain _ ht rfl
  · rename_i ht; exact plain _ ht rfl
  · rename_i fs q ht
    cases m with
    | nil =>
      cases l with
      | nil =>
        simp only [findK, Option.some.injEq] at h
        subst h
        refine ⟨none, ?_, trivial⟩
        unfold Instr.findKey
        exact (yields_underlying ht).bind (.pure _)
      | cons x l => exact hE.elim
    | cons e m =>
      obtain ⟨r', g1, g2⟩ := findAsking_sound hk l (e :: m) 0 r h hE
      refine ⟨r', ?_, g2⟩
      unfold Instr.findKey
      refine (yields_underlying ht).bind ?_
      simp only [Instr.findNow, Instr.sameNow]
      exact g1
  · cases hok

theorem lookup_sound (R : Rel P μ h w) {t : TypeId} {m k v : V} {m' k' : Value} {ok : Bool} {h' : Hp} (hm : VR μ m m') (hk : VR μ k k') (hl : lookupV P h t m k ok = .val v h') :
    ∃ r, VR μ v r ∧ (Instr.lookup t m' k' ok).run P w = .ok r w := by
  have pair : ∀ {z : V} {z' : Value} (b : Bool), VR μ z z' → VR μ (if ok then .tuple [z, .bool b] else z) (if ok then .tuple #[z', .bool b] else z') := fun b hz => by
    cases ok
    · exact hz
    · exact .tuple (.cons hz (.cons (.bool b) .nil))
  unfold lookupV at hl
  split at hl
  · rename_i kt et ht
    split at hl
    · cases hl
    · rename_i hok
      simp only [Bool.not_eq_true, Bool.not_eq_false'] at hok
      split at hl
      · unfold orBad at hl
        split at hl
        · rename_i z hz
          obtain ⟨z', hz1, hz2⟩ := zero_sound (μ := μ) hz
          injection hl with h1 h2
          subst h1
          cases hm
          refine ⟨_, pair false hz1, ?_⟩
          have hfk : Yields P (Instr.findKey kt k' []) none := by
            obtain ⟨r', g1, g2⟩ := findKey_sound hok hk (l := []) (m := []) (r := none) rfl trivial
            cases r' with
            | none => exact g1
            | some y => exact g2.elim
          simp [Instr.lookup, run_underlying ht, checkKey_sound true 9998 hok hk w, hfk w, hz2 w, Result.andThen]
        · cases hl
      · rename_i r
        split at hl
        · rename_i es c hg
          cases hm with
          | map hb =>
            rename_i l
            obtain ⟨o, ho, hR⟩ := R.ob r l hb
            rw [hg] at ho
            cases ho
            obtain ⟨A, hA, hE⟩ := hR
            have hit : ∀ {i : Nat} {y : Value}, Yields P (Instr.findKey kt k' A.toList) (some (i, y)) → (Instr.lookup t (.map (some l.r)) k' ok).run P w = .ok (if ok then .tuple #[y, .bool true] else y) w := fun hf => by
              simp [Instr.lookup, run_underlying ht, MapKept.run_getObj_map hA, checkKey_sound _ 9998 hok hk w, hf w, Result.andThen]
            have miss : ∀ {z : Value}, Yields P (Instr.findKey kt k' A.toList) none → Yields P (zeroValue et) z → (Instr.lookup t (.map (some l.r)) k' ok).run P w = .ok (if ok then .tuple #[z, .bool false] else z) w := fun hf hz => by
              simp [Instr.lookup, run_underlying ht, MapKept.run_getObj_map hA, checkKey_sound _ 9998 hok hk w, hf w, hz w, Result.andThen]
            split at hl
            · rename_i i kk vv hf
              injection hl with h1 h2
              subst h1
              obtain ⟨r', g1, g2⟩ := findKey_sound hok hk hf hE
              cases r' with
              | none => exact g2.elim
              | some p =>
                exact ⟨_, pair true g2.2.2.1, hit g1⟩
            · rename_i hf
              unfold orBad at hl
              split at hl
              · rename_i z hz
                obtain ⟨z', hz1, hz2⟩ := zero_sound (μ := μ) hz
                injection hl with h1 h2
                subst h1
                obtain ⟨r', g1, g2⟩ := findKey_sound hok hk hf hE
                cases r' with
                | some p => exact g2.elim
                | none => exact ⟨_, pair false hz1, miss g1 hz2⟩
              · cases hl
            · cases hl
        · cases hl
      · cases hl
  · cases hl

/-! ### Pointers to two blocks -/
theorem addr_beq' (r x y : Nat) : ((⟨r, x, none⟩ : Addr) == ⟨r, y, none⟩) = (x == y) := by
  have := addr_beq r 0 x y
  simpa using this
theorem run_sameAddr_apart {x y : Addr} {cx cy : Array Value} {tx ty : TypeId} {fx fy : Nat × Nat} (hne : x.block ≠ y.block) (hx : w.heap[x.block]? = some (.cells cx tx fx)) (hy : w.heap[y.block]? = some (.cells cy ty fy)) (gx : fx.2 ≤ fx.1) (gy : fy.2 ≤ fy.1) :
    (sameAddr x y).run P w = .ok false w := by
  have f1 : ∀ o, (decide (fx.1 ≤ o) && decide (o < fx.2)) = false := fun o => by simp; omega
  have f2 : ∀ o, (decide (fy.1 ≤ o) && decide (o < fy.2)) = false := fun o => by simp; omega
  simp [sameAddr, hne, World.frozen?, hx, hy, noView, viewAt, World.shape?, mayBeOne, stringish, f1, f2]
theorem famFree_sound (R : Rel P μ h w) {b o : Nat} {l : Loc} (hb : μ b = some l) (hf : famFree h b o = true) : ∃ x c e fz, h.get b = some (.cells x) ∧ o < x.l.length ∧ w.heap[l.r]? = some (.cells c e fz) ∧ fz.2 ≤ fz.1 := by
  unfold famFree at hf
  obtain ⟨ob, ho, hR⟩ := R.ob b l hb
  rw [ho] at hf
  cases ob <;> simp at hf
  rename_i x
  obtain ⟨c, e, fz, h1, _, h3, _, h4, _, h5⟩ := hR
  obtain ⟨⟨hk, hz⟩, hlt⟩ := hf
  refine ⟨x, c, e, fz, ho, hlt, h1, ?_⟩
  cases hrw : x.rw with
  | false => exact h5 hrw hz
  | true =>
    rw [hrw] at hk
    simp only [Bool.true_eq_false, or_false] at hk
    refine Nat.le_of_not_lt fun hlt => ?_
    have := h3 hrw fz.1 (Nat.le_refl _) hlt (.inl hk) (by have := (h4 hk hrw).1; omega)
    omega
/-- Two pointers into two virtual blocks differ. -/
theorem ptr_apart (R : Rel P μ h w) {b1 b2 o1 o2 : Nat} {l1 l2 : Loc} (hb1 : μ b1 = some l1) (hb2 : μ b2 = some l2) (hne : b1 ≠ b2) (hf1 : famFree h b1 o1 = true) (hf2 : famFree h b2 o2 = true) :
    (sameAddr ⟨l1.r, l1.off + o1, none⟩ ⟨l2.r, l2.off + o2, none⟩).run P w = .ok false w := by
  obtain ⟨x1, c1, e1, f1, g1, g2, g3, g4⟩ := famFree_sound R hb1 hf1
  obtain ⟨x2, c2, e2, f2, k1, k2, k3, k4⟩ := famFree_sound R hb2 hf2
  by_cases hr : l1.r = l2.r
  · rcases R.sep b1 l1 b2 l2 hb1 hb2 hne hr with hd | hd | ⟨y1, y2, m1, m2, _, _, m3⟩
    · rw [g1] at hd; cases hd
    · rw [k1] at hd; cases hd
    · rw [g1] at m1; cases m1
      rw [k1] at m2; cases m2
      have := m3 o1 o2 g2 k2
      rw [yields_samePtr (P := P) (x := ⟨l1.r, l1.off + o1, none⟩) (y := ⟨l2.r, l2.off + o2, none⟩) hr w]
      have : ((⟨l1.r, l1.off + o1, none⟩ : Addr) == ⟨l2.r, l2.off + o2, none⟩) = false := by
        rw [← hr]
        simp only [addr_beq', beq_eq_false_iff_ne]
        exact this
      rw [this]
  · exact run_sameAddr_apart (x := ⟨l1.r, l1.off + o1, none⟩) (y := ⟨l2.r, l2.off + o2, none⟩) hr g3 k3 g4 k4
theorem eqR_sound (R : Rel P μ h w) {t : TypeId} {x y : V} {x' y' : Value} {b : Bool} (hx : VR μ x x') (hy : VR μ y y') (he : eqR P h t x y = some b) (o1 o2 : Operand) (op : BinOp) (hop : op = .eql ∨ op = .neq) :
    (do eqGuard op t o1 o2 x' y'; binOp op t x' y' : Sem Value).run P w = .ok (.bool (if op = .eql then b else !b)) w := by
  have gen : (Op.equal t x' y').run P w = .ok b w → (∀ s1 : Sem Value, binOp .eql t x' y' = s1 → s1 = (do Pure.pure (.bool (← Op.equal t x' y')))) → (∀ s1 : Sem Value, binOp .neq t x' y' = s1 → s1 = (do Pure.pure (.bool (!(← Op.equal t x' y'))))) →
      Yields P (eqGuard op t o1 o2 x' y') () → (do eqGuard op t o1 o2 x' y'; binOp op t x' y' : Sem Value).run P w = .ok (.bool (if op = .eql then b else !b)) w := fun h1 h2 h3 h4 => by
    rw [Sem.run_bind, h4 w, Result.andThen_ok]
    rcases hop with rfl | rfl
    · rw [h2 _ rfl, Sem.run_bind, h1]; rfl
    · rw [h3 _ rfl, Sem.run_bind, h1]; rfl
  unfold eqR at he
  split at he
  · rename_i e b1 o1' b2 o2' ht
    split at he
    · rename_i hc
      simp only [Bool.and_eq_true, bne_iff_ne, ne_eq, decide_eq_true_eq] at hc
      obtain ⟨⟨⟨hne, hsz⟩, hf1⟩, hf2⟩ := hc
      simp only [Option.some.injEq] at he
      subst he
      cases hx with
      | @ptr _ _ l1 hb1 =>
        cases hy with
        | @ptr _ _ l2 hb2 =>
          have hap := ptr_apart R hb1 hb2 hne hf1 hf2
          obtain ⟨j, hj⟩ := info_of_size hsz
          have hs' : j.size ≠ 0 := by simpa [sizeT, Program.cellsOf, hj] using hsz
          refine gen ?_ (fun _ h => h ▸ rfl) (fun _ h => h ▸ rfl) ?_
          · have key : ∀ d, (Op.equalIn (d + 1) t (.pointer (some ⟨l1.r, l1.off + o1', none⟩)) (.pointer (some ⟨l2.r, l2.off + o2', none⟩))).run P w = .ok false w := fun d => by
              simp [Op.equalIn, run_underlying ht, sizeOf, typeInfo, hj, hs', hap]
            exact key 9999
          · intro w
            rcases hop with rfl | rfl <;> rfl
    · cases he
  · rename_i ms tx b1 o1' ty b2 o2' ht
    split at he
    · rename_i e htx
      split at he
      · rename_i hc
        simp only [Bool.and_eq_true, bne_iff_ne, ne_eq, decide_eq_true_eq, beq_iff_eq] at hc
        obtain ⟨⟨⟨⟨⟨rfl, hcomp⟩, hne⟩, hsz⟩, hf1⟩, hf2⟩ := hc
        simp only [Option.some.injEq] at he
        subst he
        cases hx with
        | iface hx =>
          cases hy with
          | iface hy =>
            cases hx with
            | @ptr _ _ l1 hb1 =>
              cases hy with
              | @ptr _ _ l2 hb2 =>
                have hap := ptr_apart R hb1 hb2 hne hf1 hf2
                obtain ⟨j, hj⟩ := info_of_size hsz
                have hs' : j.size ≠ 0 := by simpa [sizeT, Program.cellsOf, hj] using hsz
                obtain ⟨i, hi⟩ := info_of_comparable hcomp
                have hc' := iface_comparable hi hcomp
                refine gen ?_ (fun _ h => h ▸ rfl) (fun _ h => h ▸ rfl) ?_
                · have key : ∀ d, (Op.equalIn (d + 2) t (.iface tx (.pointer (some ⟨l1.r, l1.off + o1', none⟩))) (.iface tx (.pointer (some ⟨l2.r, l2.off + o2', none⟩)))).run P w = .ok false w := fun d => by
                    simp [Op.equalIn, run_underlying ht, run_underlying htx, sizeOf, typeInfo, hi, hc', hj, hs', hap]
                  exact key 9998
                · intro w
                  rcases hop with rfl | rfl <;> rfl
      · cases he
    · cases he
  · cases he

/-! ### Loads -/
theorem loadCells_sound (R : Rel P μ h w) {b o n : Nat} {vs : List V} {l : Loc} (hb : μ b = some l) (hl : loadL h b o n = some vs) : ∃ rs, VRs μ vs rs ∧ rs.length = n ∧ (loadCells ⟨l.r, l.off + o, none⟩ n).run P w = .ok rs.toArray w := by
  obtain ⟨rs, h1, h2, h3⟩ := loadL_sound R hb hl
  refine ⟨rs, h1, h2, ?_⟩
  subst h2
  exact run_loadCells_list (P := P) w _ rs (fun j v hj => by rw [add_addr, show l.off + (o + j) = l.off + (o + j) from rfl]; exact h3 j v hj)
theorem loadVar_sound (R : Rel P μ h w) {t : TypeId} (ht : ∃ d, P.underlying t = some d) {b o : Nat} {l : Loc} {v : V} (hb : μ b = some l) (hl : (if isAggT P t then (loadL h b o (sizeT P t)).map .agg else load1 h b o) = some v) :
    ∃ r, VR μ v r ∧ (loadVar t ⟨l.r, l.off + o, none⟩).run P w = .ok r w := by
  obtain ⟨d, hd⟩ := ht
  obtain ⟨i, hi⟩ := info_of_underlying hd
  unfold loadVar
  split at hl
  · rename_i hagg
    simp only [Option.map_eq_some_iff] at hl
    obtain ⟨vs, h1, rfl⟩ := hl
    obtain ⟨rs, h2, h3, h4⟩ := loadCells_sound R hb h1
    refine ⟨.agg rs.toArray, .agg h2, ?_⟩
    rw [Sem.run_bind, yields_isAgg hd w, hagg]
    simp only [Result.andThen_ok, if_true, Sem.run_bind]
    rw [yields_sizeOf hi w]
    simp only [Result.andThen_ok]
    rw [show P.cellsOf t = sizeT P t from rfl, h4]
    rfl
  · rename_i hagg
    obtain ⟨r, h1, h2⟩ := load1_sound R hb hl
    refine ⟨r, h2, ?_⟩
    rw [Sem.run_bind, yields_isAgg hd w]
    simp only [Bool.not_eq_true] at hagg
    rw [hagg]
    simp only [Result.andThen_ok, Bool.false_eq_true, if_false]
    rw [run_load, h1]
theorem capGe_sound (R : Rel P μ h w) {A : Option (Nat × Nat)} {len r : Nat} {c : Cap} {e : TypeId} {A' : Option Addr} {len' cap : Nat} (hx : VR μ (.slice A len c) (.slice A' len' cap)) (hr : r ≤ capGe P h A e c) (h0 : r ≠ 0) : r ≤ cap := by
  unfold capGe at hr
  cases hx with
  | sliceN hle => exact hr
  | slice hb hc hle ha =>
    rename_i b o l a
    cases c with
    | ex n => simp only [Cap.ok] at hc; subst hc; exact hr
    | tl k =>
      simp only [Cap.ok] at hc
      obtain ⟨ob, ho, hR⟩ := R.ob b l hb
      simp only [ho] at hr
      cases ob <;> simp only [Nat.le_zero_eq] at hr <;> try omega
      rename_i x
      split at hr
      · rename_i hcond
        obtain ⟨hs, hex, hrw, rfl, rfl⟩ := hcond
        obtain ⟨_, _, _, _, _, _, _, _, h7, _⟩ := hR
        obtain ⟨_, _, h8, _⟩ := h7 hex hrw
        have h9 : r * sizeT P x.elem ≤ x.l.length - k * sizeT P x.elem := Nat.le_trans (Nat.mul_le_mul_right _ hr) (Nat.div_mul_le_self _ _)
        have h10 : r * sizeT P x.elem ≤ (l.cap - k) * sizeT P x.elem := by
          rw [Nat.sub_mul]
          have h8' : x.l.length ≤ l.cap * sizeT P x.elem := h8
          omega
        rw [hc.2]
        exact Nat.le_of_mul_le_mul_right h10 (Nat.pos_of_ne_zero hs)
      · omega
theorem sliceRead_sound (R : Rel P μ h w) {t : TypeId} (hw : wfT P t = true) {X v : V} {x' : Value} {lo hi mx : Option Operand} (hs : sliceRead P F h t X lo hi mx = some v) (hx : VR μ X x')
    (h1 : ∀ y, lo = some y → VR μ (opr F y) (a.eval y)) (h2 : ∀ y, hi = some y → VR μ (opr F y) (a.eval y)) :
    ∃ r, VR μ v r ∧ Yields P (Instr.sliceAt t x' (lo.map a.eval) (hi.map a.eval) (mx.map a.eval)) r := by
  unfold sliceRead at hs
  split at hs
  · rename_i l0 r hlo hhi
    have b1 := optBound_sound hlo h1
    have b2 := optBound_sound hhi h2
    dsimp only at hs
    split at hs
    · rename_i e A len c ht
      split at hs
      · rename_i hc
        simp only [Bool.and_eq_true, decide_eq_true_eq] at hc
        obtain ⟨hlr, hrc⟩ := hc
        simp only [Option.some.injEq] at hs
        subst hs
        have hrr : r ≠ 0 → ∀ {len' cap : Nat} {A' : Option Addr}, VR μ (.slice A len c) (.slice A' len' cap) → r ≤ cap := fun h0 _ _ _ hv => capGe_sound R hv hrc h0
        cases hx with
        | sliceN hle =>
          have hr' : r ≤ _ := if h0 : r = 0 then by rw [h0]; exact Nat.zero_le _ else hrr h0 (.sliceN hle)
          refine ⟨_, ?_, slice_run hw ht b1 b2 .none (Nat.le_refl _) hr' hlr (by simp)⟩
          simp only [Option.map_none, Option.getD_none, Option.getD_some]
          split <;> exact .sliceN (by omega)
        | slice hb hc hle ha =>
          have hr' : r ≤ _ := if h0 : r = 0 then by rw [h0]; exact Nat.zero_le _ else hrr h0 (.slice hb hc hle ha)
          refine ⟨_, ?_, slice_run hw ht b1 b2 .none (Nat.le_refl _) hr' hlr (by simp)⟩
          simp only [Option.map_some, Option.getD_none, Option.getD_some]
          rw [← apply_ite some]
          refine slice_addr hb hc hle ha hlr hr' (Nat.le_refl _) _ ?_
          cases c with
          | ex m => simp only [Cap.ok] at hc ⊢; omega
          | tl k => simp only [Cap.ok] at hc ⊢; omega
      · cases hs
    · cases hs
  · cases hs

theorem bytesOf_sound : ∀ {vs : List V} {rs : List Value} {s : List UInt8}, bytesOf vs = some s → VRs μ vs rs → ∃ ns : List Int, rs = ns.map (Value.int .u8) ∧ ns.map (fun n => UInt8.ofNat n.toNat) = s
  | [], rs, s, h, hv => by
    cases hv
    simp only [bytesOf, Option.some.injEq] at h
    exact ⟨[], rfl, by simpa using h⟩
  | .int .u8 n :: l, rs, s, h, hv => by
    cases hv with
    | cons h0 ht =>
      cases h0
      simp only [bytesOf, Option.map_eq_some_iff] at h
      obtain ⟨s', h1, rfl⟩ := h
      obtain ⟨ns, rfl, h2⟩ := bytesOf_sound h1 ht
      exact ⟨n :: ns, rfl, by simp [h2]⟩
  | .int .i8 _ :: _, _, _, h, _ | .int .i16 _ :: _, _, _, h, _ | .int .i32 _ :: _, _, _, h, _ | .int .i64 _ :: _, _, _, h, _ | .int .u16 _ :: _, _, _, h, _ | .int .u32 _ :: _, _, _, h, _ | .int .u64 _ :: _, _, _, h, _ => by simp [bytesOf] at h
  | .bool _ :: _, _, _, h, _ | .str _ :: _, _, _, h, _ | .ptr _ :: _, _, _, h, _ | .slice _ _ _ :: _, _, _, h, _ | .map _ :: _, _, _, h, _ | .func _ _ _ :: _, _, _, h, _ | .yield _ :: _, _, _, h, _ | .nilFunc :: _, _, _, h, _ | .iface _ _ :: _, _, _, h, _
  | .nilIface :: _, _, _, h, _ | .agg _ :: _, _, _, h, _ | .tuple _ :: _, _, _, h, _ => by simp [bytesOf] at h
theorem push_fold (ns : List Int) : ∀ s : ByteArray, ns.foldl (fun r n => r.push (UInt8.ofNat n.toNat)) s = ⟨(s.data.toList ++ ns.map fun n => UInt8.ofNat n.toNat).toArray⟩ := by
  induction ns with
  | nil => intro s; simp
  | cons n ns ih =>
    intro s
    rw [List.foldl_cons, ih]
    simp [ByteArray.push]
theorem loadL_zero_addr (R : Rel P μ h w) {b o n : Nat} {vs : List V} {l : Loc} (hb : μ b = some l) (hl : loadL h b o n = some vs) {A : Addr} (hA : n ≠ 0 → A = ⟨l.r, l.off + o, none⟩) :
    ∃ rs, VRs μ vs rs ∧ rs.length = n ∧ (loadCells A n).run P w = .ok rs.toArray w := by
  obtain ⟨rs, h1, h2, h3⟩ := loadCells_sound (P := P) R hb hl
  by_cases h0 : n = 0
  · subst h0
    exact ⟨rs, h1, h2, by rw [List.eq_nil_of_length_eq_zero h2]; rfl⟩
  · rw [hA h0]; exact ⟨rs, h1, h2, h3⟩
theorem read_sound (R : Rel P μ h w) {o : Oper} {v : V} (ok : OpOk P μ F a o) (hr : readV P F h o = some v) : ∃ r, VR μ v r ∧ (execOp a.eval o).run P w = .ok (.value r) w := by
  obtain ⟨opd, typ⟩ := ok
  unfold OpR at opd
  unfold opTypes at typ
  unfold readV at hr
  have val : ∀ {s : Sem Value}, (∃ r, VR μ v r ∧ s.run P w = .ok r w) → ∃ r, VR μ v r ∧ (do Pure.pure (.value (← s)) : Sem Next).run P w = .ok (.value r) w := by
    rintro s ⟨r, h1, h2⟩
    exact ⟨r, h1, by rw [Sem.run_bind, h2]; rfl⟩
  unfold execOp
  cases ho : o.op <;> simp only [ho] at hr typ opd ⊢ <;> try (exfalso; cases hr; done)
  case load t x =>
    split at hr
    · rename_i b i hx
      have hv := opd x (by simp [Op.operands])
      rw [hx] at hv
      cases hx' : a.eval x <;> rw [hx'] at hv <;> cases hv
      rename_i l hb
      refine val ?_
      obtain ⟨r, h1, h2⟩ := loadVar_sound R (wf_und (typ t (by simp))) hb hr
      exact ⟨r, h1, h2⟩
    · cases hr
  case lookup t m k okk =>
    split at hr
    · rename_i v' h' hl
      simp only [Option.some.injEq] at hr
      subst hr
      exact val (lookup_sound R (opd m (by simp [Op.operands])) (opd k (by simp [Op.operands])) hl)
    · cases hr
  case binOp op t x y pos =>
    have hx := opd x (by simp [Op.operands])
    have hy := opd y (by simp [Op.operands])
    refine val ?_
    split at hr
    · simp only [Option.map_eq_some_iff] at hr
      obtain ⟨b, h1, rfl⟩ := hr
      exact ⟨_, .bool b, eqR_sound R hx hy h1 x y .eql (.inl rfl)⟩
    · simp only [Option.map_eq_some_iff] at hr
      obtain ⟨b, h1, rfl⟩ := hr
      exact ⟨_, .bool (!b), eqR_sound R hx hy h1 x y .neq (.inr rfl)⟩
    · cases hr
  case slice t x lo hi mx =>
    refine val ?_
    obtain ⟨r, h1, h2⟩ := sliceRead_sound (a := a) R (typ t (by simp)) hr (opd x (by simp [Op.operands])) (fun y hy => opd y (by simp [Op.operands, hy])) (fun y hy => opd y (by simp [Op.operands, hy]))
    exact ⟨r, h1, h2 w⟩
  case convert s d x =>
    refine val ?_
    split at hr
    · rename_i e A len c hs hd hx
      have hv := opd x (by simp [Op.operands])
      rw [hx] at hv
      split at hr
      · rename_i he
        simp only [Option.map_eq_some_iff, Option.bind_eq_some_iff] at hr
        obtain ⟨q, ⟨vs, h1, h2⟩, rfl⟩ := hr
        generalize a.eval x = X at hv ⊢
        cases hv with
        | @slice _ _ _ cap _ l A' hb hc hl ha =>
        obtain ⟨rs, g1, g2, g3⟩ := loadL_zero_addr (P := P) R hb h1 (A := A') (fun h0 => ha (by omega))
        obtain ⟨ns, rfl, rfl⟩ := bytesOf_sound h2 g1
        refine ⟨_, .str _, ?_⟩
        rw [run_convert_bytes_string w s d e _ len cap hs he hd, run_bytesToString w A' len cap ns g3, push_fold]
        rfl
      · rename_i he
        simp only [Option.some.injEq] at hr
        subst hr
        generalize a.eval x = X at hv ⊢
        cases hv
        refine ⟨_, .str _, ?_⟩
        rw [run_convert_bytes_string w s d e _ _ _ hs he hd]
        rfl
      · cases hr
    · cases hr
  case call c =>
    obtain ⟨callee, args, tys⟩ := c
    cases callee with
    | value f => exfalso; cases hr
    | invoke r m => exfalso; cases hr
    | builtin b =>
      have hargs : VRs μ (oprs F args) (args.map a.eval).toList := oprs_sound fun x hx => opd x (by simp [Op.operands, Call.operands, hx])
      have harr : (args.map a.eval) = (args.map a.eval).toList.toArray := (Array.toArray_toList).symm
      simp only at hr
      show ∃ r, VR μ v r ∧ (do let d ← resolve a.eval { callee := .builtin b, args, argTypes := tys } o.type; invoke d.target d.args : Sem Next).run P w = .ok (.value r) w
      have red : ∀ {r : Value}, (builtin b tys o.type (args.map fun | .const _ => true | _ => false) (args.map a.eval)).run P w = .ok (.value r) w →
          (do let d ← resolve a.eval { callee := .builtin b, args, argTypes := tys } o.type; invoke d.target d.args : Sem Next).run P w = .ok (.value r) w := fun h => h
      cases b <;> simp only at hr <;> try (exfalso; cases hr; done)
      case len =>
        split at hr
        · rename_i kt et r ht hX
          rw [hX] at hargs
          split at hr
          · rename_i es k hg
            simp only [Option.some.injEq] at hr
            subst hr
            generalize (args.map a.eval) = A at hargs harr red
            rw [harr] at red
            generalize A.toList = L at hargs red
            cases hargs with | cons hx hn =>
            cases hn
            cases hx with | @map _ l hb =>
            obtain ⟨ob, hob, hR⟩ := R.ob r l hb
            rw [hg] at hob
            cases hob
            obtain ⟨A2, hA, hE⟩ := hR
            have hlen : ∀ {l : List (V × V × Nat)} {m : List MapEntry}, EntR μ l m → l.length = m.length := by
              intro l
              induction l with
              | nil => intro m hE; cases m with | nil => rfl | cons _ _ => exact hE.elim
              | cons x l ih =>
                intro m hE
                cases m with
                | nil => exact hE.elim
                | cons e m => simp [ih hE.2.2.2]
            have hsz : es.length = A2.size := by rw [hlen hE, Array.length_toList]
            have hrun : (Builtin.len_ tys o.type #[.map (some l.r)]).run P w = .ok (.int .i64 es.length) w := by
              cases hts : tys[0]? with
              | none => simp [hts] at ht
              | some t =>
                simp only [hts, Option.bind_some] at ht
                simp [Builtin.len_, hts, run_underlying ht, MapKept.run_getObj_map hA, goInt, hsz]
            refine ⟨_, .int .i64 _, red ?_⟩
            show (do Pure.pure (.value (← Builtin.len_ tys o.type #[.map (some l.r)])) : Sem Next).run P w = _
            rw [Sem.run_bind, hrun]
            rfl
          · cases hr
        · cases hr
end Go.Vm
