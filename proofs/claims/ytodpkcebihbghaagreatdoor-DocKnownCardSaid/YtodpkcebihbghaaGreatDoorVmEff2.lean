/- What turns memory. -/
import Derived.Test.YtodpkcebihbghaaGreatDoorVmAlloc
import Derived.Lib.ConvBytes
import Derived.Laws.AppendOwn
set_option linter.unusedVariables false
set_option linter.unusedSimpArgs false
namespace Go.Vm
open Go.RowKit

variable {P : Program} {μ : PM} {h : Hp} {w : World} {F : Frm} {a : Act}

def DfrR (μ : PM) : Dfr → Deferred → Prop
  | .fn f args, d => ∃ rs, VRs μ args rs ∧ ∃ first cs : List Value, rs = first ++ cs ∧ d = { target := .fn (.func f) cs.toArray, args := first.toArray }
  | .mark b, d => ∃ l, μ b = some l ∧ d = { target := .collected l.r, args := #[] }

def OutR (P : Program) (μ : PM) (h : Hp) (w : World) (s : Sem Next) : OR → Prop
  | .bad _ => True
  | .val v h' => ∃ r w' μ', s.run P w = .ok (.value r) w' ∧ Ext μ h w μ' h' w' ∧ Rel P μ' h' w' ∧ VR μ' v r
  | .skip h' => ∃ w' μ', s.run P w = .ok .skip w' ∧ Ext μ h w μ' h' w' ∧ Rel P μ' h' w'
  | .enter f args => ∃ rs, VRs μ args rs ∧ s.run P w = .ok (.enter f rs.toArray) w
  | .round l args => ∃ ld rs, μ l = some ld ∧ VRs μ args rs ∧ s.run P w = (Instr.yield ld.r rs.toArray).run P w
  | .panic v => ∃ r, VR μ v r ∧ s.run P w = .halt (.panic r) w
  | .defer d => ∃ r, DfrR μ d r ∧ s.run P w = .ok (.defer r) w
  | .recover => s.run P w = .ok .recover w

/-- A value that is made by a plain Sem. -/
theorem OutR.ofVal {s : Sem Value} {v : V} {h' : Hp} (k : ∃ r w' μ', s.run P w = .ok r w' ∧ Ext μ h w μ' h' w' ∧ Rel P μ' h' w' ∧ VR μ' v r) : OutR P μ h w (do Pure.pure (.value (← s))) (.val v h') := by
  obtain ⟨r, w', μ', h1, h2⟩ := k
  exact ⟨r, w', μ', by rw [Sem.run_bind, h1]; rfl, h2⟩
theorem OutR.ofSkip {s : Sem Unit} {h' : Hp} (k : ∃ w' μ', s.run P w = .ok () w' ∧ Ext μ h w μ' h' w' ∧ Rel P μ' h' w') : OutR P μ h w (do s; Pure.pure .skip) (.skip h') := by
  obtain ⟨w', μ', h1, h2⟩ := k
  exact ⟨w', μ', by rw [Sem.run_bind, h1]; rfl, h2⟩

theorem cellsOf_sizeOf {t : TypeId} (hw : wfT P t = true) (w : World) : (sizeOf t).run P w = .ok (sizeT P t) w := by
  obtain ⟨i, hi⟩ := wf_info hw
  exact yields_sizeOf hi w

theorem store_sound (R : Rel P μ h w) {t : TypeId} (hw : wfT P t = true) {b o : Nat} {v : V} {p r : Value} {h' : Hp} (hp : VR μ (.ptr (some (b, o))) p) (hv : VR μ v r) (hl : v.cells.length = sizeT P t) (hs : storeL h b o v.cells = some h') :
    ∃ w' μ', (Instr.storeAt t p r).run P w = .ok () w' ∧ Ext μ h w μ' h' w' ∧ Rel P μ' h' w' := by
  cases hp with
  | @ptr _ _ l hb =>
    obtain ⟨w', h1, h2, h3, _⟩ := storeL_sound R hb hv.cells hs
    refine ⟨w', μ, ?_, h2, h3⟩
    have hsz : r.cells.size = sizeT P t := by rw [← Array.length_toList, ← hv.cells.length, hl]
    unfold Instr.storeAt
    show (storeVar t _ r).run P w = _
    unfold storeVar
    rw [Sem.run_bind, cellsOf_sizeOf hw w]
    simp only [Result.andThen_ok, hsz, ne_eq, not_true, if_false]
    exact h1

/-! ### Maps -/
theorem setObj_sound (R : Rel P μ h w) {b : Nat} {l : Loc} (hb : μ b = some l) (hwr : writable (h.get b)) (o o' : Obj) (ob : Ob) (ho : w.heap[l.r]? = some o)
    (hob : ∀ w' : World, w'.heap[l.r]? = some o' → ObR P μ w' l ob) :
    Ext μ h w μ (h.put b ob) { w with heap := w.heap.setIfInBounds l.r o' } ∧ Rel P μ (h.put b ob) { w with heap := w.heap.setIfInBounds l.r o' } := by
  obtain ⟨e1, e2⟩ := MapKept.heap_set (o' := o') ho
  have hsz : (w.heap.setIfInBounds l.r o').size = w.heap.size := by simp
  have hoth : ∀ b2 l2, μ b2 = some l2 → b2 ≠ b → l2.r = l.r → h.get b2 = some .dead := fun b2 l2 h2 hne2 hrr => by
    exact (R.sep b l b2 l2 hb h2 (Ne.symm hne2) hrr.symm).writable hwr
  refine ⟨⟨.refl _, Nat.le_refl _, fun _ _ e => .inl e, rfl, rfl, rfl, Nat.le_of_eq hsz.symm, fun ro r hr2 hu => ?_⟩, fun b2 l2 h2 => ?_, R.dom, fun b1 l1 b2 l2 h1 h2 hne2 hrr => ?_, R.glob, fun b2 l2 h2 => by rw [hsz]; exact R.low b2 l2 h2⟩
  · have hrl : r ≠ l.r := fun he => hu.not hb hwr he.symm
    refine ⟨e2 r hrl, fun b2 l2 h2 h3 => ?_⟩
    have hbb : b2 ≠ b := fun he => by subst he; rw [hb] at h2; cases h2; exact hrl h3.symm
    rw [Hp.get_put_ne _ (Ne.symm hbb)]
    exact hu b2 l2 h2 h3
  · by_cases hbb : b2 = b
    · subst hbb
      rw [hb] at h2; cases h2
      exact ⟨_, Hp.get_put_same _ _ _, hob _ e1⟩
    · rw [Hp.get_put_ne _ (Ne.symm hbb)]
      obtain ⟨o2, h3, h4⟩ := R.ob b2 l2 h2
      refine ⟨o2, h3, ?_⟩
      by_cases hrr : l2.r = l.r
      · have h5 := hoth b2 l2 h2 hbb hrr
        rw [h3] at h5; cases h5; trivial
      · exact h4.frame (.refl _) (e2 _ hrr)
  · by_cases hb1 : b1 = b
    · subst hb1
      rw [hb] at h1; cases h1
      rw [Hp.get_put_ne _ hne2]
      exact .inr (.inl (hoth b2 l2 h2 (Ne.symm hne2) hrr.symm))
    · rw [Hp.get_put_ne _ (Ne.symm hb1)]
      by_cases hb2 : b2 = b
      · subst hb2
        rw [hb] at h2; cases h2
        exact .inl (hoth b1 l1 h1 hb1 hrr)
      · rw [Hp.get_put_ne _ (Ne.symm hb2)]
        exact R.sep b1 l1 b2 l2 h1 h2 hne2 hrr

theorem plainEq_bits {x y : V} {x' y' : Value} (n : Nat) (he : plainEq x y = true) (hx : VR μ x x') (hy : VR μ y y') : Instr.sameBits n x' y' = true := by
  unfold plainEq at he
  split at he <;> try (cases he; done)
  · cases hx; cases hy; simpa [Instr.sameBits] using he
  · cases hx; cases hy; simpa [Instr.sameBits] using he
  · cases hx; cases hy
    simp only [Instr.sameBits, mk_beq]
    exact he
theorem plainEqs_bits (n : Nat) : ∀ {l m : List V} {l' m' : List Value}, plainEqs l m = true → VRs μ l l' → VRs μ m m' → l'.length = m'.length ∧ (l'.zip m').all (fun (x, y) => Instr.sameBits n x y) = true
  | [], [], _, _, _, hl, hm => by cases hl; cases hm; simp
  | x :: l, y :: m, _, _, he, hl, hm => by
    cases hl with | cons h1 h2 =>
    cases hm with | cons k1 k2 =>
    simp only [plainEqs, Bool.and_eq_true] at he
    obtain ⟨e1, e2⟩ := plainEqs_bits n he.2 h2 k2
    exact ⟨by simp [e1], by simp [plainEq_bits n he.1 h1 k1]; simpa using e2⟩
  | [], _ :: _, _, _, he, _, _ | _ :: _, [], _, _, he, _, _ => by simp [plainEqs] at he
theorem keyStays_bits {x y : V} {x' y' : Value} (he : keyStays x y = true) (hx : VR μ x x') (hy : VR μ y y') : Instr.sameBits 10000 x' y' = true := by
  unfold keyStays at he
  split at he
  · cases hx with | agg hl => cases hy with | agg hm =>
    obtain ⟨e1, e2⟩ := plainEqs_bits 9999 he hl hm
    show (_ == _ && _) = true
    simp only [List.size_toArray, e1, beq_self_eq_true, Bool.true_and]
    exact e2
  · exact plainEq_bits 10000 he hx hy
theorem keyThatStays_sound {x y : V} {x' y' : Value} (he : keyStays x y = true) (hx : VR μ x x') (hy : VR μ y y') (w : World) : (Instr.keyThatStays x' y').run P w = .ok y' w := by
  unfold Instr.keyThatStays
  rw [if_pos (keyStays_bits he hx hy)]
  rfl
theorem setNth_sound {k v : V} {k' v' : Value} (hk : VR μ k k') (hv : VR μ v v') : ∀ (l : List (V × V × Nat)) (m : List MapEntry) (i : Nat), EntR μ l m → EntR μ (setNth l i k v) (m.modify i fun e => { e with key := k', val := v' })
  | [], [], _, _ => by simp [setNth]; trivial
  | (_, _, _) :: l, e :: m, 0, h => by
    simp only [setNth, List.modify_zero_cons]
    exact ⟨hk, hv, h.2.2.1, h.2.2.2⟩
  | (_, _, _) :: l, e :: m, i + 1, h => by
    simp only [setNth, List.modify_succ_cons]
    exact ⟨h.1, h.2.1, h.2.2.1, setNth_sound hk hv l m i h.2.2.2⟩
  | [], _ :: _, _, h => h.elim
  | (_, _, _) :: _, [], _, h => h.elim
theorem EntR.snoc {k v : V} {c : Nat} {e : MapEntry} (hk : VR μ k e.key) (hv : VR μ v e.val) (hc : e.born = c) : ∀ (l : List (V × V × Nat)) (m : List MapEntry), EntR μ l m → EntR μ (l ++ [(k, v, c)]) (m ++ [e])
  | [], [], _ => ⟨hk, hv, hc, trivial⟩
  | (_, _, _) :: l, e' :: m, h => ⟨h.1, h.2.1, h.2.2.1, EntR.snoc hk hv hc l m h.2.2.2⟩
  | [], _ :: _, h => h.elim
  | (_, _, _) :: _, [], h => h.elim
theorem update_sound (R : Rel P μ h w) {t : TypeId} {m k v : V} {m' k' v' : Value} (hm : VR μ m m') (hk : VR μ k k') (hv : VR μ v v') : OutR P μ h w (do Instr.mapUpdate t m' k' v'; Pure.pure .skip) (updateV P h t m k v) := by
  unfold updateV
  split
  · rename_i kt et r ht
    split
    · trivial
    · rename_i hok
      simp only [Bool.not_eq_true, Bool.not_eq_false'] at hok
      split
      · rename_i es c hg
        cases hm with | @map _ l hb =>
        obtain ⟨o, ho, hR⟩ := R.ob r l hb
        rw [hg] at ho
        cases ho
        obtain ⟨A, hA, hE⟩ := hR
        split
        · rename_i i kk vv hf
          split
          · rename_i hst
            refine OutR.ofSkip ?_
            obtain ⟨r', g1, g2⟩ := findKey_sound hok hk hf hE
            cases r' with
            | none => exact g2.elim
            | some p =>
              obtain ⟨q1, _, _, e, q4, q5⟩ := g2
              obtain ⟨p1, p2⟩ := p
              simp only at q1
              subst q1
              have hsub : A[p1]? = some e := by rw [← Array.getElem?_toList]; simpa using q4
              obtain ⟨x1, x2⟩ := setObj_sound R hb (by rw [hg]; trivial) _ (.map (A.modify p1 fun e => { e with key := k', val := v' }) c) (.map (setNth es p1 k v) c) hA (fun w' hw' => ⟨_, hw', by rw [Array.toList_modify]; exact setNth_sound hk hv es A.toList p1 hE⟩)
              refine ⟨_, μ, ?_, x1, x2⟩
              simp [Instr.mapUpdate, run_underlying ht, MapKept.run_getObj_map hA, checkKey_sound false 9998 hok hk w, g1 w, Result.andThen, hsub, keyThatStays_sound hst q5 hk w, MapKept.run_setObj_map _ hA]
          · trivial
        · rename_i hf
          refine OutR.ofSkip ?_
          obtain ⟨r', g1, g2⟩ := findKey_sound hok hk hf hE
          cases r' with
          | some p => exact g2.elim
          | none =>
            obtain ⟨x1, x2⟩ := setObj_sound R hb (by rw [hg]; trivial) _ (.map (A.push { key := k', val := v', born := c }) (c + 1)) (.map (es ++ [(k, v, c)]) (c + 1)) hA (fun w' hw' => ⟨_, hw', by rw [Array.toList_push]; exact EntR.snoc (e := { key := k', val := v', born := c }) hk hv rfl es A.toList hE⟩)
            refine ⟨_, μ, ?_, x1, x2⟩
            simp [Instr.mapUpdate, run_underlying ht, MapKept.run_getObj_map hA, checkKey_sound false 9998 hok hk w, g1 w, Result.andThen, MapKept.run_setObj_map _ hA]
        · trivial
      · trivial
  · trivial

/-! ### append -/
def SrcR (P : Program) (sz : Nat) (w : World) (x : Value) (n : Nat) (rs : List Value) : Prop :=
  Yields P (Builtin.lenOf x) n ∧ ∀ w2 : World, w2.heap = w.heap → (Builtin.firstCells sz n x).run P w2 = .ok rs.toArray w2
theorem ofBytes_sound (s : List UInt8) : VRs μ (ofBytes s) (s.map fun b => .int .u8 (b.toNat : Int)) := by
  induction s with
  | nil => exact .nil
  | cons b s ih => exact .cons (.int _ _) ih
theorem src_sound (R : Rel P μ h w) {sz n : Nat} {x : V} {x' : Value} {new : List V} (hx : VR μ x x') (hs : srcCells h sz x = some (n, new)) : ∃ rs, VRs μ new rs ∧ rs.length = n * sz ∧ SrcR P sz w x' n rs := by
  unfold srcCells at hs
  split at hs
  · rename_i b o m c
    cases hx with
    | @slice _ _ _ cap _ ld A hb hc hl ha =>
      by_cases h0 : m * sz = 0
      · rw [if_pos h0] at hs
        simp only [Option.some.injEq, Prod.mk.injEq] at hs
        obtain ⟨rfl, rfl⟩ := hs
        refine ⟨[], .nil, by simp [h0], .pure _, fun w2 _ => ?_⟩
        show (loadCells A (m * sz)).run P w2 = _
        rw [h0]; rfl
      · rw [if_neg h0] at hs
        simp only [Option.map_eq_some_iff, Prod.mk.injEq] at hs
        obtain ⟨l, h1, rfl, rfl⟩ := hs
        have hA := ha (fun hc0 => h0 (by have : m = 0 := by omega
                                         rw [this]; simp))
        obtain ⟨rs, g1, g2, g3⟩ := loadL_sound R hb h1
        refine ⟨rs, g1, g2, .pure _, fun w2 e => ?_⟩
        show (loadCells A (m * sz)).run P w2 = _
        rw [← g2, hA]
        refine run_loadCells_list (P := P) w2 _ rs (fun j v hj => ?_)
        rw [add_addr]
        have := g3 j v hj
        unfold World.cell? at this ⊢
        rw [e]
        exact this
  · simp only [Option.some.injEq, Prod.mk.injEq] at hs
    obtain ⟨rfl, rfl⟩ := hs
    cases hx
    exact ⟨[], .nil, by simp, .pure _, fun w2 _ => rfl⟩
  · split at hs
    · rename_i s h1
      subst h1
      simp only [Option.some.injEq, Prod.mk.injEq] at hs
      obtain ⟨rfl, rfl⟩ := hs
      cases hx
      refine ⟨_, ofBytes_sound s, by simp, .pure _, fun w2 _ => ?_⟩
      show Result.ok _ w2 = _
      congr 1
      have e : (⟨s.toArray⟩ : ByteArray).extract 0 s.length = ⟨s.toArray⟩ := by
        apply ByteArray.ext
        rw [ByteArray.data_extract]
        simp
      rw [e]
      simp
    · cases hs
  · cases hs

/-- What an append of a slice and a source runs through. -/
structure AppSrc (P : Program) (w : World) (ts : Array TypeId) (e : TypeId) (x : Value) (n : Nat) (rs : List Value) (z : Value) (i : TypeInfo) : Prop where
  t0 : ∃ t, ts[0]? = some t ∧ P.underlying t = some (.slice e)
  t1 : (match ts[1]? with | none => true | some u => (match P.underlying u with | none | some (.int _) => false | _ => true)) = true
  info : P.info? e = some i
  zero : i.zero = some z
  src : SrcR P i.size w x n rs
theorem append_ts {ts : Array TypeId} {t ty e : TypeId} {s x : Value} (h0 : ts[0]? = some t) (ht : P.underlying t = some (.slice e)) {i : TypeInfo} (hi : P.info? e = some i)
    (h1 : (match ts[1]? with | none => true | some u => (match P.underlying u with | none | some (.int _) => false | _ => true)) = true) :
    (Builtin.append_ ts ty #[s, x]).run P w = (Builtin.append_ #[t] ty #[s, x]).run P w := by
  unfold Builtin.append_
  simp only [h0, List.getElem?_toArray, List.getElem?_cons_zero, List.getElem?_cons_succ, List.getElem?_nil]
  rw [Sem.run_bind, Sem.run_bind, run_underlying ht]
  simp only [Result.andThen_ok]
  cases s <;> try rfl
  rw [Sem.run_bind, Sem.run_bind, show (sizeOf e).run P w = .ok i.size w by simp [sizeOf, typeInfo, hi]]
  simp only [Result.andThen_ok]
  cases hu : ts[1]? with
  | none => rfl
  | some u =>
    simp only [hu] at h1
    cases hd : P.underlying u with
    | none => simp [hd] at h1
    | some d =>
      simp only [hd] at h1
      dsimp only
      rw [Sem.run_bind, run_underlying hd]
      simp only [Result.andThen_ok]
      cases d <;> first | (exfalso; simp at h1; done) | rfl
theorem src_room {ts : Array TypeId} {ty e : TypeId} {x : Value} {n : Nat} {rs : List Value} {z : Value} {i : TypeInfo} (hA : AppSrc P w ts e x n rs z i) {A : Option Addr} {len cap : Nat} (hn : len + n ≤ cap)
    {w' : World} (hst : (match A with | some a => (storeCells (a.add (len * i.size)) rs).run P w = .ok () w' | none => w' = w)) :
    (Builtin.append_ ts ty #[.slice A len cap, x]).run P w = .ok (.slice A (len + n) cap) w' := by
  obtain ⟨⟨t, h0, ht⟩, h1, hi, hz, hs1, hs2⟩ := hA
  have e1 := hs1 w
  have e2 := hs2 w rfl
  rw [append_ts h0 ht hi h1]
  cases A with
  | none => simp only at hst; subst hst; simp [Builtin.append_, run_underlying ht, sizeOf, typeInfo, hi, e1, e2, hn]
  | some a => simp only at hst; simp [Builtin.append_, run_underlying ht, sizeOf, typeInfo, hi, e1, e2, hn, hst]
theorem src_grow {ts : Array TypeId} {ty e : TypeId} {x : Value} {n : Nat} {rs : List Value} {z : Value} {i : TypeInfo} (hA : AppSrc P w ts e x n rs z i) {A : Option Addr} {len cap : Nat} (hn : cap < len + n)
    (h62 : len + n ≤ 2 ^ 62) (hb : 2 * (len + n) * i.bytes ≤ 2 ^ 48) {olds : List Value} (ho : (Builtin.firstCells i.size len (.slice A len cap)).run P w.drew = .ok olds.toArray w.drew) :
    (Builtin.append_ ts ty #[.slice A len cap, x]).run P w = .ok (.slice (some ⟨w.heap.size, 0, none⟩) (len + n) (grownCap w (len + n) cap e)) (w.drew.alloc (.cells (olds.toArray ++ rs.toArray ++ Builtin.zeroCells z.cells (grownCap w (len + n) cap e - (len + n))) e)) := by
  obtain ⟨⟨t, h0, ht⟩, h1, hi, hz, hs1, hs2⟩ := hA
  have hn' : ¬ (len + n ≤ cap) := by omega
  have h63' : ¬ (9223372036854775807 < ((len : Int) + (n : Int))) := by omega
  have hfit : Builtin.nextslicecap (len + n) cap * i.bytes ≤ 281474976710656 := by
    have h1 : Builtin.nextslicecap (len + n) cap * i.bytes ≤ 2 * (len + n) * i.bytes := Nat.mul_le_mul_right _ (nextslicecap_le hn)
    omega
  have h48' : ¬ (281474976710656 < Builtin.nextslicecap (len + n) cap * i.bytes) := by omega
  have e1 := hs1 w
  have hf := hs2 w.drew rfl
  rw [append_ts h0 ht hi h1]
  simp [Builtin.append_, run_underlying ht, sizeOf, typeInfo, hi, e1, hn', h63', h48', zeroValue, hz, Question.forced, hf, ho, newRow, grownCap, -Array.append_assoc]

/-- What is appended is at hand, whatever it is. -/
structure AppIn (P : Program) (w : World) (ts : Array TypeId) (ty e : TypeId) (x : Value) (n : Nat) (rs : List Value) (z : Value) (i : TypeInfo) : Prop where
  info : P.info? e = some i
  room : ∀ {A : Option Addr} {len cap : Nat} {w' : World}, len + n ≤ cap → (match A with | some a => (storeCells (a.add (len * i.size)) rs).run P w = .ok () w' | none => w' = w) →
    (Builtin.append_ ts ty #[.slice A len cap, x]).run P w = .ok (.slice A (len + n) cap) w'
  grow : ∀ {A : Option Addr} {len cap : Nat} {olds : List Value}, cap < len + n → len + n ≤ 2 ^ 62 → 2 * (len + n) * i.bytes ≤ 2 ^ 48 → (Builtin.firstCells i.size len (.slice A len cap)).run P w.drew = .ok olds.toArray w.drew →
    (Builtin.append_ ts ty #[.slice A len cap, x]).run P w = .ok (.slice (some ⟨w.heap.size, 0, none⟩) (len + n) (grownCap w (len + n) cap e)) (w.drew.alloc (.cells (olds.toArray ++ rs.toArray ++ Builtin.zeroCells z.cells (grownCap w (len + n) cap e - (len + n))) e))
theorem AppSrc.app {ts : Array TypeId} {ty e : TypeId} {x : Value} {n : Nat} {rs : List Value} {z : Value} {i : TypeInfo} (hA : AppSrc P w ts e x n rs z i) : AppIn P w ts ty e x n rs z i :=
  ⟨hA.info, fun h1 h2 => src_room hA h1 h2, fun h1 h2 h3 h4 => src_grow hA h1 h2 h3 h4⟩
theorem app_room {ts : Array TypeId} {ty e : TypeId} {x : Value} {n : Nat} {rs : List Value} {z : Value} {i : TypeInfo} (hA : AppIn P w ts ty e x n rs z i) {A : Option Addr} {len cap : Nat} (hn : len + n ≤ cap)
    {w' : World} (hst : (match A with | some a => (storeCells (a.add (len * i.size)) rs).run P w = .ok () w' | none => w' = w)) :
    (Builtin.append_ ts ty #[.slice A len cap, x]).run P w = .ok (.slice A (len + n) cap) w' := hA.room hn hst
theorem app_grow {ts : Array TypeId} {ty e : TypeId} {x : Value} {n : Nat} {rs : List Value} {z : Value} {i : TypeInfo} (hA : AppIn P w ts ty e x n rs z i) {A : Option Addr} {len cap : Nat} (hn : cap < len + n)
    (h62 : len + n ≤ 2 ^ 62) (hb : 2 * (len + n) * i.bytes ≤ 2 ^ 48) {olds : List Value} (ho : (Builtin.firstCells i.size len (.slice A len cap)).run P w.drew = .ok olds.toArray w.drew) :
    (Builtin.append_ ts ty #[.slice A len cap, x]).run P w = .ok (.slice (some ⟨w.heap.size, 0, none⟩) (len + n) (grownCap w (len + n) cap e)) (w.drew.alloc (.cells (olds.toArray ++ rs.toArray ++ Builtin.zeroCells z.cells (grownCap w (len + n) cap e - (len + n))) e)) := hA.grow hn h62 hb ho
theorem zeroCells_size (z : Array Value) (n : Nat) : (Builtin.zeroCells z n).size = n * z.size := by simp [Builtin.zeroCells]
/-- A block of unknown capacity, made by append. -/
theorem amb_new (R : Rel P μ h w) {vs : List V} {rs : List Value} {c : Array Value} {e : TypeId} {N : Nat} {f : Nat × Nat} (hv : VRs μ vs rs) (hc : ∃ zs : List Value, c.toList = rs ++ zs) (hs : c.size = N * sizeT P e) (hl : vs.length ≤ N * sizeT P e) (hN : N ≤ 9223372036854775807) :
    Rel P (μ.add h.next ⟨w.heap.size, 0, N⟩) (h.new (.cells { l := vs, elem := e, exact := false, rw := true, frz := f })) (w.drew.alloc (.cells c e)) ∧
    Ext μ h w (μ.add h.next ⟨w.heap.size, 0, N⟩) (h.new (.cells { l := vs, elem := e, exact := false, rw := true, frz := f })) (w.drew.alloc (.cells c e)) := by
  obtain ⟨zs, hz⟩ := hc
  refine new_any R _ N (Array.size_push _) (fun r hr => alloc_old w.drew _ hr) rfl rfl rfl ⟨c, e, (0, 0), alloc_last w.drew _, fun i v hi => ?_, fun _ j _ h2 _ _ => by omega, fun _ => rfl, (fun h => by cases h), fun _ _ => ⟨rfl, ?_, hl, hN⟩, fun h => by cases h⟩
  · obtain ⟨r, h1, h2⟩ := (hv.mono (PM.le_add ⟨w.heap.size, 0, N⟩ R.dom)).get hi
    refine ⟨r, ?_, h2⟩
    have hlt := (List.getElem?_eq_some_iff.1 h1).1
    rw [Nat.zero_add, ← Array.getElem?_toList, hz, List.getElem?_append_left hlt]
    exact h1
  · show 0 + N * sizeT P e ≤ c.size
    omega
theorem amb_val {vs : List V} {N n : Nat} (hn : n ≤ N) : VR (μ.add h.next ⟨w.heap.size, 0, N⟩) (.slice (some (h.next, 0)) n (.tl 0)) (.slice (some ⟨w.heap.size, 0, none⟩) n N) :=
  .slice (o := 0) (PM.add_same _ _ _) ⟨Nat.zero_le _, rfl⟩ hn (fun _ => rfl)
/-- It grew: into a block of its own. -/
theorem grow_sound (R : Rel P μ h w) {ts : Array TypeId} {ty e : TypeId} {x : Value} {n : Nat} {rs : List Value} {z : Value} {i : TypeInfo} (hA : AppIn P w ts ty e x n rs z i) {A : Option Addr} {len cap : Nat} (hn : cap < len + n)
    (h62 : len + n ≤ 2 ^ 62) (hb : 2 * (len + n) * i.bytes ≤ 2 ^ 48) {olds : List Value} (ho : (Builtin.firstCells i.size len (.slice A len cap)).run P w.drew = .ok olds.toArray w.drew)
    {old new : List V} (hold : VRs μ old olds) (hnew : VRs μ new rs) (lo : olds.length = len * i.size) (ln : rs.length = n * i.size) (hz : z.cells.size = i.size) (f : Nat × Nat) :
    ∃ r w' μ', (Builtin.append_ ts ty #[.slice A len cap, x]).run P w = .ok r w' ∧ Ext μ h w μ' (h.new (.cells { l := old ++ new, elem := e, exact := false, rw := true, frz := f })) w' ∧
      Rel P μ' (h.new (.cells { l := old ++ new, elem := e, exact := false, rw := true, frz := f })) w' ∧ VR μ' (.slice (some (h.next, 0)) (len + n) (.tl 0)) r := by
  have hge := grownCap_ge w (len + n) cap e
  have hsi : sizeT P e = i.size := sizeT_info hA.info
  have e1 : (len + n) * i.size = olds.length + rs.length := by rw [lo, ln, Nat.add_mul]
  have e2 : (len + n) * i.size ≤ grownCap w (len + n) cap e * i.size := Nat.mul_le_mul_right _ hge
  have hsz : (olds.toArray ++ rs.toArray ++ Builtin.zeroCells z.cells (grownCap w (len + n) cap e - (len + n))).size = grownCap w (len + n) cap e * sizeT P e := by
    rw [Array.size_append, Array.size_append, zeroCells_size, hz, hsi, Nat.sub_mul]
    simp only [List.size_toArray]
    omega
  obtain ⟨h1, h2⟩ := amb_new R (vs := old ++ new) (rs := olds ++ rs) (e := e) (f := f) (hold.append hnew) ⟨(Builtin.zeroCells z.cells (grownCap w (len + n) cap e - (len + n))).toList, by simp⟩ hsz (by
    rw [hsi, List.length_append, hold.length, hnew.length]; omega) (by
    have := grownCap_le_maxLen w (len + n) cap e (by unfold maxLen; omega)
    unfold maxLen at this; omega)
  exact ⟨_, _, _, app_grow hA hn h62 hb ho, h2, h1, amb_val (vs := old ++ new) hge⟩
theorem sameHeap_first {len cap : Nat} {b o sz : Nat} {old : List V} {l : Loc} {A : Addr} (R : Rel P μ h w) (hb : μ b = some l) (hl : loadL h b o (len * sz) = some old) (hA : len * sz ≠ 0 → A = ⟨l.r, l.off + o, none⟩) :
    ∃ olds, VRs μ old olds ∧ olds.length = len * sz ∧ (Builtin.firstCells sz len (.slice (some A) len cap)).run P w.drew = .ok olds.toArray w.drew := by
  obtain ⟨rs, h1, h2, h3⟩ := loadL_zero_addr (P := P) (R.drew (w.drawn + 1)) hb hl hA
  exact ⟨rs, h1, h2, h3⟩
/-- In place, behind the known end. -/
theorem tip_sound (R : Rel P μ h w) {b o len n : Nat} {x : Blk} {l : Loc} {new : List V} {rs : List Value} {sz : Nat} (hb : μ b = some l) (hx : h.get b = some (.cells x)) (hsz : sizeT P x.elem = sz) (hs0 : sz ≠ 0) {k : Nat} (ho : o = k * sz) (hk : k ≤ l.cap)
    (hex : x.exact = false) (hrw : x.rw = true) (hfit : o + len * sz ≤ x.l.length) (hfz : x.frz.2 ≤ o + len * sz) (hcell : new.all V.isCell = true) (hv : VRs μ new rs) (hn : rs.length = n * sz) (hcap : len + n ≤ l.cap - k) :
    ∃ w', (storeCells ⟨l.r, l.off + (o + len * sz), none⟩ rs).run P w = .ok () w' ∧
      Ext μ h w (μ.add h.next ⟨l.r, l.off + o, l.cap - k⟩) ((h.put b .dead).new (.cells { l := (x.l.drop o).take (len * sz) ++ new, elem := x.elem, exact := false, rw := true, frz := (x.frz.1 - o, x.frz.2 - o) })) w' ∧
      Rel P (μ.add h.next ⟨l.r, l.off + o, l.cap - k⟩) ((h.put b .dead).new (.cells { l := (x.l.drop o).take (len * sz) ++ new, elem := x.elem, exact := false, rw := true, frz := (x.frz.1 - o, x.frz.2 - o) })) w' := by
  obtain ⟨ob, hob, hR⟩ := R.ob b l hb
  rw [hx] at hob; cases hob
  obtain ⟨c, e, fz, hr, hc, hf, he, hx1, hx2, hx3⟩ := hR
  obtain ⟨g1, g2, g3, g4⟩ := hx2 hex hrw
  replace hf := hf hrw
  have hwr : writable (h.get b) := by rw [hx]; exact hrw
  subst g1
  have g2' : l.off + l.cap * sz ≤ c.size := by rw [← hsz]; exact g2
  have g3' : x.l.length ≤ l.cap * sz := by rw [← hsz]; exact g3
  have hlen := hv.length
  have m1 : (len + n) * sz ≤ (l.cap - k) * sz := Nat.mul_le_mul_right _ hcap
  rw [Nat.add_mul, Nat.sub_mul, ← ho] at m1
  have m2 : o ≤ l.cap * sz := by rw [ho]; exact Nat.mul_le_mul_right _ hk
  have hin : ∀ j, j < rs.length → l.off + (o + len * sz) + j < c.size := fun j hj => by omega
  have hrun := run_storeCells_cells (P := P) l.r (l.off + (o + len * sz)) rs 0 w
    (fun j hj => by
      have := hin j hj
      rw [cell_of hr, Nat.add_zero, Array.getElem?_eq_getElem this]; rfl)
    (fun j hj => by
      simp only [World.frozen?, hr]
      by_cases hz : fz.1 ≤ l.off + (o + len * sz) + 0 + j ∧ l.off + (o + len * sz) + 0 + j < fz.2
      · have h2 := hf _ hz.1 hz.2 (.inr (by have := hin j hj; omega)) (by omega)
        omega
      · simp only [Bool.and_eq_false_iff, decide_eq_false_iff_not]
        omega) (hv.oneCells hcell)
  rw [Nat.add_zero] at hrun
  obtain ⟨a1, a2, a3, a4, a5, a6, c', a7, a8, a9⟩ := setCells_facts l.r rs (l.off + (o + len * sz)) w c x.elem fz hr
  refine ⟨_, hrun, ?_⟩
  have hle := PM.le_add ⟨l.r, l.off + o, l.cap - k⟩ R.dom
  have hbn : b ≠ h.next := Nat.ne_of_lt (R.dom b l hb)
  have hoth : ∀ b2 l2, μ b2 = some l2 → b2 ≠ b → l2.r = l.r → h.get b2 = some .dead := fun b2 l2 h2 hne2 hrr => by
    exact (R.sep b l b2 l2 hb h2 (Ne.symm hne2) hrr.symm).writable hwr
  have hnx : (h.put b .dead).next = h.next := rfl
  have getO : ∀ b2, b2 ≠ h.next → b2 ≠ b → ((h.put b .dead).new (.cells { l := (x.l.drop o).take (len * sz) ++ new, elem := x.elem, exact := false, rw := true, frz := (x.frz.1 - o, x.frz.2 - o) })).get b2 = h.get b2 := fun b2 h1 h2 => by
    rw [Hp.get_new_ne _ (by rw [hnx]; exact Ne.symm h1), Hp.get_put_ne _ (Ne.symm h2)]
  have getB : ((h.put b .dead).new (.cells { l := (x.l.drop o).take (len * sz) ++ new, elem := x.elem, exact := false, rw := true, frz := (x.frz.1 - o, x.frz.2 - o) })).get b = some .dead := by
    rw [Hp.get_new_ne _ (by rw [hnx]; exact Ne.symm hbn), Hp.get_put_same]
  have hpre : ((x.l.drop o).take (len * sz)).length = len * sz := by rw [List.length_take, List.length_drop]; omega
  refine ⟨⟨hle, by rw [Hp.next_new, hnx]; omega, fun b2 l2 h2 => ?_, a1, a2, a3, Nat.le_of_eq a4.symm, fun ro r hr2 hu => ?_⟩, fun b2 l2 h2 => ?_, fun b2 l2 h2 => ?_, fun b1 l1 b2 l2 h1 h2 hne2 hrr => ?_, fun g hg => hle _ _ (R.glob g hg), fun b2 l2 h2 => ?_⟩
  · rcases PM.add_inv h2 with ⟨rfl, rfl⟩ | ⟨hne, h2⟩
    · exact .inr (Nat.le_refl _)
    · exact .inl h2
  · have hrl : r ≠ l.r := fun he => hu.not hb hwr he.symm
    refine ⟨a6 r hrl, fun b2 l2 h2 h3 => ?_⟩
    rcases PM.add_inv h2 with ⟨rfl, rfl⟩ | ⟨hne, h2⟩
    · exact (hrl h3.symm).elim
    · have hbb : b2 ≠ b := fun he => by subst he; rw [hb] at h2; cases h2; exact hrl h3.symm
      rw [getO b2 hne hbb]
      exact hu b2 l2 h2 h3
  · rcases PM.add_inv h2 with ⟨rfl, rfl⟩ | ⟨hne, h2⟩
    · refine ⟨_, Hp.get_new_same (h.put b .dead) _, c', x.elem, fz, a7, fun i v hi => ?_, fun _ j j1 j2 j3 j4 => ?_, fun _ => rfl, (fun h => by cases h), fun _ _ => ⟨rfl, ?_, ?_, by dsimp only; omega⟩, fun h => by cases h⟩
      · dsimp only at hi ⊢
        rw [a9]
        by_cases hi1 : i < len * sz
        · rw [List.getElem?_append_left (by omega), List.getElem?_take, if_pos hi1, List.getElem?_drop] at hi
          rw [if_neg (by omega)]
          obtain ⟨r, k1, k2⟩ := hc _ _ hi
          exact ⟨r, by rw [← k1]; congr 1; omega, k2.mono hle⟩
        · rw [List.getElem?_append_right (by omega), hpre] at hi
          obtain ⟨r, k1, k2⟩ := hv.get hi
          have := (List.getElem?_eq_some_iff.1 k1).1
          rw [if_pos ⟨by omega, by omega, by have := hin (i - len * sz) (by omega); omega⟩]
          exact ⟨r, by rw [← k1]; congr 1; omega, k2.mono hle⟩
      · dsimp only at j3 j4 ⊢
        have h5 := hf j j1 j2 (j3.elim (fun h => by cases h) (fun h => .inr (by omega))) (by omega)
        omega
      · dsimp only
        rw [a8, show P.cellsOf x.elem = sz from hsz, Nat.sub_mul, ← ho]
        omega
      · dsimp only
        rw [List.length_append, hpre, hlen, hn, show P.cellsOf x.elem = sz from hsz, Nat.sub_mul, ← ho]
        omega
    · by_cases hbb : b2 = b
      · subst hbb; exact ⟨_, getB, trivial⟩
      · obtain ⟨o2, h3, h4⟩ := R.ob b2 l2 h2
        refine ⟨o2, by rw [getO b2 hne hbb]; exact h3, ?_⟩
        by_cases hrr : l2.r = l.r
        · have h5 := hoth b2 l2 h2 hbb hrr
          rw [h3] at h5; cases h5; trivial
        · exact h4.frame hle (a6 _ hrr)
  · rw [Hp.next_new, hnx]
    rcases PM.add_inv h2 with ⟨rfl, rfl⟩ | ⟨hne, h2⟩
    · omega
    · have := R.dom b2 l2 h2; omega
  · have dead_of : ∀ b3 l3, μ b3 = some l3 → b3 ≠ h.next → l3.r = l.r → ((h.put b .dead).new (.cells { l := (x.l.drop o).take (len * sz) ++ new, elem := x.elem, exact := false, rw := true, frz := (x.frz.1 - o, x.frz.2 - o) })).get b3 = some .dead := fun b3 l3 h3 hn3 hr3 => by
      by_cases hb3 : b3 = b
      · subst hb3; exact getB
      · rw [getO b3 hn3 hb3]; exact hoth b3 l3 h3 hb3 hr3
    rcases PM.add_inv h1 with ⟨rfl, rfl⟩ | ⟨hne1, h1⟩
    · rcases PM.add_inv h2 with ⟨rfl, rfl⟩ | ⟨hne3, h2⟩
      · exact (hne2 rfl).elim
      · exact .inr (.inl (dead_of b2 l2 h2 hne3 hrr.symm))
    · rcases PM.add_inv h2 with ⟨rfl, rfl⟩ | ⟨hne3, h2⟩
      · exact .inl (dead_of b1 l1 h1 hne1 hrr)
      · by_cases hb1 : b1 = b
        · subst hb1; exact .inl getB
        · by_cases hb2 : b2 = b
          · subst hb2; exact .inr (.inl getB)
          · rw [getO b1 hne1 hb1, getO b2 hne3 hb2]; exact R.sep b1 l1 b2 l2 h1 h2 hne2 hrr
  · rw [a4]
    rcases PM.add_inv h2 with ⟨rfl, rfl⟩ | ⟨hne, h2⟩
    · exact R.low b l hb
    · exact R.low b2 l2 h2

theorem append_core (R : Rel P μ h w) {ts : Array TypeId} {ty t e : TypeId} {a : Option (Nat × Nat)} {len n : Nat} {c : Cap} {s' x' : Value} {new : List V} (h0 : ts[0]? = some t) (ht : P.underlying t = some (.slice e)) (hw : wfT P t = true)
    (hs : VR μ (.slice a len c) s') {i : TypeInfo} (hi : P.info? e = some i) {rs : List Value} (hnew : VRs μ new rs) (ln : rs.length = n * i.size)
    (hap : ∀ zv, i.zero = some zv → zv.cells.size = i.size → n ≤ 2 ^ 62 → n * i.bytes ≤ 2 ^ 48 → AppIn P w ts ty e x' n rs zv i) :
    OutR P μ h w (do Pure.pure (.value (← Builtin.append_ ts ty #[s', x']))) (appendV P h e a len c new n) := by
  have hsi : sizeT P e = i.size := sizeT_info hi
  unfold appendV
  dsimp only
  split
  · trivial
  · rename_i hg
    simp only [Bool.or_eq_true, decide_eq_true_eq, not_or, Bool.not_eq_true', Bool.not_eq_false', hi, Option.map_some, Option.getD_some, Bool.not_eq_eq_eq_not, Bool.not_true, Bool.not_eq_false, Option.any_eq_true] at hg
    obtain ⟨⟨hg1, hg2⟩, z0, hz0, hz1⟩ := hg
    have hz0' := hz0
    unfold zeroT at hz0'
    simp only [Option.bind_eq_some_iff, Option.map_eq_some_iff, hi, Option.some.injEq] at hz0'
    obtain ⟨zv, ⟨_, rfl, hzv⟩, q, hq, rfl⟩ := hz0'
    have hzs : zv.cells.size = i.size := by
      have e2 := (toV_sound (μ := μ) zv hq).cells.length
      have e3 : zv.cells.size = zv.cells.toList.length := (Array.length_toList).symm
      rw [e3, ← e2, ← hsi]
      simpa using hz1
    have h62 : len + n ≤ 2 ^ 62 := by omega
    have hb : 2 * (len + n) * i.bytes ≤ 2 ^ 48 := by omega
    have hA : AppIn P w ts ty e x' n rs zv i := hap zv hzv hzs (by omega) (by
      have : n * i.bytes ≤ 2 * (len + n) * i.bytes := Nat.mul_le_mul_right _ (by omega)
      omega)
    split
    · -- a known capacity
      rename_i m _
      split
      · rename_i hfit
        cases hs with
        | sliceN hle =>
          refine OutR.ofVal ⟨_, w, μ, app_room hA hfit rfl, .refl _ _ _, R, .sliceN hfit⟩
        | @slice b o _ cap _ l A hb' hc hle ha =>
          simp only [Cap.ok] at hc
          subst hc
          dsimp only
          unfold orBad
          split
          · rename_i h' hst
            obtain ⟨w', g1, g2, g3, _⟩ := storeL_sound R hb' hnew hst
            refine OutR.ofVal ⟨_, w', μ, app_room hA hfit ?_, g2, g3, .slice hb' rfl hfit ha⟩
            by_cases hc0 : cap = 0
            · have : rs = [] := List.eq_nil_of_length_eq_zero (by rw [ln, show n = 0 by omega]; simp)
              subst this
              have e1 : w' = w := by
                have : (storeCells ⟨l.r, l.off + (o + len * sizeT P e), none⟩ []).run P w = .ok () w := rfl
                rw [this] at g1
                injection g1 with _ e
                exact e.symm
              rw [e1]; rfl
            · rw [ha hc0]; dsimp only; rw [add_addr, ← hsi]; exact g1
          · trivial
      · rename_i hfit
        cases hs with
        | sliceN hle =>
          dsimp only
          split
          · rename_i hl0
            simp only [Bool.and_eq_true, decide_eq_true_eq] at hl0
            obtain ⟨rfl, hcell⟩ := hl0
            unfold newAmb
            obtain ⟨r, w', μ', g1, g2, g3, g4⟩ := grow_sound R hA (A := none) (len := 0) (Nat.lt_of_not_le hfit) h62 hb (olds := []) rfl (.nil) hnew (by simp) ln hzs (0, 0)
            refine OutR.ofVal ⟨r, w', μ', g1, g2, g3, g4⟩
          · trivial
        | @slice b o _ cap _ l A hb' hc hle ha =>
          simp only [Cap.ok] at hc
          subst hc
          dsimp only
          unfold orBad
          split
          · rename_i old hold
            split
            · obtain ⟨olds, k1, k2, k3⟩ := sameHeap_first (w := w) (len := len) (sz := i.size) (cap := cap) (A := A) R hb' (by rw [← hsi]; exact hold) (fun hne => ha (fun hc0 => hne (by rw [show len = 0 by omega]; simp)))
              unfold newAmb
              obtain ⟨r, w', μ', g1, g2, g3, g4⟩ := grow_sound R hA (A := some A) (len := len) (by omega) h62 hb k3 k1 hnew k2 ln hzs (0, 0)
              exact OutR.ofVal ⟨r, w', μ', g1, g2, g3, g4⟩
            · trivial
          · trivial
    · rename_i k b o
      cases hs with
      | @slice _ _ _ cap _ l A hb' hc hle ha =>
      simp only [Cap.ok] at hc
      split
      · rename_i hn0
        subst hn0
        refine OutR.ofVal ⟨_, w, μ, app_room hA (by omega) ?_, .refl _ _ _, R, ?_⟩
        · have : rs = [] := List.eq_nil_of_length_eq_zero (by rw [ln]; simp)
          subst this; rfl
        · exact .slice hb' hc hle ha
      · rename_i hn0
        split
        · rename_i xb hxb
          split
          · trivial
          · rename_i hcond
            replace hcond : (!xb.exact && xb.rw && xb.elem == e && o == k * sizeT P e && sizeT P e != 0) = true := by
              cases hq2 : (!xb.exact && xb.rw && xb.elem == e && o == k * sizeT P e && sizeT P e != 0) with
              | true => rfl
              | false => rw [hq2] at hcond; exact absurd rfl hcond
            simp only [Bool.and_eq_true, Bool.not_eq_true', beq_iff_eq, bne_iff_ne, ne_eq] at hcond
            obtain ⟨⟨⟨⟨hex, hrw0⟩, rfl⟩, ho⟩, hsz0⟩ := hcond
            obtain ⟨ob, hob, hR⟩ := R.ob b l hb'
            rw [hxb] at hob; cases hob
            obtain ⟨cc, ee, fz, hr, hcc, hf, he, hx1, hx2, hx3⟩ := hR
            obtain ⟨y1, y2, y3, y4⟩ := hx2 hex hrw0
            split
            · rename_i hin
              have hfit : len + n ≤ cap := by
                have q1 : (k + (len + n)) * sizeT P xb.elem ≤ l.cap * sizeT P xb.elem := by
                  rw [Nat.add_mul]
                  have : P.cellsOf xb.elem = sizeT P xb.elem := rfl
                  rw [this] at y3
                  omega
                have := Nat.le_of_mul_le_mul_right q1 (Nat.pos_of_ne_zero hsz0)
                omega
              unfold orBad
              split
              · rename_i h' hst
                obtain ⟨w', g1, g2, g3, _⟩ := storeL_sound R hb' hnew hst
                refine OutR.ofVal ⟨_, w', μ, app_room hA hfit ?_, g2, g3, .slice hb' hc hfit ha⟩
                rw [ha (by omega)]; dsimp only; rw [add_addr, ← hsi]; exact g1
              · trivial
            · split
              · rename_i hcond2
                simp only [Bool.and_eq_true, decide_eq_true_eq] at hcond2
                obtain ⟨⟨⟨hfit2, hrw⟩, hcell⟩, hfz⟩ := hcond2
                by_cases hroom : len + n ≤ cap
                · obtain ⟨w', g1, g2, g3⟩ := tip_sound (n := n) R hb' hxb rfl hsz0 ho hc.1 hex hrw hfit2 hfz hcell hnew (by rw [ln, hsi]) (by omega)
                  refine OutR.ofVal ⟨_, w', _, app_room hA hroom ?_, g2, g3, ?_⟩
                  · rw [ha (by omega)]; dsimp only; rw [add_addr, ← hsi]; exact g1
                  · exact .slice (o := 0) (PM.add_same _ _ _) ⟨Nat.zero_le _, by dsimp only; omega⟩ hroom (fun h0 => ha h0)
                · have hload : loadL h b o (len * sizeT P xb.elem) = some ((xb.l.drop o).take (len * sizeT P xb.elem)) := by
                    unfold loadL
                    rw [hxb]
                    dsimp only
                    rw [if_pos hfit2]
                  obtain ⟨olds, k1, k2, k3⟩ := sameHeap_first (w := w) (len := len) (sz := i.size) (cap := cap) (A := A) R hb' (by rw [← hsi]; exact hload) (fun hne => ha (fun hc0 => hne (by rw [show len = 0 by omega]; simp)))
                  obtain ⟨d1, d2⟩ := dead_sound R b
                  obtain ⟨r, w', μ', g1, g2, g3, g4⟩ := grow_sound d1 hA (A := some A) (len := len) (by omega) h62 hb k3 k1 hnew k2 ln hzs (xb.frz.1 - o, xb.frz.2 - o)
                  exact OutR.ofVal ⟨r, w', μ', g1, d2.trans g2, g3, g4⟩
              · trivial
        · trivial
    · trivial
theorem append_sound (R : Rel P μ h w) {ts : Array TypeId} {ty t e : TypeId} {a : Option (Nat × Nat)} {len n : Nat} {c : Cap} {x : V} {s' x' : Value} {new : List V} (h0 : ts[0]? = some t) (ht : P.underlying t = some (.slice e)) (hw : wfT P t = true)
    (h1 : (match ts[1]? with | none => true | some u => (match P.underlying u with | none | some (.int _) => false | _ => true)) = true)
    (hs : VR μ (.slice a len c) s') (hx : VR μ x x') (hsrc : srcCells h (sizeT P e) x = some (n, new)) :
    OutR P μ h w (do Pure.pure (.value (← Builtin.append_ ts ty #[s', x']))) (appendV P h e a len c new n) := by
  obtain ⟨i, hi⟩ := wf_slice hw ht
  have hsi : sizeT P e = i.size := sizeT_info hi
  obtain ⟨rs, hnew, ln, hS⟩ := src_sound R hx hsrc
  rw [hsi] at ln hS
  exact append_core R h0 ht hw hs hi hnew ln fun zv hzv _ _ _ => AppSrc.app ⟨⟨t, h0, ht⟩, h1, hi, hzv, hS⟩
/-- append of what a make made. -/
theorem zeros_app {ts : Array TypeId} {ty t u e : TypeId} {k : IntKind} {n : Nat} {z : Value} {i : TypeInfo} (h0 : ts[0]? = some t) (ht : P.underlying t = some (.slice e)) (hu : ts[1]? = some u) (huk : P.underlying u = some (.int k)) (hi : P.info? e = some i) (hz : i.zero = some z) (hzs : z.cells.size = i.size)
    (hn62 : n ≤ 2 ^ 62) (hnb : n * i.bytes ≤ 2 ^ 48) : AppIn P w ts ty e (.int .i64 (n : Int)) n (if n * i.size = 0 then [] else (Builtin.zeroCells z.cells n).toList) z i := by
  have hwr : IntKind.i64.wrap (n : Int) = (n : Int) := by
    unfold IntKind.wrap
    simp only [IntKind.bits, IntKind.signed, Bool.true_and, decide_eq_true_eq, show ((2 : Int) ^ (64 - 1 : Nat)) = 9223372036854775808 from rfl, show ((2 : Int) ^ (64 : Nat)) = 18446744073709551616 from rfl]
    split <;> omega
  have hneg : ¬ ((n : Int) < 0) := by omega
  have hb2 : ¬ ((281474976710656 : Int) < (n : Int) * (i.bytes : Int)) := by
    have : (n : Int) * (i.bytes : Int) = ((n * i.bytes : Nat) : Int) := by simp
    omega
  refine ⟨hi, fun {A len cap w'} h1 h2 => ?_, fun {A len cap olds} h1 h2 h3 h4 => ?_⟩
  · by_cases h00 : n * i.size = 0
    · rw [if_pos h00] at h2
      cases A with
      | none =>
        simp only at h2
        subst h2
        simp [Builtin.append_, h0, hu, run_underlying ht, run_underlying huk, sizeOf, typeInfo, hi, asInt, asIntOf, hwr, hb2, h1, hneg, h00]
      | some a =>
        simp only at h2
        simp [Builtin.append_, h0, hu, run_underlying ht, run_underlying huk, sizeOf, typeInfo, hi, asInt, asIntOf, hwr, hb2, h1, hneg, h00, h2]
    · rw [if_neg h00] at h2
      cases A with
      | none =>
        simp only at h2
        subst h2
        simp [Builtin.append_, h0, hu, run_underlying ht, run_underlying huk, sizeOf, typeInfo, hi, asInt, asIntOf, hwr, hb2, h1, hneg, h00, zeroValue, hz]
      | some a =>
        simp only at h2
        simp [Builtin.append_, h0, hu, run_underlying ht, run_underlying huk, sizeOf, typeInfo, hi, asInt, asIntOf, hwr, hb2, h1, hneg, h00, zeroValue, hz, h2]
  · have hn' : ¬ (len + n ≤ cap) := by omega
    have h63' : ¬ (9223372036854775807 < ((len : Int) + (n : Int))) := by omega
    have hfit : Builtin.nextslicecap (len + n) cap * i.bytes ≤ 281474976710656 := by
      have h1 : Builtin.nextslicecap (len + n) cap * i.bytes ≤ 2 * (len + n) * i.bytes := Nat.mul_le_mul_right _ (nextslicecap_le h1)
      omega
    have h48' : ¬ (281474976710656 < Builtin.nextslicecap (len + n) cap * i.bytes) := by omega
    by_cases h00 : n * i.size = 0
    · simp [Builtin.append_, h0, hu, run_underlying ht, run_underlying huk, sizeOf, typeInfo, hi, asInt, asIntOf, hwr, hb2, hneg, hn', h63', h48', h00, zeroValue, hz, Question.forced, h4, newRow, grownCap, -Array.append_assoc]
    · simp [Builtin.append_, h0, hu, run_underlying ht, run_underlying huk, sizeOf, typeInfo, hi, asInt, asIntOf, hwr, hb2, hneg, hn', h63', h48', h00, zeroValue, hz, Question.forced, h4, newRow, grownCap, -Array.append_assoc]
/-- What is appended there: zeros. -/
theorem zeroCells_sound {z : List V} {zv : Value} (hz : VRs μ z zv.cells.toList) {n s : Nat} (hs : z.length = s) : VRs μ (reps n z) (if n * s = 0 then [] else (Builtin.zeroCells zv.cells n).toList) ∧ (if n * s = 0 then [] else (Builtin.zeroCells zv.cells n).toList).length = n * s := by
  have hzs : zv.cells.size = s := by rw [← hs, hz.length, Array.length_toList]
  by_cases h0 : n * s = 0
  · rw [if_pos h0, List.eq_nil_of_length_eq_zero (show (reps n z).length = 0 by rw [reps_length, hs]; exact h0)]
    exact ⟨.nil, by simp [h0]⟩
  · rw [if_neg h0]
    have hl : (Builtin.zeroCells zv.cells n).toList.length = n * s := by rw [Array.length_toList, zeroCells_size, hzs]
    refine ⟨VRs.of_get (by rw [reps_length, hs, hl]) fun i v r hv hr => ?_, hl⟩
    have hi : i < n * s := by
      have := (List.getElem?_eq_some_iff.1 hr).1
      rwa [hl] at this
    have hpos : 0 < s := by
      rcases Nat.eq_zero_or_pos s with h | h
      · subst h; simp at h0
      · exact h
    rw [reps_get z n i (by rw [hs]; exact hi), hs] at hv
    obtain ⟨r', k1, k2⟩ := hz.get hv
    have : r = r' := by
      rw [Array.getElem?_toList] at hr k1
      unfold Builtin.zeroCells at hr
      rw [Array.getElem?_map, Array.getElem?_range, if_pos (by rw [hzs]; exact hi)] at hr
      simp only [Option.map_some, Option.some.injEq, hzs] at hr
      rw [← hr]
      have hlt : i % s < zv.cells.size := by rw [hzs]; exact Nat.mod_lt _ hpos
      rw [Array.getElem?_eq_getElem hlt] at k1
      rw [getElem!_pos zv.cells _ hlt]
      exact Option.some.inj k1
    rw [this]
    exact k2
end Go.Vm
/- What the other operations come to; functions without a body are taken as told (VmExt). -/
namespace Go.Vm
open Go.RowKit

variable {P : Program} {μ : PM} {h : Hp} {w : World} {F : Frm} {a : Act}

theorem follow_sound : ∀ (path : List FieldStep) (t : TypeId) (v : V) (v' : Value) (xt : TypeId) (x : V), followV P path t v = some (xt, x) → VR μ v v' → ∃ x', VR μ x x' ∧ Yields P (follow path t (.val v')) (xt, .val x')
  | [], t, v, v', xt, x, h, hv => by
    simp only [followV, Option.some.injEq, Prod.mk.injEq] at h
    obtain ⟨rfl, rfl⟩ := h
    exact ⟨v', hv, .pure _⟩
  | s :: rest, t, v, v', xt, x, h, hv => by
    simp only [followV] at h
    split at h
    · cases h
    · rename_i hd
      split at h
      · rename_i fs l hfs
        split at h
        · rename_i f hf
          split at h
          · rename_i hu
            split at h
            · rename_i y hy
              cases hv with | @agg _ l' hl =>
              obtain ⟨d, hd2⟩ := Option.isSome_iff_exists.1 hu
              obtain ⟨j, hj⟩ := info_of_underlying hd2
              obtain ⟨r, h1, h2⟩ := part_sound hd2 hj hl hy
              obtain ⟨x', g1, g2⟩ := follow_sound rest f.type y r xt x h h1
              refine ⟨x', g1, ?_⟩
              unfold fieldsOf at hfs
              split at hfs
              · rename_i fsa hs
                simp only [Option.some.injEq] at hfs
                subst hfs
                have hf' : fsa[s.index]? = some f := by rw [← Array.getElem?_toList]; exact hf
                unfold follow
                refine (yields_underlying hs).bind ?_
                simp only [hf']
                show Yields P (if s.deref = true then _ else _) _
                rw [if_neg hd]
                exact h2.bind g2
              · cases hfs
            · cases h
          · cases h
        · cases h
      · cases h
theorem method_sound {t : TypeId} {v x : V} {v' : Value} {name : String} {f : FuncId} (hm : methodV P t v name = some (f, x)) (hv : VR μ v v') (n : Nat) : ∃ x', VR μ x x' ∧ Yields P (method (n + 1) t v' name) (f, x') := by
  unfold methodV at hm
  split at hm
  · rename_i m hfind
    simp only [Option.bind_eq_some_iff] at hfind
    obtain ⟨i, hi, hfind⟩ := hfind
    split at hm
    · rename_i xt y g ptr hfo hfu
      obtain ⟨y', h1, h2⟩ := follow_sound m.path.toList t v v' xt y hfo hv
      have fin : ∀ {r : Value}, Yields P (receiverAt xt (.val y') ptr (if m.path.isEmpty then some ((name.splitOn ".").getLastD name) else none)) r → Yields P (method (n + 1) t v' name) (g, r) := fun hr => by
        unfold method
        refine (yields_typeInfo hi).bind ?_
        simp only [hfind]
        refine h2.bind ?_
        simp only [hfu]
        exact hr.bind (.pure _)
      split at hm
      · rename_i e hxt
        split at hm
        · rename_i hp
          simp only [Option.some.injEq, Prod.mk.injEq] at hm
          obtain ⟨rfl, rfl⟩ := hm
          subst hp
          refine ⟨y', h1, fin ?_⟩
          unfold receiverAt
          refine (yields_underlying hxt).bind ?_
          exact .pure _
        · cases hm
      · rename_i d hnp hxt
        split at hm
        · cases hm
        · rename_i hp
          simp only [Option.some.injEq, Prod.mk.injEq] at hm
          obtain ⟨rfl, rfl⟩ := hm
          simp only [Bool.not_eq_true] at hp
          subst hp
          refine ⟨y', h1, fin ?_⟩
          unfold receiverAt
          refine (yields_underlying hxt).bind ?_
          cases d <;> first | exact .pure _ | (exfalso; exact hnp _ rfl)
      · cases hm
    · cases hm
  · cases hm

/-- Functions without a body: as the table of externs tells. -/
def ExtOk (P : Program) : Prop := ∀ (μ : PM) (h : Hp) (w : World) (f : FuncId) (fn : Func) (args : List V) (rs : List Value), Rel P μ h w → P.funcs[f]? = some fn → fn.body = none → VRs μ args rs →
  OutR P μ h w (callFunc f rs.toArray) (externV P h fn.name args)
/-- No function that has a body is 'runtime.NumGoroutine'. -/
def NumOk (P : Program) : Prop := ∀ (f : FuncId) (fn : Func), P.funcs[f]? = some fn → fn.name ≠ "runtime.NumGoroutine"

theorem OutR.congr {s s' : Sem Next} {o : OR} (e : s'.run P w = s.run P w) (k : OutR P μ h w s o) : OutR P μ h w s' o := by
  cases o <;> simp only [OutR] at k ⊢ <;> first | trivial | (simpa only [e] using k)
theorem call_sound (hE : ExtOk P) (hN : NumOk P) (R : Rel P μ h w) {f : FuncId} {args : List V} {rs : List Value} (ha : VRs μ args rs) : OutR P μ h w (callFunc f rs.toArray) (callV P h f args) := by
  unfold callV
  split
  · trivial
  · rename_i fn hf
    split
    · rename_i hb
      exact hE μ h w f fn args rs R hf (by simpa using hb) ha
    · rename_i hb
      refine ⟨rs, ha, ?_⟩
      have hn := hN f fn hf
      unfold callFunc
      simp [hf, hn, hb]
      intro hnone
      simp [hnone] at hb
theorem invoke_sound (hE : ExtOk P) (hN : NumOk P) (R : Rel P μ h w) {f : V} {f' : Value} {args : List V} {rs : List Value} (hf : VR μ f f') (ha : VRs μ args rs) :
    OutR P μ h w (do let d ← Deferred.ofValue f' rs.toArray; invoke d.target d.args) (invokeV P h f args) := by
  unfold invokeV
  split
  · rename_i g first caps
    cases hf with | @func _ _ _ fs' cs' h1 h2 =>
    refine OutR.congr (s := callFunc g ((fs' ++ rs ++ cs')).toArray) ?_ (call_sound hE hN R ((h1.append ha).append h2))
    simp [Deferred.ofValue, invoke]
  · rename_i l
    cases hf with | @yield _ ld hl =>
    refine ⟨ld, rs, hl, ha, ?_⟩
    simp [Deferred.ofValue, invoke]
  · trivial

theorem convertBytes_sound (R : Rel P μ h w) {s d e : TypeId} {u : TypeDesc} {q : List UInt8} (hs : P.underlying s = some u) (hd : P.underlying d = some (.slice e)) (he : P.underlying e = some (.int .u8)) (h1 : sizeT P e = 1) (h40 : q.length ≤ 2 ^ 40) :
    OutR P μ h w (do Pure.pure (.value (← convert s d (.string ⟨q.toArray⟩)))) (newAmb h (ofBytes q) e q.length) := by
  unfold newAmb
  have hge := grownCap_ge w (⟨q.toArray⟩ : ByteArray).size 0 e
  have hsize : (⟨q.toArray⟩ : ByteArray).size = q.length := by simp [ByteArray.size]
  rw [hsize] at hge
  have hc : (Lib.bytesCells w e ⟨q.toArray⟩).toList = (q.map fun b => Value.int .u8 (b.toNat : Int)) ++ (Array.replicate (grownCap w q.length 0 e - q.length) (Value.int .u8 0)).toList := by
    simp [Lib.bytesCells, hsize]
  have hcs : (Lib.bytesCells w e ⟨q.toArray⟩).size = grownCap w q.length 0 e := by
    rw [← Array.length_toList, hc]
    simp
    omega
  obtain ⟨g1, g2⟩ := new_any (P := P) (w' := Lib.bytesWorld w e ⟨q.toArray⟩) R (.cells { l := ofBytes q, elem := e, exact := false, rw := true, frz := (0, 0) }) (grownCap w q.length 0 e) (Lib.bytesWorld_size w e _) (fun r hr => Lib.bytesWorld_at_old w e _ r hr)
    (by simp [Lib.bytesWorld, World.freeze, World.alloc, World.drew, -World.alloc_eq, -World.drew_eq]) (by simp [Lib.bytesWorld, World.freeze, World.alloc, World.drew, -World.alloc_eq, -World.drew_eq]) (by simp [Lib.bytesWorld, World.freeze, World.alloc, World.drew, -World.alloc_eq, -World.drew_eq])
    ⟨_, e, _, Lib.bytesWorld_at_new w e _, fun i v hi => by
      obtain ⟨r, k1, k2⟩ := (ofBytes_sound (μ := μ.add h.next ⟨w.heap.size, 0, grownCap w q.length 0 e⟩) q).get hi
      refine ⟨r, ?_, k2⟩
      have hlt := (List.getElem?_eq_some_iff.1 k1).1
      rw [Nat.zero_add, ← Array.getElem?_toList, hc, List.getElem?_append_left hlt]
      exact k1, fun _ j j1 j2 j3 _ => by
      rcases j3 with h3 | h3
      · cases h3
      · dsimp only at j1; omega, fun _ => rfl, (fun h => by cases h), fun _ _ => ⟨rfl, by
      dsimp only
      rw [show P.cellsOf e = 1 from h1, hcs]; omega, by
      dsimp only
      rw [show P.cellsOf e = 1 from h1]
      simp only [ofBytes, List.length_map]; omega, by
      have := grownCap_le_maxLen w q.length 0 e (by unfold maxLen; omega)
      unfold maxLen at this; dsimp only; omega⟩, fun h => by cases h⟩
  refine OutR.ofVal ⟨_, _, _, Lib.run_convert_string_bytes w s d e ⟨q.toArray⟩ hs hd he, g2, g1, ?_⟩
  rw [hsize]
  exact amb_val (vs := ofBytes q) hge

theorem OutR.iteE {C : Prop} [Decidable C] {s : Sem Next} {o o2 : OR} (k : C → OutR P μ h w s o) (k2 : ¬ C → OutR P μ h w s o2) : OutR P μ h w s (if C then o else o2) := by
  split
  · rename_i hc; exact k hc
  · rename_i hc; exact k2 hc
theorem append_all (R : Rel P μ h w) {tys : Array TypeId} {ty : TypeId} {A : Option (Nat × Nat)} {len : Nat} {c : Cap} {x : V} {s' x' : Value} (h1 : VR μ (.slice A len c) s') (h2 : VR μ x x') (hty : ∀ t ∈ tys.toList.take 1, wfT P t = true) :
    OutR P μ h w (do Pure.pure (.value (← Builtin.append_ tys ty #[s', x']))) (builtinV P h .append tys [.slice A len c, x]) := by
  unfold builtinV
  dsimp only
  split
  · rename_i e hte
    simp only [Option.bind_eq_some_iff] at hte
    obtain ⟨t, ht0, hte⟩ := hte
    have hw : wfT P t = true := hty t (by
      rw [List.mem_iff_getElem?]
      exact ⟨0, by simp [List.getElem?_take, ht0]⟩)
    refine OutR.iteE (fun hts => ?_) (fun hts => ?_)
    · unfold orBad
      split
      · rename_i p hsrc
        obtain ⟨n, new⟩ := p
        exact append_sound R ht0 hte hw hts h1 h2 hsrc
      · trivial
    · split
      · rename_i ki k hu
        split
        · rename_i hkk
          simp only [Bool.and_eq_true, decide_eq_true_eq] at hkk
          obtain ⟨n, rfl⟩ := Int.eq_ofNat_of_zero_le hkk.1
          rw [Int.toNat_natCast]
          have hn40 : n ≤ 2 ^ 40 := by
            have := hkk.2
            omega
          unfold orBad
          split
          · rename_i z hz
            obtain ⟨i, hi⟩ := wf_slice hw hte
            have hsi : sizeT P e = i.size := sizeT_info hi
            have hz' := hz
            unfold zeroT at hz'
            simp only [Option.bind_eq_some_iff, Option.map_eq_some_iff, hi, Option.some.injEq] at hz'
            obtain ⟨zv, ⟨_, rfl, hzv⟩, q, hq, rfl⟩ := hz'
            have hzc := (toV_sound (μ := μ) zv hq).cells
            cases h2
            simp only [Option.bind_eq_some_iff] at hu
            obtain ⟨u, hu1, hu2⟩ := hu
            by_cases hzl : q.cells.length = i.size
            · obtain ⟨k1, k2⟩ := zeroCells_sound (n := n) hzc hzl
              exact append_core R ht0 hte hw h1 hi k1 k2 fun zv' hzv' hsz hn62 hnb => by
                rw [hzv] at hzv'
                cases hzv'
                exact zeros_app ht0 hte hu1 hu2 hi hzv hsz hn62 hnb
            · -- the guard of appendV is not met
              have hg : ((zeroT P e).any fun z => decide (z.length = sizeT P e)) = false := by
                rw [hz, hsi]
                simp [hzl]
              unfold appendV
              simp only [hg, Bool.not_false, Bool.or_true, if_true]
              trivial
          · trivial
        · trivial
      · trivial
  · trivial
theorem src_len {sz n m : Nat} {x : Option (Nat × Nat)} {c : Cap} {new : List V} (h : srcCells h sz (.slice x m c) = some (n, new)) : n = m := by
  unfold srcCells at h
  split at h
  · rename_i b o m' c' he
    cases he
    split at h
    · simp only [Option.some.injEq, Prod.mk.injEq] at h
      exact h.1.symm
    · simp only [Option.map_eq_some_iff, Prod.mk.injEq] at h
      obtain ⟨_, _, rfl, _⟩ := h
      rfl
  · rename_i he
    cases he
    simp only [Option.some.injEq, Prod.mk.injEq] at h
    exact h.1.symm
  · rename_i he; cases he
  · cases h
theorem copy_all (R : Rel P μ h w) {tys : Array TypeId} {ty : TypeId} {A : Option (Nat × Nat)} {len : Nat} {c : Cap} {x : V} {s' x' : Value} (h1 : VR μ (.slice A len c) s') (h2 : VR μ x x') (hty : ∀ t ∈ tys.toList.take 1, wfT P t = true) :
    OutR P μ h w (do Pure.pure (.value (← Builtin.copy_ tys ty #[s', x']))) (builtinV P h .copy tys [.slice A len c, x]) := by
  unfold builtinV
  dsimp only
  cases x <;> try trivial
  rename_i X n c2
  dsimp only
  split
  · rename_i e hte
    simp only [Option.bind_eq_some_iff] at hte
    obtain ⟨t, ht0, ht⟩ := hte
    have hw : wfT P t = true := hty t (by
      rw [List.mem_iff_getElem?]
      exact ⟨0, by simp [List.getElem?_take, ht0]⟩)
    obtain ⟨i, hi⟩ := wf_slice hw ht
    have hsi : sizeT P e = i.size := sizeT_info hi
    have hm : (if n < len then n else len) = Nat.min n len := by
      show _ = min n len
      split <;> omega
    rw [hm]
    have hmn : Nat.min n len ≤ n := Nat.min_le_left _ _
    generalize hmm : Nat.min n len = m at hmn ⊢
    unfold orBad
    split
    · rename_i p hsrc
      obtain ⟨n', new⟩ := p
      obtain rfl : n' = m := src_len hsrc
      obtain ⟨xt, g1, g2, g3⟩ : ∃ xt, VR μ (.slice X n' c2) xt ∧ Builtin.firstCells i.size n' x' = Builtin.firstCells i.size n' xt ∧ Builtin.lenOf x' = Pure.pure n := by
        cases h2 with
        | sliceN hle => exact ⟨_, .sliceN (Nat.le_trans hmn hle), rfl, rfl⟩
        | slice hb hc hl ha => exact ⟨_, .slice hb hc (Nat.le_trans hmn hl) ha, rfl, rfl⟩
      obtain ⟨rs, hnew, ln, _, hS⟩ := src_sound R g1 hsrc
      rw [hsi] at hS
      have e1 : (Builtin.firstCells i.size n' x').run P w = .ok rs.toArray w := by rw [g2]; exact hS w rfl
      cases h1 with
      | sliceN hle =>
        dsimp only
        refine OutR.ofVal ⟨_, w, μ, ?_, .refl _ _ _, R, .int _ _⟩
        simp [Builtin.copy_, ht0, run_underlying ht, g3, hmm, sizeOf, typeInfo, hi, e1, goInt]
      | @slice b o _ cap _ l A' hb hc hl ha =>
        dsimp only
        split
        · rename_i h' hst
          obtain ⟨w', k1, k2, k3, _⟩ := storeL_sound R hb hnew hst
          refine OutR.ofVal ⟨_, w', μ, ?_, k2, k3, .int _ _⟩
          rcases Nat.eq_zero_or_pos cap with h0 | h0
          · have hl0 : len = 0 := by omega
            have hn0 : n' = 0 := by rw [← hmm, hl0]; exact Nat.min_eq_right (Nat.zero_le _)
            have : rs = [] := List.eq_nil_of_length_eq_zero (by rw [ln, hn0, Nat.zero_mul])
            subst this
            have hk : w' = w := by
              have : (storeCells ⟨l.r, l.off + o, none⟩ ([] : List Value)).run P w = .ok () w := rfl
              rw [this] at k1
              cases k1; rfl
            subst hk
            have e2 : (storeCells A' ([] : List Value)).run P w' = .ok () w' := rfl
            simp [Builtin.copy_, ht0, run_underlying ht, g3, hmm, sizeOf, typeInfo, hi, e1, goInt, e2]
          · rw [← ha (by omega)] at k1
            simp [Builtin.copy_, ht0, run_underlying ht, g3, hmm, sizeOf, typeInfo, hi, e1, goInt, k1]
        · trivial
    · trivial
  · trivial
theorem clear_all (R : Rel P μ h w) {tys : Array TypeId} {ty : TypeId} {A : Option (Nat × Nat)} {n : Nat} {c : Cap} {s' : Value} (h1 : VR μ (.slice A n c) s') (hty : ∀ t ∈ tys.toList.take 1, wfT P t = true) :
    OutR P μ h w (do Pure.pure (.value (← Builtin.clear_ tys ty #[s']))) (builtinV P h .clear tys [.slice A n c]) := by
  unfold builtinV
  dsimp only
  split
  · rename_i e b o hte
    simp only [Option.bind_eq_some_iff] at hte
    obtain ⟨t, ht0, ht⟩ := hte
    unfold orBad
    split
    · rename_i z hz
      obtain ⟨r, q1, q2⟩ := zeroT_sound (μ := μ) hz
      cases h1 with
      | @slice b o _ cap _ l A' hb hc hl ha =>
        dsimp only
        split
        · rename_i h' hst
          have hzs : r.cells.size = z.length := by rw [← Array.length_toList, ← q1.length]
          rcases Nat.eq_zero_or_pos n with h0 | h0
          · subst h0
            have : h' = h := by simp [reps, storeL] at hst; exact hst.symm
            subst this
            refine OutR.ofVal ⟨_, w, μ, ?_, .refl _ _ _, R, .tuple .nil⟩
            simp [Builtin.clear_, ht0, run_underlying ht]
          · rcases Nat.eq_zero_or_pos z.length with hz0 | hz0
            · have hz' : z = [] := List.eq_nil_of_length_eq_zero hz0
              subst hz'
              have hr0 : reps n ([] : List V) = [] := List.eq_nil_of_length_eq_zero (by rw [reps_length]; simp)
              rw [hr0] at hst
              have : h' = h := by simp [storeL] at hst; exact hst.symm
              subst this
              refine OutR.ofVal ⟨_, w, μ, ?_, .refl _ _ _, R, .tuple .nil⟩
              have e0 : (Builtin.zeroCells r.cells n).toList = [] := List.eq_nil_of_length_eq_zero (by rw [Array.length_toList, zeroCells_size, hzs]; simp)
              have e2 : (storeCells A' ([] : List Value)).run P w = .ok () w := rfl
              obtain ⟨n, rfl⟩ : ∃ k, n = k + 1 := ⟨n - 1, by omega⟩
              simp [Builtin.clear_, ht0, run_underlying ht, q2 w, e0, e2]
            · have hv := made_sound q1 (n := n) rfl (by
                have := Nat.mul_pos h0 hz0
                omega)
              have hmz : madeCells r.cells (n * z.length) = Builtin.zeroCells r.cells n := by
                rw [← hzs]; rfl
              rw [hmz] at hv
              obtain ⟨w', k1, k2, k3, _⟩ := storeL_sound R hb hv hst
              rw [← ha (by omega)] at k1
              refine OutR.ofVal ⟨_, w', μ, ?_, k2, k3, .tuple .nil⟩
              obtain ⟨n, rfl⟩ : ∃ k, n = k + 1 := ⟨n - 1, by omega⟩
              simp [Builtin.clear_, ht0, run_underlying ht, q2 w, k1]
        · trivial
    · trivial
  · rename_i e hte
    simp only [Option.bind_eq_some_iff] at hte
    obtain ⟨t, ht0, ht⟩ := hte
    cases h1 with
    | sliceN hle =>
      refine OutR.ofVal ⟨_, w, μ, ?_, .refl _ _ _, R, .tuple .nil⟩
      simp [Builtin.clear_, ht0, run_underlying ht]
  · trivial
theorem builtin_sound (R : Rel P μ h w) {b : Builtin} {tys : Array TypeId} {ty : TypeId} {cs : Array Bool} {L : List V} {A : List Value} (hargs : VRs μ L A) (hty : ∀ t ∈ tys.toList.take 1, wfT P t = true) :
    OutR P μ h w (builtin b tys ty cs A.toArray) (builtinV P h b tys L) := by
  cases b
  case append =>
    cases hargs with
    | nil => exact trivial
    | cons h1 ht =>
      cases ht with
      | nil => cases h1 <;> exact trivial
      | cons h2 ht =>
        cases ht with
        | cons h3 ht => cases h1 <;> exact trivial
        | nil =>
          cases h1 with
          | sliceN hle => exact append_all R (.sliceN hle) h2 hty
          | slice hb hc hl ha => exact append_all R (.slice hb hc hl ha) h2 hty
          | _ => exact trivial
  case copy =>
    cases hargs with
    | nil => exact trivial
    | cons h1 ht =>
      cases ht with
      | nil => cases h1 <;> exact trivial
      | cons h2 ht =>
        cases ht with
        | cons h3 ht => cases h1 <;> cases h2 <;> exact trivial
        | nil =>
          cases h1 with
          | sliceN hle => exact copy_all R (.sliceN hle) h2 hty
          | slice hb hc hl ha => exact copy_all R (.slice hb hc hl ha) h2 hty
          | _ => exact trivial
  case clear =>
    cases hargs with
    | nil => exact trivial
    | cons h1 ht =>
      cases ht with
      | cons h2 ht => cases h1 <;> exact trivial
      | nil =>
        cases h1 with
        | sliceN hle => exact clear_all R (.sliceN hle) hty
        | slice hb hc hl ha => exact clear_all R (.slice hb hc hl ha) hty
        | _ => exact trivial
  case recover =>
    cases hargs with
    | nil => exact rfl
    | cons h1 ht => exact trivial
  case panic =>
    cases hargs with
    | nil => exact trivial
    | cons h1 ht =>
      cases ht with
      | nil =>
        cases h1 with
        | iface h1 => exact ⟨_, .iface h1, rfl⟩
        | _ => exact trivial
      | cons h2 ht => exact trivial


  all_goals exact trivial
theorem resolve_builtin (ρ : Operand → Value) (b : Builtin) (args : Array Operand) (tys : Array TypeId) (ty : TypeId) : ∃ cs, (do let d ← resolve ρ { callee := .builtin b, args, argTypes := tys } ty; invoke d.target d.args : Sem Next) = builtin b tys ty cs (args.map ρ) :=
  ⟨_, rfl⟩
theorem eff_sound (hE : ExtOk P) (hN : NumOk P) (R : Rel P μ h w) {o : Oper} (ok : OpOk P μ F a o) : OutR P μ h w (execOp a.eval o) (effV P F h o) := by
  obtain ⟨opd, typ⟩ := ok
  unfold OpR at opd
  unfold opTypes at typ
  unfold effV execOp
  cases ho : o.op <;> simp only [ho] at typ opd ⊢ <;> try trivial
  case store t x y =>
    have hx := opd x (by simp [Op.operands])
    have hy := opd y (by simp [Op.operands])
    split
    · rename_i b i hb
      rw [hb] at hx
      try dsimp only
      split
      · rename_i hl
        unfold orBad
        split
        · rename_i h' hs
          exact OutR.ofSkip (store_sound R (typ t (by simp)) hx hy hl hs)
        · trivial
      · trivial
    · trivial
  case convert s d x =>
    have hx := opd x (by simp [Op.operands])
    split
    · rename_i u e q hs hd hq
      rw [hq] at hx
      rw [hx.str_inv]
      split
      · rename_i he
        split
        · rename_i h1
          exact convertBytes_sound R hs hd he h1.1 h1.2
        · trivial
      · trivial
    · trivial
    · trivial
    · trivial
  case mapUpdate t m k v => exact update_sound R (opd m (by simp [Op.operands])) (opd k (by simp [Op.operands])) (opd v (by simp [Op.operands]))
  case insert t m k v => exact update_sound R (opd m (by simp [Op.operands])) (opd k (by simp [Op.operands])) (opd v (by simp [Op.operands]))
  case panic x =>
    have hx := opd x (by simp [Op.operands])
    split
    · rename_i t v hv
      rw [hv] at hx
      generalize a.eval x = X at hx ⊢
      cases hx with | @iface _ _ v' hx =>
      exact ⟨_, .iface hx, rfl⟩
    · trivial
  case defer c =>
    obtain ⟨callee, args, tys⟩ := c
    cases callee with
    | builtin b => trivial
    | invoke r m => trivial
    | value f =>
      have hf := opd f (by simp [Op.operands, Call.operands])
      have hargs : VRs μ (oprs F args) (args.map a.eval).toList := oprs_sound fun x hx => opd x (by simp [Op.operands, Call.operands, hx])
      try dsimp only
      split
      · rename_i g first caps hv
        rw [hv] at hf
        simp only [resolve]
        generalize a.eval f = X at hf ⊢
        cases hf with | @func _ _ _ fs' cs' h1 h2 =>
        refine ⟨_, ⟨_, (h1.append hargs).append h2, fs' ++ (args.map a.eval).toList, cs', rfl, rfl⟩, ?_⟩
        simp [Deferred.ofValue]
      · trivial
  case call c =>
    obtain ⟨callee, args, tys⟩ := c
    cases callee with
    | value f =>
      have hf := opd f (by simp [Op.operands, Call.operands])
      have hargs : VRs μ (oprs F args) (args.map a.eval).toList := oprs_sound fun x hx => opd x (by simp [Op.operands, Call.operands, hx])
      have := invoke_sound hE hN R hf hargs
      rw [Array.toArray_toList] at this
      exact this
    | invoke r name =>
      have hr := opd r (by simp [Op.operands, Call.operands])
      have hargs : VRs μ (oprs F args) (args.map a.eval).toList := oprs_sound fun x hx => opd x (by simp [Op.operands, Call.operands, hx])
      dsimp only
      split
      · rename_i t v hv
        rw [hv] at hr
        unfold orBad
        split
        · rename_i p hm
          obtain ⟨g, x⟩ := p
          simp only [resolve]
          generalize a.eval r = X at hr ⊢
          cases hr with | @iface _ _ v' hr =>
          obtain ⟨x', h1, h2⟩ := method_sound hm hr (P.types.size + Made.depth - 1)
          refine OutR.congr (s := callFunc g (x' :: (args.map a.eval).toList).toArray) ?_ (call_sound hE hN R (.cons h1 hargs))
          have hd : P.types.size + Made.depth - 1 + 1 = P.types.size + Made.depth := by
            have : Made.depth ≠ 0 := by decide
            omega
          rw [hd] at h2
          have e1 : (#[Value.iface t v'] ++ Array.map a.eval args).extract 1 (#[Value.iface t v'] ++ Array.map a.eval args).size = Array.map a.eval args := by
            apply Array.ext'
            simp
            exact List.take_of_length_le (by simp)
          have e2 : (#[x'] ++ Array.map a.eval args) = (x' :: (args.map a.eval).toList).toArray := by
            apply Array.ext'
            simp
          show (invoke (.fn (.method name) #[]) (#[Value.iface t v'] ++ Array.map a.eval args)).run P w = _
          have e0 : (#[Value.iface t v'] ++ Array.map a.eval args)[0]? = some (.iface t v') := by
            rw [Array.getElem?_append_left (by simp)]; rfl
          unfold invoke
          simp only [e0, e1, callMethod, Sem.run_bind, run_program, Result.andThen_ok]
          rw [h2 w]
          simp only [Result.andThen_ok, e2]
        · trivial
      · trivial
    | builtin b =>
      have hargs : VRs μ (oprs F args) (args.map a.eval).toList := oprs_sound fun x hx => opd x (by simp [Op.operands, Call.operands, hx])
      obtain ⟨cs, hcs⟩ := resolve_builtin a.eval b args tys o.type
      refine OutR.congr (s := builtin b tys o.type cs (args.map a.eval)) (by rw [← hcs]) ?_
      try dsimp only
      have := builtin_sound (ty := o.type) (cs := cs) (b := b) R hargs (fun t ht => typ t ht)
      rw [Array.toArray_toList] at this
      exact this
end Go.Vm
