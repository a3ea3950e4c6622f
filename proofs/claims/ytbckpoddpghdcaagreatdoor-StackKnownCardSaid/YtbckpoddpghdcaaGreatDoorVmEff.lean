/- What turns memory. -/
import Derived.Test.YtbckpoddpghdcaaGreatDoorVmAlloc
import Derived.Lib.ConvBytes
import Derived.Laws.AppendOwn
namespace Go.Vm
open Go.RowKit
set_option linter.unusedSimpArgs false
set_option linter.unusedVariables false

variable {P : Program} {μ : PM} {h : Hp} {w : World} {F : Frm} {a : Act}

def DfrR (μ : PM) : Dfr → Deferred → Prop
  | .fn f args, d => ∃ rs, VRs μ args rs ∧ ∃ first cs : List Value, rs = first ++ cs ∧ d = { target := .fn (.func f) cs.toArray, args := first.toArray }
  | .mark b, d => ∃ l, μ b = some l ∧ d = { target := .collected l.r, args := #[] }

def OutR (P : Program) (μ : PM) (h : Hp) (w : World) (s : Sem Next) : OR → Prop
  | .bad _ => True
  | .val v h' => ∃ r w' μ', s.run P w = .ok (.value r) w' ∧ Ext μ h w μ' h' w' ∧ Rel P μ' h' w' ∧ VR μ' v r
  | .skip h' => ∃ w' μ', s.run P w = .ok .skip w' ∧ Ext μ h w μ' h' w' ∧ Rel P μ' h' w'
  | .enter f args => ∃ rs, VRs μ args rs ∧ s.run P w = .ok (.enter f rs.toArray) w
  | .round l args => ∃ ld rs, μ l = some ld ∧ VRs μ args rs ∧ s.run P w = (Instr.yield ld.r rs.toArray).run P w
  | .panic v => ∃ r, VR μ v r ∧ s.run P w = .halt (.panic r) w
  | .defer d => ∃ r, DfrR μ d r ∧ s.run P w = .ok (.defer r) w
  | .recover => s.run P w = .ok .recover w

/-- A value that is made by a plain Sem. -/
theorem OutR.ofVal {s : Sem Value} {v : V} {h' : Hp} (k : ∃ r w' μ', s.run P w = .ok r w' ∧ Ext μ h w μ' h' w' ∧ Rel P μ' h' w' ∧ VR μ' v r) : OutR P μ h w (do Pure.pure (.value (← s))) (.val v h') := by
  obtain ⟨r, w', μ', h1, h2⟩ := k
  exact ⟨r, w', μ', by rw [Sem.run_bind, h1]; rfl, h2⟩
theorem OutR.ofSkip {s : Sem Unit} {h' : Hp} (k : ∃ w' μ', s.run P w = .ok () w' ∧ Ext μ h w μ' h' w' ∧ Rel P μ' h' w') : OutR P μ h w (do s; Pure.pure .skip) (.skip h') := by
  obtain ⟨w', μ', h1, h2⟩ := k
  exact ⟨w', μ', by rw [Sem.run_bind, h1]; rfl, h2⟩

theorem cellsOf_sizeOf {t : TypeId} (hw : wfT P t = true) (w : World) : (sizeOf t).run P w = .ok (sizeT P t) w := by
  obtain ⟨i, hi⟩ := wf_info hw
  exact yields_sizeOf hi w

theorem store_sound (R : Rel P μ h w) {t : TypeId} (hw : wfT P t = true) {b o : Nat} {v : V} {p r : Value} {h' : Hp} (hp : VR μ (.ptr (some (b, o))) p) (hv : VR μ v r) (hl : v.cells.length = sizeT P t) (hs : storeL h b o v.cells = some h') :
    ∃ w' μ', (Instr.storeAt t p r).run P w = .ok () w' ∧ Ext μ h w μ' h' w' ∧ Rel P μ' h' w' := by
  cases hp with
  | @ptr _ _ l hb =>
    obtain ⟨w', h1, h2, h3, _⟩ := storeL_sound R hb hv.cells hs
    refine ⟨w', μ, ?_, h2, h3⟩
    have hsz : r.cells.size = sizeT P t := by rw [← Array.length_toList, ← hv.cells.length, hl]
    unfold Instr.storeAt
    show (storeVar t _ r).run P w = _
    unfold storeVar
    rw [Sem.run_bind, cellsOf_sizeOf hw w]
    simp only [Result.andThen_ok, hsz, ne_eq, not_true, if_false]
    exact h1

/-! ### Maps -/
theorem setObj_sound (R : Rel P μ h w) {b : Nat} {l : Loc} (hb : μ b = some l) (hwr : writable (h.get b)) (o o' : Obj) (ob : Ob) (ho : w.heap[l.r]? = some o)
    (hob : ∀ w' : World, w'.heap[l.r]? = some o' → ObR P μ w' l ob) :
    Ext μ h w μ (h.put b ob) { w with heap := w.heap.setIfInBounds l.r o' } ∧ Rel P μ (h.put b ob) { w with heap := w.heap.setIfInBounds l.r o' } := by
  obtain ⟨e1, e2⟩ := MapKept.heap_set (o' := o') ho
  have hsz : (w.heap.setIfInBounds l.r o').size = w.heap.size := by simp
  have hoth : ∀ b2 l2, μ b2 = some l2 → b2 ≠ b → l2.r = l.r → h.get b2 = some .dead := fun b2 l2 h2 hne2 hrr => by
    exact (R.sep b l b2 l2 hb h2 (Ne.symm hne2) hrr.symm).writable hwr
  refine ⟨⟨.refl _, Nat.le_refl _, fun _ _ e => .inl e, rfl, rfl, rfl, Nat.le_of_eq hsz.symm, fun ro r hr2 hu => ?_⟩, fun b2 l2 h2 => ?_, R.dom, fun b1 l1 b2 l2 h1 h2 hne2 hrr => ?_, R.glob, fun b2 l2 h2 => by rw [hsz]; exact R.low b2 l2 h2⟩
  · have hrl : r ≠ l.r := fun he => hu.not hb hwr he.symm
    refine ⟨e2 r hrl, fun b2 l2 h2 h3 => ?_⟩
    have hbb : b2 ≠ b := fun he => by subst he; rw [hb] at h2; cases h2; exact hrl h3.symm
    rw [Hp.get_put_ne _ (Ne.symm hbb)]
    exact hu b2 l2 h2 h3
  · by_cases hbb : b2 = b
    · subst hbb
      rw [hb] at h2; cases h2
      exact ⟨_, Hp.get_put_same _ _ _, hob _ e1⟩
    · rw [Hp.get_put_ne _ (Ne.symm hbb)]
      obtain ⟨o2, h3, h4⟩ := R.ob b2 l2 h2
      refine ⟨o2, h3, ?_⟩
      by_cases hrr : l2.r = l.r
      · have h5 := hoth b2 l2 h2 hbb hrr
        rw [h3] at h5; cases h5; trivial
      · exact h4.frame (.refl _) (e2 _ hrr)
  · by_cases hb1 : b1 = b
    · subst hb1
      rw [hb] at h1; cases h1
      rw [Hp.get_put_ne _ hne2]
      exact .inr (.inl (hoth b2 l2 h2 (Ne.symm hne2) hrr.symm))
    · rw [Hp.get_put_ne _ (Ne.symm hb1)]
      by_cases hb2 : b2 = b
      · subst hb2
        rw [hb] at h2; cases h2
        exact .inl (hoth b1 l1 h1 hb1 hrr)
      · rw [Hp.get_put_ne _ (Ne.symm hb2)]
        exact R.sep b1 l1 b2 l2 h1 h2 hne2 hrr

theorem plainEq_bits {x y : V} {x' y' : Value} (n : Nat) (he : plainEq x y = true) (hx : VR μ x x') (hy : VR μ y y') : Instr.sameBits n x' y' = true := by
  unfold plainEq at he
  split at he <;> try (cases he; done)
  · cases hx; cases hy; simpa [Instr.sameBits] using he
  · cases hx; cases hy; simpa [Instr.sameBits] using he
  · cases hx; cases hy
    simp only [Instr.sameBits, mk_beq]
    exact he
theorem plainEqs_bits (n : Nat) : ∀ {l m : List V} {l' m' : List Value}, plainEqs l m = true → VRs μ l l' → VRs μ m m' → l'.length = m'.length ∧ (l'.zip m').all (fun (x, y) => Instr.sameBits n x y) = true
  | [], [], _, _, _, hl, hm => by cases hl; cases hm; simp
  | x :: l, y :: m, _, _, he, hl, hm => by
    cases hl with | cons h1 h2 =>
    cases hm with | cons k1 k2 =>
    simp only [plainEqs, Bool.and_eq_true] at he
    obtain ⟨e1, e2⟩ := plainEqs_bits n he.2 h2 k2
    exact ⟨by simp [e1], by simp [plainEq_bits n he.1 h1 k1]; simpa using e2⟩
  | [], _ :: _, _, _, he, _, _ | _ :: _, [], _, _, he, _, _ => by simp [plainEqs] at he
theorem keyStays_bits {x y : V} {x' y' : Value} (he : keyStays x y = true) (hx : VR μ x x') (hy : VR μ y y') : Instr.sameBits 10000 x' y' = true := by
  unfold keyStays at he
  split at he
  · cases hx with | agg hl => cases hy with | agg hm =>
    obtain ⟨e1, e2⟩ := plainEqs_bits 9999 he hl hm
    show (_ == _ && _) = true
    simp only [List.size_toArray, e1, beq_self_eq_true, Bool.true_and]
    exact e2
  · exact plainEq_bits 10000 he hx hy
theorem keyThatStays_sound {x y : V} {x' y' : Value} (he : keyStays x y = true) (hx : VR μ x x') (hy : VR μ y y') (w : World) : (Instr.keyThatStays x' y').run P w = .ok y' w := by
  unfold Instr.keyThatStays
  rw [if_pos (keyStays_bits he hx hy)]
  rfl
theorem setNth_sound {k v : V} {k' v' : Value} (hk : VR μ k k') (hv : VR μ v v') : ∀ (l : List (V × V × Nat)) (m : List MapEntry) (i : Nat), EntR μ l m → EntR μ (setNth l i k v) (m.modify i fun e => { e with key := k', val := v' })
  | [], [], _, _ => by simp [setNth]; trivial
  | (_, _, _) :: l, e :: m, 0, h => by
    simp only [setNth, List.modify_zero_cons]
    exact ⟨hk, hv, h.2.2.1, h.2.2.2⟩
  | (_, _, _) :: l, e :: m, i + 1, h => by
    simp only [setNth, List.modify_succ_cons]
    exact ⟨h.1, h.2.1, h.2.2.1, setNth_sound hk hv l m i h.2.2.2⟩
  | [], _ :: _, _, h => h.elim
  | (_, _, _) :: _, [], _, h => h.elim
theorem EntR.snoc {k v : V} {c : Nat} {e : MapEntry} (hk : VR μ k e.key) (hv : VR μ v e.val) (hc : e.born = c) : ∀ (l : List (V × V × Nat)) (m : List MapEntry), EntR μ l m → EntR μ (l ++ [(k, v, c)]) (m ++ [e])
  | [], [], _ => ⟨hk, hv, hc, trivial⟩
  | (_, _, _) :: l, e' :: m, h => ⟨h.1, h.2.1, h.2.2.1, EntR.snoc hk hv hc l m h.2.2.2⟩
  | [], _ :: _, h => h.elim
  | (_, _, _) :: _, [], h => h.elim
theorem update_sound (R : Rel P μ h w) {t : TypeId} {m k v : V} {m' k' v' : Value} (hm : VR μ m m') (hk : VR μ k k') (hv : VR μ v v') : OutR P μ h w (do Instr.mapUpdate t m' k' v'; Pure.pure .skip) (updateV P h t m k v) := by
  unfold updateV
  split
  · rename_i kt et r ht
    split
    · trivial
    · rename_i hok
      simp only [Bool.not_eq_true, Bool.not_eq_false'] at hok
      split
      · rename_i es c hg
        cases hm with | @map _ l hb =>
        obtain ⟨o, ho, hR⟩ := R.ob r l hb
        rw [hg] at ho
        cases ho
        obtain ⟨A, hA, hE⟩ := hR
        split
        · rename_i i kk vv hf
          split
          · rename_i hst
            refine OutR.ofSkip ?_
            obtain ⟨r', g1, g2⟩ := findKey_sound hok hk hf hE
            cases r' with
            | none => exact g2.elim
            | some p =>
              obtain ⟨q1, _, _, e, q4, q5⟩ := g2
              obtain ⟨p1, p2⟩ := p
              simp only at q1
              subst q1
              have hsub : A[p1]? = some e := by rw [← Array.getElem?_toList]; simpa using q4
              obtain ⟨x1, x2⟩ := setObj_sound R hb (by rw [hg]; trivial) _ (.map (A.modify p1 fun e => { e with key := k', val := v' }) c) (.map (setNth es p1 k v) c) hA (fun w' hw' => ⟨_, hw', by rw [Array.toList_modify]; exact setNth_sound hk hv es A.toList p1 hE⟩)
              refine ⟨_, μ, ?_, x1, x2⟩
              simp [Instr.mapUpdate, run_underlying ht, MapKept.run_getObj_map hA, checkKey_sound false 9998 hok hk w, g1 w, Result.andThen, hsub, keyThatStays_sound hst q5 hk w, MapKept.run_setObj_map _ hA]
          · trivial
        · rename_i hf
          refine OutR.ofSkip ?_
          obtain ⟨r', g1, g2⟩ := findKey_sound hok hk hf hE
          cases r' with
          | some p => exact g2.elim
          | none =>
            obtain ⟨x1, x2⟩ := setObj_sound R hb (by rw [hg]; trivial) _ (.map (A.push { key := k', val := v', born := c }) (c + 1)) (.map (es ++ [(k, v, c)]) (c + 1)) hA (fun w' hw' => ⟨_, hw', by rw [Array.toList_push]; exact EntR.snoc (e := { key := k', val := v', born := c }) hk hv rfl es A.toList hE⟩)
            refine ⟨_, μ, ?_, x1, x2⟩
            simp [Instr.mapUpdate, run_underlying ht, MapKept.run_getObj_map hA, checkKey_sound false 9998 hok hk w, g1 w, Result.andThen, MapKept.run_setObj_map _ hA]
        · trivial
      · trivial
  · trivial

/-! ### append -/
def SrcR (P : Program) (sz : Nat) (w : World) (x : Value) (n : Nat) (rs : List Value) : Prop :=
  Yields P (Builtin.lenOf x) n ∧ ∀ w2 : World, w2.heap = w.heap → (Builtin.firstCells sz n x).run P w2 = .ok rs.toArray w2
theorem Rel.sameHeap (R : Rel P μ h w) {w2 : World} (e : w2.heap = w.heap) : Rel P μ h w2 := by
  refine ⟨fun b l hb => ?_, R.dom, R.sep, R.glob, fun b l hb => by rw [e]; exact R.low b l hb⟩
  obtain ⟨o, h1, h2⟩ := R.ob b l hb
  exact ⟨o, h1, h2.frame (.refl _) (by rw [e])⟩
theorem ofBytes_sound (s : List UInt8) : VRs μ (ofBytes s) (s.map fun b => .int .u8 (b.toNat : Int)) := by
  induction s with
  | nil => exact .nil
  | cons b s ih => exact .cons (.int _ _) ih
theorem src_sound (R : Rel P μ h w) {sz n : Nat} {x : V} {x' : Value} {new : List V} (hx : VR μ x x') (hs : srcCells h sz x = some (n, new)) : ∃ rs, VRs μ new rs ∧ rs.length = n * sz ∧ SrcR P sz w x' n rs := by
  unfold srcCells at hs
  split at hs
  · rename_i b o m c
    simp only [Option.map_eq_some_iff, Prod.mk.injEq] at hs
    obtain ⟨l, h1, rfl, rfl⟩ := hs
    cases hx with
    | @slice _ _ _ cap _ ld A hb hc hl ha =>
      by_cases h0 : m * sz = 0
      · have : l = [] := by
          unfold loadL at h1
          split at h1
          · split at h1
            · simp only [Option.some.injEq, h0, List.take_zero] at h1; exact h1.symm
            · cases h1
          · cases h1
        subst this
        refine ⟨[], .nil, by simp [h0], .pure _, fun w2 _ => ?_⟩
        show (loadCells A (m * sz)).run P w2 = _
        rw [h0]; rfl
      · have hA := ha (fun hc0 => h0 (by have : m = 0 := by omega
                                         rw [this]; simp))
        obtain ⟨rs, g1, g2, g3⟩ := loadL_sound R hb h1
        refine ⟨rs, g1, g2, .pure _, fun w2 e => ?_⟩
        show (loadCells A (m * sz)).run P w2 = _
        rw [← g2, hA]
        refine run_loadCells_list (P := P) w2 _ rs (fun j v hj => ?_)
        rw [add_addr]
        have := g3 j v hj
        unfold World.cell? at this ⊢
        rw [e]
        exact this
  · simp only [Option.some.injEq, Prod.mk.injEq] at hs
    obtain ⟨rfl, rfl⟩ := hs
    cases hx
    exact ⟨[], .nil, by simp, .pure _, fun w2 _ => rfl⟩
  · split at hs
    · rename_i s h1
      subst h1
      simp only [Option.some.injEq, Prod.mk.injEq] at hs
      obtain ⟨rfl, rfl⟩ := hs
      cases hx
      refine ⟨_, ofBytes_sound s, by simp, .pure _, fun w2 _ => ?_⟩
      show Result.ok _ w2 = _
      congr 1
      have e : (⟨s.toArray⟩ : ByteArray).extract 0 s.length = ⟨s.toArray⟩ := by
        apply ByteArray.ext
        rw [ByteArray.data_extract]
        simp
      rw [e]
      simp
    · cases hs
  · cases hs

/-- What an append of a slice and a source runs through. -/
structure AppIn (P : Program) (w : World) (ts : Array TypeId) (e : TypeId) (x : Value) (n : Nat) (rs : List Value) (z : Value) (i : TypeInfo) : Prop where
  t0 : ∃ t, ts[0]? = some t ∧ P.underlying t = some (.slice e)
  t1 : (match ts[1]? with | none => true | some u => (match P.underlying u with | none | some (.int _) => false | _ => true)) = true
  info : P.info? e = some i
  zero : i.zero = some z
  src : SrcR P i.size w x n rs
theorem zeros_no {ts : Array TypeId} (h : (match ts[1]? with | none => true | some u => (match P.underlying u with | none | some (.int _) => false | _ => true)) = true) :
    Yields P (match ts[1]? with | some xType => do Pure.pure ((← underlying xType) matches .int _) | none => Pure.pure false : Sem Bool) false := by
  cases hu : ts[1]? with
  | none => exact .pure _
  | some u =>
    simp only [hu] at h
    cases hd : P.underlying u with
    | none => simp [hd] at h
    | some d =>
      simp only [hd] at h
      refine (yields_underlying hd).bind ?_
      cases d <;> first | (simp at h; done) | exact .pure _
theorem append_ts {ts : Array TypeId} {t ty e : TypeId} {s x : Value} (h0 : ts[0]? = some t) (ht : P.underlying t = some (.slice e)) {i : TypeInfo} (hi : P.info? e = some i)
    (h1 : (match ts[1]? with | none => true | some u => (match P.underlying u with | none | some (.int _) => false | _ => true)) = true) :
    (Builtin.append_ ts ty #[s, x]).run P w = (Builtin.append_ #[t] ty #[s, x]).run P w := by
  unfold Builtin.append_
  simp only [h0, List.getElem?_toArray, List.getElem?_cons_zero, List.getElem?_cons_succ, List.getElem?_nil]
  rw [Sem.run_bind, Sem.run_bind, run_underlying ht]
  simp only [Result.andThen_ok]
  cases s <;> try rfl
  rw [Sem.run_bind, Sem.run_bind, show (sizeOf e).run P w = .ok i.size w by simp [sizeOf, typeInfo, hi]]
  simp only [Result.andThen_ok]
  cases hu : ts[1]? with
  | none => rfl
  | some u =>
    simp only [hu] at h1
    cases hd : P.underlying u with
    | none => simp [hd] at h1
    | some d =>
      simp only [hd] at h1
      dsimp only
      rw [Sem.run_bind, run_underlying hd]
      simp only [Result.andThen_ok]
      cases d <;> first | (exfalso; simp at h1; done) | rfl
theorem app_room {ts : Array TypeId} {ty e : TypeId} {x : Value} {n : Nat} {rs : List Value} {z : Value} {i : TypeInfo} (hA : AppIn P w ts e x n rs z i) {A : Option Addr} {len cap : Nat} (hn : len + n ≤ cap)
    {w' : World} (hst : (match A with | some a => (storeCells (a.add (len * i.size)) rs).run P w = .ok () w' | none => w' = w)) :
    (Builtin.append_ ts ty #[.slice A len cap, x]).run P w = .ok (.slice A (len + n) cap) w' := by
  obtain ⟨⟨t, h0, ht⟩, h1, hi, hz, hs1, hs2⟩ := hA
  have e1 := hs1 w
  have e2 := hs2 w rfl
  rw [append_ts h0 ht hi h1]
  cases A with
  | none => simp only at hst; subst hst; simp [Builtin.append_, run_underlying ht, sizeOf, typeInfo, hi, e1, e2, hn]
  | some a => simp only at hst; simp [Builtin.append_, run_underlying ht, sizeOf, typeInfo, hi, e1, e2, hn, hst]
theorem app_grow {ts : Array TypeId} {ty e : TypeId} {x : Value} {n : Nat} {rs : List Value} {z : Value} {i : TypeInfo} (hA : AppIn P w ts e x n rs z i) {A : Option Addr} {len cap : Nat} (hn : cap < len + n)
    (h62 : len + n ≤ 2 ^ 62) (hb : 2 * (len + n) * i.bytes ≤ 2 ^ 46) {olds : List Value} (ho : (Builtin.firstCells i.size len (.slice A len cap)).run P w.drew = .ok olds.toArray w.drew) :
    (Builtin.append_ ts ty #[.slice A len cap, x]).run P w = .ok (.slice (some ⟨w.heap.size, 0, none⟩) (len + n) (grownCap w (len + n) cap e)) (w.drew.alloc (.cells (olds.toArray ++ rs.toArray ++ Builtin.zeroCells z.cells (grownCap w (len + n) cap e - (len + n))) e)) := by
  obtain ⟨⟨t, h0, ht⟩, h1, hi, hz, hs1, hs2⟩ := hA
  have hn' : ¬ (len + n ≤ cap) := by omega
  have h63' : ¬ (9223372036854775807 < ((len : Int) + (n : Int))) := by omega
  have hfit : Builtin.nextslicecap (len + n) cap * i.bytes ≤ 281474976710656 := by
    have h1 : Builtin.nextslicecap (len + n) cap * i.bytes ≤ 2 * (len + n) * i.bytes := Nat.mul_le_mul_right _ (nextslicecap_le hn)
    omega
  have h48' : ¬ (281474976710656 < Builtin.nextslicecap (len + n) cap * i.bytes) := by omega
  have e1 := hs1 w
  have hf := hs2 w.drew rfl
  rw [append_ts h0 ht hi h1]
  simp [Builtin.append_, run_underlying ht, sizeOf, typeInfo, hi, e1, hn', h63', h48', zeroValue, hz, Question.forced, hf, ho, newRow, grownCap, -Array.append_assoc]

theorem zeroCells_size (z : Array Value) (n : Nat) : (Builtin.zeroCells z n).size = n * z.size := by simp [Builtin.zeroCells]
/-- A block of unknown capacity, made by append. -/
theorem amb_new (R : Rel P μ h w) {vs : List V} {rs : List Value} {c : Array Value} {e : TypeId} {N : Nat} {f : Nat × Nat} (hv : VRs μ vs rs) (hc : ∃ zs : List Value, c.toList = rs ++ zs) (hs : c.size = N * sizeT P e) (hl : vs.length ≤ N * sizeT P e) (hN : N ≤ 9223372036854775807) :
    Rel P (μ.add h.next ⟨w.heap.size, 0, N⟩) (h.new (.cells { l := vs, elem := e, exact := false, rw := true, frz := f })) (w.drew.alloc (.cells c e)) ∧
    Ext μ h w (μ.add h.next ⟨w.heap.size, 0, N⟩) (h.new (.cells { l := vs, elem := e, exact := false, rw := true, frz := f })) (w.drew.alloc (.cells c e)) := by
  obtain ⟨zs, hz⟩ := hc
  refine new_any R _ N (Array.size_push _) (fun r hr => alloc_old w.drew _ hr) rfl rfl rfl ⟨c, e, (0, 0), alloc_last w.drew _, fun i v hi => ?_, fun _ j _ h2 _ _ => by omega, fun _ => rfl, (fun h => by cases h), fun _ _ => ⟨rfl, ?_, hl, hN⟩, fun h => by cases h⟩
  · obtain ⟨r, h1, h2⟩ := (hv.mono (PM.le_add ⟨w.heap.size, 0, N⟩ R.dom)).get hi
    refine ⟨r, ?_, h2⟩
    have hlt := (List.getElem?_eq_some_iff.1 h1).1
    rw [Nat.zero_add, ← Array.getElem?_toList, hz, List.getElem?_append_left hlt]
    exact h1
  · show 0 + N * sizeT P e ≤ c.size
    omega
theorem amb_val {vs : List V} {N n : Nat} (hn : n ≤ N) : VR (μ.add h.next ⟨w.heap.size, 0, N⟩) (.slice (some (h.next, 0)) n (.tl 0)) (.slice (some ⟨w.heap.size, 0, none⟩) n N) :=
  .slice (o := 0) (PM.add_same _ _ _) ⟨Nat.zero_le _, rfl⟩ hn (fun _ => rfl)
/-- It grew: into a block of its own. -/
theorem grow_sound (R : Rel P μ h w) {ts : Array TypeId} {ty e : TypeId} {x : Value} {n : Nat} {rs : List Value} {z : Value} {i : TypeInfo} (hA : AppIn P w ts e x n rs z i) {A : Option Addr} {len cap : Nat} (hn : cap < len + n)
    (h62 : len + n ≤ 2 ^ 62) (hb : 2 * (len + n) * i.bytes ≤ 2 ^ 46) {olds : List Value} (ho : (Builtin.firstCells i.size len (.slice A len cap)).run P w.drew = .ok olds.toArray w.drew)
    {old new : List V} (hold : VRs μ old olds) (hnew : VRs μ new rs) (lo : olds.length = len * i.size) (ln : rs.length = n * i.size) (hz : z.cells.size = i.size) (f : Nat × Nat) :
    ∃ r w' μ', (Builtin.append_ ts ty #[.slice A len cap, x]).run P w = .ok r w' ∧ Ext μ h w μ' (h.new (.cells { l := old ++ new, elem := e, exact := false, rw := true, frz := f })) w' ∧
      Rel P μ' (h.new (.cells { l := old ++ new, elem := e, exact := false, rw := true, frz := f })) w' ∧ VR μ' (.slice (some (h.next, 0)) (len + n) (.tl 0)) r := by
  have hge := grownCap_ge w (len + n) cap e
  have hsi : sizeT P e = i.size := sizeT_info hA.info
  have e1 : (len + n) * i.size = olds.length + rs.length := by rw [lo, ln, Nat.add_mul]
  have e2 : (len + n) * i.size ≤ grownCap w (len + n) cap e * i.size := Nat.mul_le_mul_right _ hge
  have hsz : (olds.toArray ++ rs.toArray ++ Builtin.zeroCells z.cells (grownCap w (len + n) cap e - (len + n))).size = grownCap w (len + n) cap e * sizeT P e := by
    rw [Array.size_append, Array.size_append, zeroCells_size, hz, hsi, Nat.sub_mul]
    simp only [List.size_toArray]
    omega
  obtain ⟨h1, h2⟩ := amb_new R (vs := old ++ new) (rs := olds ++ rs) (e := e) (f := f) (hold.append hnew) ⟨(Builtin.zeroCells z.cells (grownCap w (len + n) cap e - (len + n))).toList, by simp⟩ hsz (by
    rw [hsi, List.length_append, hold.length, hnew.length]; omega) (by
    have := grownCap_le_maxLen w (len + n) cap e (by unfold maxLen; omega)
    unfold maxLen at this; omega)
  exact ⟨_, _, _, app_grow hA hn h62 hb ho, h2, h1, amb_val (vs := old ++ new) hge⟩
theorem sameHeap_first {len cap : Nat} {b o sz : Nat} {old : List V} {l : Loc} {A : Addr} (R : Rel P μ h w) (hb : μ b = some l) (hl : loadL h b o (len * sz) = some old) (hA : len * sz ≠ 0 → A = ⟨l.r, l.off + o, none⟩) :
    ∃ olds, VRs μ old olds ∧ olds.length = len * sz ∧ (Builtin.firstCells sz len (.slice (some A) len cap)).run P w.drew = .ok olds.toArray w.drew := by
  obtain ⟨rs, h1, h2, h3⟩ := loadL_zero_addr (P := P) (R.drew (w.drawn + 1)) hb hl hA
  exact ⟨rs, h1, h2, h3⟩
/-- In place, behind the known end. -/
theorem tip_sound (R : Rel P μ h w) {b o len n : Nat} {x : Blk} {l : Loc} {new : List V} {rs : List Value} {sz : Nat} (hb : μ b = some l) (hx : h.get b = some (.cells x)) (hsz : sizeT P x.elem = sz) (hs0 : sz ≠ 0) {k : Nat} (ho : o = k * sz) (hk : k ≤ l.cap)
    (hex : x.exact = false) (hrw : x.rw = true) (hfit : o + len * sz ≤ x.l.length) (hfz : x.frz.2 ≤ o + len * sz) (hcell : new.all V.isCell = true) (hv : VRs μ new rs) (hn : rs.length = n * sz) (hcap : len + n ≤ l.cap - k) :
    ∃ w', (storeCells ⟨l.r, l.off + (o + len * sz), none⟩ rs).run P w = .ok () w' ∧
      Ext μ h w (μ.add h.next ⟨l.r, l.off + o, l.cap - k⟩) ((h.put b .dead).new (.cells { l := (x.l.drop o).take (len * sz) ++ new, elem := x.elem, exact := false, rw := true, frz := (x.frz.1 - o, x.frz.2 - o) })) w' ∧
      Rel P (μ.add h.next ⟨l.r, l.off + o, l.cap - k⟩) ((h.put b .dead).new (.cells { l := (x.l.drop o).take (len * sz) ++ new, elem := x.elem, exact := false, rw := true, frz := (x.frz.1 - o, x.frz.2 - o) })) w' := by
  obtain ⟨ob, hob, hR⟩ := R.ob b l hb
  rw [hx] at hob; cases hob
  obtain ⟨c, e, fz, hr, hc, hf, he, hx1, hx2, hx3⟩ := hR
  obtain ⟨g1, g2, g3, g4⟩ := hx2 hex hrw
  replace hf := hf hrw
  have hwr : writable (h.get b) := by rw [hx]; exact hrw
  subst g1
  have g2' : l.off + l.cap * sz ≤ c.size := by rw [← hsz]; exact g2
  have g3' : x.l.length ≤ l.cap * sz := by rw [← hsz]; exact g3
  have hlen := hv.length
  have m1 : (len + n) * sz ≤ (l.cap - k) * sz := Nat.mul_le_mul_right _ hcap
  rw [Nat.add_mul, Nat.sub_mul, ← ho] at m1
  have m2 : o ≤ l.cap * sz := by rw [ho]; exact Nat.mul_le_mul_right _ hk
  have hin : ∀ j, j < rs.length → l.off + (o + len * sz) + j < c.size := fun j hj => by omega
  have hrun := run_storeCells_cells (P := P) l.r (l.off + (o + len * sz)) rs 0 w
    (fun j hj => by
      have := hin j hj
      rw [cell_of hr, Nat.add_zero, Array.getElem?_eq_getElem this]; rfl)
    (fun j hj => by
      simp only [World.frozen?, hr]
      by_cases hz : fz.1 ≤ l.off + (o + len * sz) + 0 + j ∧ l.off + (o + len * sz) + 0 + j < fz.2
      · have h2 := hf _ hz.1 hz.2 (.inr (by have := hin j hj; omega)) (by omega)
        omega
      · simp only [Bool.and_eq_false_iff, decide_eq_false_iff_not]
        omega) (hv.oneCells hcell)
  rw [Nat.add_zero] at hrun
  obtain ⟨a1, a2, a3, a4, a5, a6, c', a7, a8, a9⟩ := setCells_facts l.r rs (l.off + (o + len * sz)) w c x.elem fz hr
  refine ⟨_, hrun, ?_⟩
  have hle := PM.le_add ⟨l.r, l.off + o, l.cap - k⟩ R.dom
  have hbn : b ≠ h.next := Nat.ne_of_lt (R.dom b l hb)
  have hoth : ∀ b2 l2, μ b2 = some l2 → b2 ≠ b → l2.r = l.r → h.get b2 = some .dead := fun b2 l2 h2 hne2 hrr => by
    exact (R.sep b l b2 l2 hb h2 (Ne.symm hne2) hrr.symm).writable hwr
  have hnx : (h.put b .dead).next = h.next := rfl
  have getO : ∀ b2, b2 ≠ h.next → b2 ≠ b → ((h.put b .dead).new (.cells { l := (x.l.drop o).take (len * sz) ++ new, elem := x.elem, exact := false, rw := true, frz := (x.frz.1 - o, x.frz.2 - o) })).get b2 = h.get b2 := fun b2 h1 h2 => by
    rw [Hp.get_new_ne _ (by rw [hnx]; exact Ne.symm h1), Hp.get_put_ne _ (Ne.symm h2)]
  have getB : ((h.put b .dead).new (.cells { l := (x.l.drop o).take (len * sz) ++ new, elem := x.elem, exact := false, rw := true, frz := (x.frz.1 - o, x.frz.2 - o) })).get b = some .dead := by
    rw [Hp.get_new_ne _ (by rw [hnx]; exact Ne.symm hbn), Hp.get_put_same]
  have hpre : ((x.l.drop o).take (len * sz)).length = len * sz := by rw [List.length_take, List.length_drop]; omega
  refine ⟨⟨hle, by rw [Hp.next_new, hnx]; omega, fun b2 l2 h2 => ?_, a1, a2, a3, Nat.le_of_eq a4.symm, fun ro r hr2 hu => ?_⟩, fun b2 l2 h2 => ?_, fun b2 l2 h2 => ?_, fun b1 l1 b2 l2 h1 h2 hne2 hrr => ?_, fun g hg => hle _ _ (R.glob g hg), fun b2 l2 h2 => ?_⟩
  · rcases PM.add_inv h2 with ⟨rfl, rfl⟩ | ⟨hne, h2⟩
    · exact .inr (Nat.le_refl _)
    · exact .inl h2
  · have hrl : r ≠ l.r := fun he => hu.not hb hwr he.symm
    refine ⟨a6 r hrl, fun b2 l2 h2 h3 => ?_⟩
    rcases PM.add_inv h2 with ⟨rfl, rfl⟩ | ⟨hne, h2⟩
    · exact (hrl h3.symm).elim
    · have hbb : b2 ≠ b := fun he => by subst he; rw [hb] at h2; cases h2; exact hrl h3.symm
      rw [getO b2 hne hbb]
      exact hu b2 l2 h2 h3
  · rcases PM.add_inv h2 with ⟨rfl, rfl⟩ | ⟨hne, h2⟩
    · refine ⟨_, Hp.get_new_same (h.put b .dead) _, c', x.elem, fz, a7, fun i v hi => ?_, fun _ j j1 j2 j3 j4 => ?_, fun _ => rfl, (fun h => by cases h), fun _ _ => ⟨rfl, ?_, ?_, by dsimp only; omega⟩, fun h => by cases h⟩
      · dsimp only at hi ⊢
        rw [a9]
        by_cases hi1 : i < len * sz
        · rw [List.getElem?_append_left (by omega), List.getElem?_take, if_pos hi1, List.getElem?_drop] at hi
          rw [if_neg (by omega)]
          obtain ⟨r, k1, k2⟩ := hc _ _ hi
          exact ⟨r, by rw [← k1]; congr 1; omega, k2.mono hle⟩
        · rw [List.getElem?_append_right (by omega), hpre] at hi
          obtain ⟨r, k1, k2⟩ := hv.get hi
          have := (List.getElem?_eq_some_iff.1 k1).1
          rw [if_pos ⟨by omega, by omega, by have := hin (i - len * sz) (by omega); omega⟩]
          exact ⟨r, by rw [← k1]; congr 1; omega, k2.mono hle⟩
      · dsimp only at j3 j4 ⊢
        have h5 := hf j j1 j2 (j3.elim (fun h => by cases h) (fun h => .inr (by omega))) (by omega)
        omega
      · dsimp only
        rw [a8, show P.cellsOf x.elem = sz from hsz, Nat.sub_mul, ← ho]
        omega
      · dsimp only
        rw [List.length_append, hpre, hlen, hn, show P.cellsOf x.elem = sz from hsz, Nat.sub_mul, ← ho]
        omega
    · by_cases hbb : b2 = b
      · subst hbb; exact ⟨_, getB, trivial⟩
      · obtain ⟨o2, h3, h4⟩ := R.ob b2 l2 h2
        refine ⟨o2, by rw [getO b2 hne hbb]; exact h3, ?_⟩
        by_cases hrr : l2.r = l.r
        · have h5 := hoth b2 l2 h2 hbb hrr
          rw [h3] at h5; cases h5; trivial
        · exact h4.frame hle (a6 _ hrr)
  · rw [Hp.next_new, hnx]
    rcases PM.add_inv h2 with ⟨rfl, rfl⟩ | ⟨hne, h2⟩
    · omega
    · have := R.dom b2 l2 h2; omega
  · have dead_of : ∀ b3 l3, μ b3 = some l3 → b3 ≠ h.next → l3.r = l.r → ((h.put b .dead).new (.cells { l := (x.l.drop o).take (len * sz) ++ new, elem := x.elem, exact := false, rw := true, frz := (x.frz.1 - o, x.frz.2 - o) })).get b3 = some .dead := fun b3 l3 h3 hn3 hr3 => by
      by_cases hb3 : b3 = b
      · subst hb3; exact getB
      · rw [getO b3 hn3 hb3]; exact hoth b3 l3 h3 hb3 hr3
    rcases PM.add_inv h1 with ⟨rfl, rfl⟩ | ⟨hne1, h1⟩
    · rcases PM.add_inv h2 with ⟨rfl, rfl⟩ | ⟨hne3, h2⟩
      · exact (hne2 rfl).elim
      · exact .inr (.inl (dead_of b2 l2 h2 hne3 hrr.symm))
    · rcases PM.add_inv h2 with ⟨rfl, rfl⟩ | ⟨hne3, h2⟩
      · exact .inl (dead_of b1 l1 h1 hne1 hrr)
      · by_cases hb1 : b1 = b
        · subst hb1; exact .inl getB
        · by_cases hb2 : b2 = b
          · subst hb2; exact .inr (.inl getB)
          · rw [getO b1 hne1 hb1, getO b2 hne3 hb2]; exact R.sep b1 l1 b2 l2 h1 h2 hne2 hrr
  · rw [a4]
    rcases PM.add_inv h2 with ⟨rfl, rfl⟩ | ⟨hne, h2⟩
    · exact R.low b l hb
    · exact R.low b2 l2 h2

theorem append_sound (R : Rel P μ h w) {ts : Array TypeId} {ty t e : TypeId} {a : Option (Nat × Nat)} {len n : Nat} {c : Cap} {x : V} {s' x' : Value} {new : List V} (h0 : ts[0]? = some t) (ht : P.underlying t = some (.slice e)) (hw : wfT P t = true)
    (h1 : (match ts[1]? with | none => true | some u => (match P.underlying u with | none | some (.int _) => false | _ => true)) = true)
    (hs : VR μ (.slice a len c) s') (hx : VR μ x x') (hsrc : srcCells h (sizeT P e) x = some (n, new)) :
    OutR P μ h w (do Pure.pure (.value (← Builtin.append_ ts ty #[s', x']))) (appendV P h e a len c new n) := by
  obtain ⟨i, hi⟩ := wf_slice hw ht
  have hsi : sizeT P e = i.size := sizeT_info hi
  obtain ⟨rs, hnew, ln, hS⟩ := src_sound R hx hsrc
  rw [hsi] at ln hS
  unfold appendV
  dsimp only
  split
  · trivial
  · rename_i hg
    simp only [Bool.or_eq_true, decide_eq_true_eq, not_or, Bool.not_eq_true', Bool.not_eq_false', hi, Option.map_some, Option.getD_some, Bool.not_eq_eq_eq_not, Bool.not_true, Bool.not_eq_false, Option.any_eq_true] at hg
    obtain ⟨⟨hg1, hg2⟩, z0, hz0, hz1⟩ := hg
    have hz0' := hz0
    unfold zeroT at hz0'
    simp only [Option.bind_eq_some_iff, Option.map_eq_some_iff, hi, Option.some.injEq] at hz0'
    obtain ⟨zv, ⟨_, rfl, hzv⟩, q, hq, rfl⟩ := hz0'
    have hzs : zv.cells.size = i.size := by
      have e2 := (toV_sound (μ := μ) zv hq).cells.length
      have e3 : zv.cells.size = zv.cells.toList.length := (Array.length_toList).symm
      rw [e3, ← e2, ← hsi]
      simpa using hz1
    have hA : AppIn P w ts e x' n rs zv i := ⟨⟨t, h0, ht⟩, h1, hi, hzv, hS⟩
    have h62 : len + n ≤ 2 ^ 62 := by omega
    have hb : 2 * (len + n) * i.bytes ≤ 2 ^ 46 := by omega
    split
    · -- a known capacity
      rename_i m _
      split
      · rename_i hfit
        cases hs with
        | sliceN hle =>
          refine OutR.ofVal ⟨_, w, μ, app_room hA hfit rfl, .refl _ _ _, R, .sliceN hfit⟩
        | @slice b o _ cap _ l A hb' hc hle ha =>
          simp only [Cap.ok] at hc
          subst hc
          dsimp only
          unfold orBad
          split
          · rename_i h' hst
            obtain ⟨w', g1, g2, g3, _⟩ := storeL_sound R hb' hnew hst
            refine OutR.ofVal ⟨_, w', μ, app_room hA hfit ?_, g2, g3, .slice hb' rfl hfit ha⟩
            by_cases hc0 : cap = 0
            · have : rs = [] := List.eq_nil_of_length_eq_zero (by rw [ln, show n = 0 by omega]; simp)
              subst this
              have e1 : w' = w := by
                have : (storeCells ⟨l.r, l.off + (o + len * sizeT P e), none⟩ []).run P w = .ok () w := rfl
                rw [this] at g1
                injection g1 with _ e
                exact e.symm
              rw [e1]; rfl
            · rw [ha hc0]; dsimp only; rw [add_addr, ← hsi]; exact g1
          · trivial
      · rename_i hfit
        cases hs with
        | sliceN hle =>
          dsimp only
          split
          · rename_i hl0
            simp only [Bool.and_eq_true, decide_eq_true_eq] at hl0
            obtain ⟨rfl, hcell⟩ := hl0
            unfold newAmb
            obtain ⟨r, w', μ', g1, g2, g3, g4⟩ := grow_sound R hA (A := none) (len := 0) (Nat.lt_of_not_le hfit) h62 hb (olds := []) rfl (.nil) hnew (by simp) ln hzs (0, 0)
            refine OutR.ofVal ⟨r, w', μ', g1, g2, g3, g4⟩
          · trivial
        | @slice b o _ cap _ l A hb' hc hle ha =>
          simp only [Cap.ok] at hc
          subst hc
          dsimp only
          unfold orBad
          split
          · rename_i old hold
            split
            · obtain ⟨olds, k1, k2, k3⟩ := sameHeap_first (w := w) (len := len) (sz := i.size) (cap := cap) (A := A) R hb' (by rw [← hsi]; exact hold) (fun hne => ha (fun hc0 => hne (by rw [show len = 0 by omega]; simp)))
              unfold newAmb
              obtain ⟨r, w', μ', g1, g2, g3, g4⟩ := grow_sound R hA (A := some A) (len := len) (by omega) h62 hb k3 k1 hnew k2 ln hzs (0, 0)
              exact OutR.ofVal ⟨r, w', μ', g1, g2, g3, g4⟩
            · trivial
          · trivial
    · rename_i k b o
      cases hs with
      | @slice _ _ _ cap _ l A hb' hc hle ha =>
      simp only [Cap.ok] at hc
      split
      · rename_i hn0
        subst hn0
        refine OutR.ofVal ⟨_, w, μ, app_room hA (by omega) ?_, .refl _ _ _, R, ?_⟩
        · have : rs = [] := List.eq_nil_of_length_eq_zero (by rw [ln]; simp)
          subst this; rfl
        · exact .slice hb' hc hle ha
      · rename_i hn0
        split
        · rename_i xb hxb
          split
          · trivial
          · rename_i hcond
            replace hcond : (!xb.exact && xb.rw && xb.elem == e && o == k * sizeT P e && sizeT P e != 0) = true := by
              cases hq2 : (!xb.exact && xb.rw && xb.elem == e && o == k * sizeT P e && sizeT P e != 0) with
              | true => rfl
              | false => rw [hq2] at hcond; exact absurd rfl hcond
            simp only [Bool.and_eq_true, Bool.not_eq_true', beq_iff_eq, bne_iff_ne, ne_eq] at hcond
            obtain ⟨⟨⟨⟨hex, hrw0⟩, rfl⟩, ho⟩, hsz0⟩ := hcond
            obtain ⟨ob, hob, hR⟩ := R.ob b l hb'
            rw [hxb] at hob; cases hob
            obtain ⟨cc, ee, fz, hr, hcc, hf, he, hx1, hx2, hx3⟩ := hR
            obtain ⟨y1, y2, y3, y4⟩ := hx2 hex hrw0
            split
            · rename_i hin
              have hfit : len + n ≤ cap := by
                have q1 : (k + (len + n)) * sizeT P xb.elem ≤ l.cap * sizeT P xb.elem := by
                  rw [Nat.add_mul]
                  have : P.cellsOf xb.elem = sizeT P xb.elem := rfl
                  rw [this] at y3
                  omega
                have := Nat.le_of_mul_le_mul_right q1 (Nat.pos_of_ne_zero hsz0)
                omega
              unfold orBad
              split
              · rename_i h' hst
                obtain ⟨w', g1, g2, g3, _⟩ := storeL_sound R hb' hnew hst
                refine OutR.ofVal ⟨_, w', μ, app_room hA hfit ?_, g2, g3, .slice hb' hc hfit ha⟩
                rw [ha (by omega)]; dsimp only; rw [add_addr, ← hsi]; exact g1
              · trivial
            · split
              · rename_i hcond2
                simp only [Bool.and_eq_true, decide_eq_true_eq] at hcond2
                obtain ⟨⟨⟨hfit2, hrw⟩, hcell⟩, hfz⟩ := hcond2
                by_cases hroom : len + n ≤ cap
                · obtain ⟨w', g1, g2, g3⟩ := tip_sound (n := n) R hb' hxb rfl hsz0 ho hc.1 hex hrw hfit2 hfz hcell hnew (by rw [ln, hsi]) (by omega)
                  refine OutR.ofVal ⟨_, w', _, app_room hA hroom ?_, g2, g3, ?_⟩
                  · rw [ha (by omega)]; dsimp only; rw [add_addr, ← hsi]; exact g1
                  · exact .slice (o := 0) (PM.add_same _ _ _) ⟨Nat.zero_le _, by dsimp only; omega⟩ hroom (fun h0 => ha h0)
                · have hload : loadL h b o (len * sizeT P xb.elem) = some ((xb.l.drop o).take (len * sizeT P xb.elem)) := by
                    unfold loadL
                    rw [hxb]
                    dsimp only
                    rw [if_pos hfit2]
                  obtain ⟨olds, k1, k2, k3⟩ := sameHeap_first (w := w) (len := len) (sz := i.size) (cap := cap) (A := A) R hb' (by rw [← hsi]; exact hload) (fun hne => ha (fun hc0 => hne (by rw [show len = 0 by omega]; simp)))
                  obtain ⟨d1, d2⟩ := dead_sound R b
                  obtain ⟨r, w', μ', g1, g2, g3, g4⟩ := grow_sound d1 hA (A := some A) (len := len) (by omega) h62 hb k3 k1 hnew k2 ln hzs (xb.frz.1 - o, xb.frz.2 - o)
                  exact OutR.ofVal ⟨r, w', μ', g1, d2.trans g2, g3, g4⟩
              · trivial
        · trivial
    · trivial
end Go.Vm
