/- Functions without a body: internal/reflectlite, internal/bytealg. -/
import Derived.Test.YtodpkcebihbghaaGreatDoorVmEff2
import Derived.Laws.Externs
import Derived.KernelRfl
set_option linter.unusedVariables false
set_option linter.unusedSimpArgs false
namespace Go.Vm
open Go.RowKit Go.Extern
variable {P : Program} {μ : PM} {h : Hp} {w : World}

structure ExtHyp (P : Program) : Prop where
  origin : ∀ (f : FuncId) (fn : Func), P.funcs[f]? = some fn → fn.body = none → (allNextRows.lookup fn.origin).isNone = true
  pack : ∀ t, t < P.types.size → P.packed t = false ∧ P.holdsPacked P.depth t = false ∧ P.methodsOfAPack P.depth t = false

theorem find_of {fn : Func} {n : String} {e : Array Value → Sem Value} (hn : fn.name = n) (h1 : (allGenericRows.lookup n).isNone = true) (h2 : (allTypedRows.lookup n).isNone = true) (h3 : allRows.lookup n = some e) : Extern.find fn = some e := by
  rw [Option.isNone_iff_eq_none] at h1 h2
  simp [Extern.find, hn, h1, h2, h3]
theorem findNext_of {fn : Func} {n : String} (hn : fn.name = n) (ho : (allNextRows.lookup fn.origin).isNone = true) (h1 : (allNextRows.lookup n).isNone = true) : Extern.findNext fn = none := by
  rw [Option.isNone_iff_eq_none] at h1 ho
  simp [Extern.findNext, hn, ho, h1]

/-! ### Types -/
theorem handle_inv (R : Rel P μ h w) {x : V} {r : Value} {t : TypeId} (hx : VR μ x r) (ht : ofHandleV P x = some t) : r = typeHandle P t := by
  unfold ofHandleV at ht
  split at ht
  · rename_i b t'
    split at ht
    · rename_i hb
      obtain ⟨hb, _⟩ := hb
      subst hb
      cases ht
      cases hx with | ptr hm =>
      rw [R.glob _ (Nat.le_refl _)] at hm
      cases hm
      simp [typeHandle]
    · cases ht
  · cases ht
theorem handle_lt {x : V} {t : TypeId} (ht : ofHandleV P x = some t) : t < P.types.size := by
  unfold ofHandleV at ht
  split at ht
  · split at ht
    · rename_i hb; cases ht; exact hb.2
    · cases ht
  · cases ht
theorem rtype_lt {x : V} {t : TypeId} (ht : ofRtypeV P x = some t) : t < P.types.size := by
  unfold ofRtypeV at ht
  split at ht
  · exact handle_lt ht
  · cases ht
theorem handle_ok (R : Rel P μ h w) (t : TypeId) : VR μ (handleV P t) (typeHandle P t) := by
  have := VR.ptr (o := t) (R.glob P.globals.size (Nat.le_refl _))
  simpa [handleV, typeHandle] using this
theorem run_ofHandle (t : TypeId) : Yields P (Rtype.ofHandle (typeHandle P t)) t := fun w => by
  simp [Rtype.ofHandle, typeHandle, handleType]
theorem run_handle (t : TypeId) : Yields P (Rtype.handle t) (typeHandle P t) := fun w => by simp [Rtype.handle]
theorem run_noPack {s : String} {t : TypeId} (h : P.packed t = false) : Yields P (Rtype.noPack s t) () := fun w => by simp [Rtype.noPack, h]
theorem run_noPackHeld {s : String} {t : TypeId} (h : P.holdsPacked P.depth t = false) : Yields P (Rtype.noPackHeld s t) () := fun w => by simp [Rtype.noPackHeld, h]
theorem run_noPackMethods {s : String} {t : TypeId} (h : P.methodsOfAPack P.depth t = false) : Yields P (Rtype.noPackMethods s t) () := fun w => by simp [Rtype.noPackMethods, h]
theorem typeV_ok (R : Rel P μ h w) {t : TypeId} {v : V} (hv : typeV P t = some v) : ∃ r, VR μ v r ∧ Yields P (ReflectliteType.toType t) r := by
  unfold typeV rtypeT at hv
  simp only [Option.map_map, Option.map_eq_some_iff] at hv
  obtain ⟨⟨n, q⟩, h1, rfl⟩ := hv
  refine ⟨.iface q (.agg #[typeHandle P t]), .iface (.agg (l' := [_]) (.single (handle_ok R t))), fun w => ?_⟩
  simp [ReflectliteType.toType, cutType, h1, (run_handle t) w, Sem.run_bind, Result.andThen]
theorem rtype_inv (R : Rel P μ h w) {x : V} {r : Value} {t : TypeId} (hx : VR μ x r) (ht : ofRtypeV P x = some t) : r = .agg #[typeHandle P t] := by
  unfold ofRtypeV at ht
  split at ht
  · cases hx with | agg hl =>
    cases hl with | cons h1 h2 =>
    cases h2
    rw [handle_inv R h1 ht]
  · cases ht
theorem run_ofRtype {t : TypeId} (hp : P.packed t = false) : Yields P (ReflectliteType.ofRtype (.agg #[typeHandle P t])) t := fun w => by
  show (do let t' ← Rtype.ofHandle (typeHandle P t); Rtype.noPack "a Type asked or handed on" t'; pure t' : Sem TypeId).run P w = _
  simp [(run_ofHandle t) w, (run_noPack hp) w, Sem.run_bind, Result.andThen]
theorem run_under {t u : TypeId} {i : TypeInfo} (h : underT P t = some (u, i)) : Yields P (Rtype.under t) (u, i) := fun w => by
  unfold underT at h
  cases hi : P.info? t with
  | none => rw [hi] at h; cases h
  | some j =>
    rw [hi] at h
    unfold Rtype.under
    rw [Sem.run_bind, yields_typeInfo hi w]
    simp only [Result.andThen_ok]
    dsimp only at h
    cases hd : j.desc <;> simp only [hd] at h ⊢ <;> first
      | (simp only [Option.some.injEq, Prod.mk.injEq] at h; obtain ⟨rfl, rfl⟩ := h; rfl)
      | skip
    rename_i q v
    cases hv : P.info? v with
    | none => rw [hv] at h; cases h
    | some k =>
      rw [hv] at h
      simp only [Option.map_some, Option.some.injEq, Prod.mk.injEq] at h
      obtain ⟨rfl, rfl⟩ := h
      rw [Sem.run_bind, yields_typeInfo hv w]
      rfl
theorem under_info {t u : TypeId} {i : TypeInfo} (h : underT P t = some (u, i)) : ∃ j, P.info? t = some j := by
  unfold underT at h
  cases hi : P.info? t with
  | none => rw [hi] at h; cases h
  | some j => exact ⟨j, rfl⟩
theorem run_kind {t : TypeId} {k : Nat} (h : kindT P t = some k) : Yields P (Rtype.kind t) k := fun w => by
  unfold kindT at h
  cases hu : underT P t with
  | none => rw [hu] at h; cases h
  | some p =>
    obtain ⟨u, i⟩ := p
    rw [hu] at h
    unfold Rtype.kind
    rw [Sem.run_bind, run_under hu w]
    simp only [Result.andThen_ok]
    dsimp only at h
    cases hd : i.desc <;> simp only [hd] at h ⊢ <;> first
      | (cases h; done)
      | (simp only [Option.some.injEq] at h; subst h; rfl)
theorem kind_info {t : TypeId} {k : Nat} (h : kindT P t = some k) : ∃ j, P.info? t = some j := by
  unfold kindT at h
  cases hu : underT P t with
  | none => rw [hu] at h; cases h
  | some p => exact under_info (u := p.1) (i := p.2) hu
theorem run_elem {t e : TypeId} (h : elemT P t = some e) : Yields P (Rtype.elem? t) (some e) := fun w => by
  unfold elemT at h
  cases hu : underT P t with
  | none => rw [hu] at h; cases h
  | some p =>
    obtain ⟨u, i⟩ := p
    rw [hu] at h
    unfold Rtype.elem?
    rw [Sem.run_bind, run_under hu w]
    simp only [Result.andThen_ok]
    dsimp only at h
    cases hd : i.desc <;> simp only [hd] at h ⊢ <;> first
      | (cases h; done)
      | (simp only [Option.some.injEq] at h; subst h; rfl)
theorem elem_info {t e : TypeId} (h : elemT P t = some e) : ∃ j, P.info? t = some j := by
  unfold elemT at h
  cases hu : underT P t with
  | none => rw [hu] at h; cases h
  | some p => exact under_info (u := p.1) (i := p.2) hu
theorem impls_info {u t : TypeId} {b : Bool} (h : implsT P u t = some b) : (∃ j, P.info? u = some j) ∧ ∃ j, P.info? t = some j := by
  unfold implsT at h
  cases h1 : underT P u with
  | none => rw [h1] at h; cases h
  | some p =>
    cases h2 : underT P t with
    | none => rw [h1, h2] at h; cases h
    | some q => exact ⟨under_info (u := p.1) (i := p.2) h1, under_info (u := q.1) (i := q.2) h2⟩
theorem run_impls (hp : ExtHyp P) {u t : TypeId} {b : Bool} (hu : u < P.types.size) (ht : t < P.types.size) (h : implsT P u t = some b) : Yields P (Rtype.implements u t) b := fun w => by
  obtain ⟨⟨ju, hju⟩, jt, hjt⟩ := impls_info h
  unfold implsT at h
  cases h1 : underT P u with
  | none => rw [h1] at h; cases h
  | some p =>
    cases h2 : underT P t with
    | none => rw [h1, h2] at h; cases h
    | some q =>
      obtain ⟨a, i⟩ := p
      obtain ⟨c, j⟩ := q
      rw [h1, h2, hjt] at h
      dsimp only at h
      unfold Rtype.implements
      rw [Sem.run_bind, run_noPackMethods (hp.pack t ht).2.2 w]
      simp only [Result.andThen_ok]
      rw [Sem.run_bind, run_noPackMethods (hp.pack u hu).2.2 w]
      simp only [Result.andThen_ok]
      rw [Sem.run_bind, run_under h1 w]
      simp only [Result.andThen_ok]
      rw [Sem.run_bind, run_under h2 w]
      simp only [Result.andThen_ok]
      cases hd : i.desc <;> simp only [hd] at h ⊢ <;> try (simp only [Option.some.injEq] at h; subst h; rfl)
      rename_i want
      cases he : j.desc <;> simp only [he] at h ⊢ <;> first
        | (cases h; done)
        | (simp only [Option.some.injEq] at h
           rw [Sem.run_bind, yields_typeInfo hjt w]
           simp only [Result.andThen_ok]
           subst h
           cases hl : leastMissing want jt.methods with
           | true => rw [missing_none hl]; rfl
           | false => obtain ⟨m, hm⟩ := missing_some hl; rw [hm]; rfl)
theorem run_hasName {t : TypeId} {i : TypeInfo} (h : P.info? t = some i) : ∃ b, Yields P (Rtype.hasName t) b := by
  unfold Rtype.hasName
  cases hd : i.desc <;> exact ⟨_, (yields_typeInfo h).bind (by rw [hd]; exact .pure _)⟩
theorem run_assign (hp : ExtHyp P) {u t : TypeId} {b : Bool} {ju : TypeInfo} (hu : u < P.types.size) (ht : t < P.types.size) (hju : P.info? u = some ju) (h : assignT P u t = some b) : Yields P (ReflectliteType.assignableTo u t) b := fun w => by
  unfold assignT at h
  unfold ReflectliteType.assignableTo
  split at h
  · rename_i he
    subst he
    simp only [Option.map_eq_some_iff] at h
    obtain ⟨b', h1, rfl⟩ := h
    simp [Rtype.directlyAssignable, Result.andThen, run_impls hp hu ht h1 w]
  · rename_i hne
    have hne' : (u != t) = true := by simpa using hne
    have hne2 : (u == t) = false := by simpa using hne
    cases h1 : underT P u with
    | none => rw [h1] at h; cases h
    | some p =>
      cases h2 : underT P t with
      | none => rw [h1, h2] at h; cases h
      | some q =>
        obtain ⟨a, i⟩ := p
        obtain ⟨c, j⟩ := q
        obtain ⟨jt, hjt⟩ := under_info h2
        obtain ⟨n1, hn1⟩ := run_hasName (P := P) hju
        obtain ⟨n2, hn2⟩ := run_hasName (P := P) hjt
        rw [h1, h2] at h
        dsimp only at h
        have hdir : (Rtype.directlyAssignable u t).run P w = .ok false w ∧ implsT P u t = some b := by
          unfold Rtype.directlyAssignable
          cases hd : i.desc <;> simp only [hd] at h <;> first
            | (cases h; done)
            | (split at h
               · cases h
               · rename_i hac
                 have hac' : (a == c) = false := by simpa using hac
                 refine ⟨?_, h⟩
                 simp only [hne2, Bool.false_eq_true, if_false, Sem.run_bind, hn1 w, hn2 w, Result.andThen_ok, run_under h1 w, run_under h2 w, hd, hac']
                 cases n1 <;> cases n2 <;> first | rfl | simp [Sem.run_bind, hn1 w, hn2 w, Result.andThen_ok, run_under h1 w, run_under h2 w, hd, hac'])
        simp [hne', (run_noPackMethods (hp.pack t ht).2.2) w, (run_noPackMethods (hp.pack u hu).2.2) w, Sem.run_bind, Result.andThen, hdir.1, run_impls hp hu ht hdir.2 w]

/-! ### The entries -/
theorem ext_val {f : FuncId} {fn : Func} {e : Array Value → Sem Value} (hp : ExtHyp P) (hf : P.funcs[f]? = some fn) (hb : fn.body = none) {n : String} (hn : fn.name = n) (hne : (n == "runtime.NumGoroutine") = false)
    (h1 : (allGenericRows.lookup n).isNone = true) (h2 : (allTypedRows.lookup n).isNone = true) (h3 : allRows.lookup n = some e) (h4 : (allNextRows.lookup n).isNone = true)
    {rs : List Value} {v : V} {h' : Hp} (k : ∃ r w' μ', (e rs.toArray).run P w = .ok r w' ∧ Ext μ h w μ' h' w' ∧ Rel P μ' h' w' ∧ VR μ' v r) : OutR P μ h w (callFunc f rs.toArray) (.val v h') := by
  obtain ⟨r, w', μ', g1, g2⟩ := k
  refine ⟨r, w', μ', ?_, g2⟩
  rw [run_callFunc_extern hf (by rw [hn]; exact hne) (by rw [hb]; rfl) (findNext_of hn (hp.origin f fn hf hb) h4) (find_of hn h1 h2 h3), g1]
  rfl
theorem ext_ret (R : Rel P μ h w) {s : Sem Value} {v : V} (k : ∃ r, VR μ v r ∧ s.run P w = .ok r w) : ∃ r w' μ', s.run P w = .ok r w' ∧ Ext μ h w μ' h w' ∧ Rel P μ' h w' ∧ VR μ' v r := by
  obtain ⟨r, h1, h2⟩ := k
  exact ⟨r, w, μ, h2, .refl _ _ _, R, h1⟩

theorem findIdx_range (c : UInt8) : ∀ (s : List UInt8), (match (List.range s.length).find? fun i => s[i]! == c with | some i => (i : Int) | none => -1) = (match s.findIdx? (fun b => b == c) with | some i => (i : Int) | none => -1) := by
  intro s
  have key : ((List.range s.length).find? fun i => s[i]! == c) = s.findIdx? (fun b => b == c) := by
    induction s with
    | nil => rfl
    | cons x l ih =>
      rw [List.length_cons, List.range_succ_eq_map, List.find?_cons]
      simp only [List.findIdx?_cons]
      cases hx : x == c with
      | true => simp [hx]
      | false =>
        simp only [List.getElem!_cons_zero, hx, Bool.false_eq_true, if_false, List.find?_map]
        rw [← ih]
        congr 1
  rw [key]
theorem vrs1 {x : V} {rs : List Value} (h : VRs μ [x] rs) : ∃ r, rs = [r] ∧ VR μ x r := by
  cases h with | cons h t => cases t; exact ⟨_, rfl, h⟩
theorem vrs2 {x y : V} {rs : List Value} (h : VRs μ [x, y] rs) : ∃ r q, rs = [r, q] ∧ VR μ x r ∧ VR μ y q := by
  cases h with | cons h t => obtain ⟨q, rfl, h2⟩ := vrs1 t; exact ⟨_, _, rfl, h, h2⟩
theorem parts_inv (R : Rel P μ h w) {x : V} {b o : Nat} {f : Int} {r : Value} {t : TypeId} (hx : VR μ (.agg [x, .ptr (some (b, o)), .int .u64 f]) r) (ht : ofHandleV P x = some t) :
    ∃ l, μ b = some l ∧ r = .agg #[typeHandle P t, .pointer (some ⟨l.r, l.off + o, none⟩), .int .u64 f] := by
  cases hx with | agg hl =>
  cases hl with | cons h1 hl =>
  cases hl with | cons h2 hl =>
  cases hl with | cons h3 hl =>
  cases hl
  cases h2 with | ptr hb =>
  cases h3
  exact ⟨_, hb, by rw [handle_inv R h1 ht]⟩
theorem run_partsAny {t : TypeId} {a : Addr} {f : Int} (hf : f ≠ 0) : Yields P (ReflectliteValue.partsAny (.agg #[typeHandle P t, .pointer (some a), .int .u64 f])) (some (t, a, f.toNat)) := fun w => by
  have : ReflectliteValue.partsAny (.agg #[typeHandle P t, .pointer (some a), .int .u64 f]) = (do pure (some (← Rtype.ofHandle (typeHandle P t), a, f.toNat)) : Sem (Option (TypeId × Addr × Nat))) := by
    cases f with
    | ofNat n => cases n with
      | zero => exact (hf rfl).elim
      | succ n => rfl
    | negSucc n => rfl
  rw [this, Sem.run_bind, run_ofHandle t w]
  rfl
theorem run_parts {t : TypeId} {a : Addr} {f : Int} (hf : f ≠ 0) (hp : P.packed t = false) : Yields P (ReflectliteValue.parts (.agg #[typeHandle P t, .pointer (some a), .int .u64 f])) (some (t, a, f.toNat)) := fun w => by
  unfold ReflectliteValue.parts
  simp [(run_partsAny (t := t) (a := a) hf) w, (run_noPack hp) w, Sem.run_bind, Result.andThen]
theorem method_eq (z : Sem Value) (g : TypeId → Addr → Nat → Nat → Sem Value) (v : Value) :
    ReflectliteValue.method z g #[v] = (do match ← ReflectliteValue.parts v with | none => z | some (t, a, fl) => g t a fl (fl % 32)) := rfl
theorem methodAny_eq (z : Sem Value) (g : TypeId → Addr → Nat → Nat → Sem Value) (v : Value) :
    ReflectliteValue.methodAny z g #[v] = (do match ← ReflectliteValue.partsAny v with | none => z | some (t, a, fl) => g t a fl (fl % 32)) := rfl
theorem run_loadPtr (R : Rel P μ h w) {t e : TypeId} (ht : P.underlying t = some (.pointer e)) {b o : Nat} {l : Loc} {v : V} (hb : μ b = some l) (hv : load1 h b o = some v) : ∃ r, VR μ v r ∧ (loadVar t ⟨l.r, l.off + o, none⟩).run P w = .ok r w :=
  loadVar_sound R ⟨_, ht⟩ hb (by
    have : isAggT P t = false := by unfold isAggT; rw [ht]
    rw [this]; exact hv)

theorem ext_ok (hp : ExtHyp P) : ExtOk P := by
  intro μ h w f fn args rs R hf hb ha
  have hname : ∃ n, fn.name = n := ⟨_, rfl⟩
  obtain ⟨n, hn⟩ := hname
  rw [hn]
  unfold externV
  split
  · -- IndexByteString
    obtain ⟨r, q, rfl, h1, h2⟩ := vrs2 ha
    rename_i s c
    cases h1
    cases h2
    refine ext_val (e := BytealgIndexByte.indexByte) hp hf hb hn (by kernel_rfl) (by kernel_rfl) (by kernel_rfl) (by kernel_rfl) (by kernel_rfl) (ext_ret R ⟨_, .int _ _, ?_⟩)
    refine (run_indexByte_string _ c w).trans ?_
    congr 2
    unfold firstIdx
    have e : (fun (i : Nat) => (⟨s.toArray⟩ : ByteArray)[i]! == c.toNat.toUInt8) = fun (i : Nat) => s[i]! == c.toNat.toUInt8 := by
      funext i
      congr 1
      by_cases hi : i < s.length
      · have h1 : i < (⟨s.toArray⟩ : ByteArray).size := by simpa [ByteArray.size] using hi
        rw [getElem!_pos _ i h1, getElem!_pos _ i hi]
        rfl
      · have h1 : ¬ i < (⟨s.toArray⟩ : ByteArray).size := by simpa [ByteArray.size] using hi
        rw [getElem!_neg _ i h1, getElem!_neg _ i hi]
    rw [e]
    exact findIdx_range c.toNat.toUInt8 s
  · -- TypeOf nil
    obtain ⟨r, rfl, h1⟩ := vrs1 ha
    cases h1
    exact ext_val (e := ReflectliteType.typeOf) hp hf hb hn (by kernel_rfl) (by kernel_rfl) (by kernel_rfl) (by kernel_rfl) (by kernel_rfl) (ext_ret R ⟨_, .nilIface, rfl⟩)
  · -- TypeOf
    obtain ⟨r, rfl, h1⟩ := vrs1 ha
    cases h1 with | iface h1 =>
    unfold orBad
    split
    · rename_i v hv
      obtain ⟨q, g1, g2⟩ := typeV_ok R hv
      exact ext_val (e := ReflectliteType.typeOf) hp hf hb hn (by kernel_rfl) (by kernel_rfl) (by kernel_rfl) (by kernel_rfl) (by kernel_rfl) (ext_ret R ⟨_, g1, g2 w⟩)
    · trivial
  · -- Comparable
    obtain ⟨r, rfl, h1⟩ := vrs1 ha
    unfold orBad
    split
    · rename_i i hi
      simp only [Option.bind_eq_some_iff] at hi
      obtain ⟨t, ht, hi⟩ := hi
      obtain rfl := rtype_inv R h1 ht
      obtain ⟨p1, p2, p3⟩ := hp.pack t (rtype_lt ht)
      refine ext_val (e := ReflectliteType.method fun t => do Rtype.noPackHeld "Comparable" t; pure (.bool (← typeInfo t).comparable)) hp hf hb hn (by kernel_rfl) (by kernel_rfl) (by kernel_rfl) (by kernel_rfl) (by kernel_rfl) (ext_ret R ⟨_, .bool _, ?_⟩)
      show (do let t ← ReflectliteType.ofRtype (.agg #[typeHandle P t]); Rtype.noPackHeld "Comparable" t; pure (.bool (← typeInfo t).comparable) : Sem Value).run P w = _
      simp [Sem.run_bind, run_ofRtype p1 w, (run_noPackHeld p2) w, Result.andThen, yields_typeInfo hi w]
    · trivial
  · -- Elem
    obtain ⟨r, rfl, h1⟩ := vrs1 ha
    unfold orBad
    split
    · rename_i v hv
      simp only [Option.bind_eq_some_iff] at hv
      obtain ⟨e, ⟨t, ht, he⟩, hv⟩ := hv
      obtain rfl := rtype_inv R h1 ht
      obtain ⟨i, hi⟩ := elem_info he
      obtain ⟨p1, p2, p3⟩ := hp.pack t (rtype_lt ht)
      obtain ⟨q, g1, g2⟩ := typeV_ok R hv
      refine ext_val (e := ReflectliteType.method ReflectliteType.elem) hp hf hb hn (by kernel_rfl) (by kernel_rfl) (by kernel_rfl) (by kernel_rfl) (by kernel_rfl) (ext_ret R ⟨_, g1, ?_⟩)
      show (do ReflectliteType.elem (← ReflectliteType.ofRtype (.agg #[typeHandle P t])) : Sem Value).run P w = _
      unfold ReflectliteType.elem
      simp [Sem.run_bind, run_ofRtype p1 w, Result.andThen, run_elem he w, g2 w]
    · trivial
  · -- Implements
    obtain ⟨r, q, rfl, h1, h2⟩ := vrs2 ha
    unfold orBad
    split
    · rename_i b hv
      simp only [Option.bind_eq_some_iff] at hv
      obtain ⟨u, hu, t, ht, hv⟩ := hv
      split at hv
      · rename_i hk
        cases h2 with | iface h2 =>
        obtain rfl := rtype_inv R h1 ht
        obtain rfl := rtype_inv R h2 hu
        obtain ⟨⟨ju, hju⟩, jt, hjt⟩ := impls_info hv
        refine ext_val (e := ReflectliteType.relation "Implements" ReflectliteType.implements_) hp hf hb hn (by kernel_rfl) (by kernel_rfl) (by kernel_rfl) (by kernel_rfl) (by kernel_rfl) (ext_ret R ⟨_, .bool _, ?_⟩)
        show (do pure (.bool (← ReflectliteType.implements_ (← ReflectliteType.ofRtype (.agg #[typeHandle P u])) (← ReflectliteType.ofRtype (.agg #[typeHandle P t])))) : Sem Value).run P w = _
        unfold ReflectliteType.implements_
        simp [Sem.run_bind, run_ofRtype (hp.pack u (rtype_lt hu)).1 w, run_ofRtype (hp.pack t (rtype_lt ht)).1 w, Result.andThen, run_kind hk w, (run_noPackMethods (hp.pack t (rtype_lt ht)).2.2) w, (run_noPack (hp.pack u (rtype_lt hu)).1) w, run_impls hp (rtype_lt hu) (rtype_lt ht) hv w]
      · cases hv
    · trivial
  · -- AssignableTo
    obtain ⟨r, q, rfl, h1, h2⟩ := vrs2 ha
    unfold orBad
    split
    · rename_i b hv
      simp only [Option.bind_eq_some_iff] at hv
      obtain ⟨u, hu, t, ht, ju, hju, hv⟩ := hv
      cases h2 with | iface h2 =>
      obtain rfl := rtype_inv R h1 ht
      obtain rfl := rtype_inv R h2 hu
      have hjt : ∃ j, P.info? t = some j := by
        unfold assignT at hv
        split at hv
        · rename_i he; subst he; exact ⟨_, hju⟩
        · split at hv
          · rename_i h2; exact under_info h2
          · cases hv
      obtain ⟨jt, hjt⟩ := hjt
      refine ext_val (e := ReflectliteType.relation "AssignableTo" ReflectliteType.assignableTo) hp hf hb hn (by kernel_rfl) (by kernel_rfl) (by kernel_rfl) (by kernel_rfl) (by kernel_rfl) (ext_ret R ⟨_, .bool _, ?_⟩)
      show (do pure (.bool (← ReflectliteType.assignableTo (← ReflectliteType.ofRtype (.agg #[typeHandle P u])) (← ReflectliteType.ofRtype (.agg #[typeHandle P t])))) : Sem Value).run P w = _
      simp [Sem.run_bind, run_ofRtype (hp.pack u (rtype_lt hu)).1 w, run_ofRtype (hp.pack t (rtype_lt ht)).1 w, Result.andThen, run_assign hp (rtype_lt hu) (rtype_lt ht) hju hv w]
    · trivial
  · -- Kind
    obtain ⟨r, rfl, h1⟩ := vrs1 ha
    unfold orBad
    split
    · rename_i k hv
      simp only [Option.bind_eq_some_iff] at hv
      obtain ⟨t, ht, hk⟩ := hv
      obtain rfl := handle_inv R h1 ht
      obtain ⟨i, hi⟩ := kind_info hk
      refine ext_val (e := ReflectliteType.abiMethod fun t => do pure (.int .u8 (← Rtype.kind t))) hp hf hb hn (by kernel_rfl) (by kernel_rfl) (by kernel_rfl) (by kernel_rfl) (by kernel_rfl) (ext_ret R ⟨_, .int _ _, ?_⟩)
      show (do let t ← Rtype.ofHandle (typeHandle P t); Rtype.noPack "a method of abi.Type" t; pure (.int .u8 (← Rtype.kind t)) : Sem Value).run P w = _
      simp [Sem.run_bind, run_ofHandle t w, (run_noPack (hp.pack t (handle_lt ht)).1) w, Result.andThen, run_kind hk w]
    · trivial
  · -- ValueOf
    obtain ⟨r, rfl, h1⟩ := vrs1 ha
    rename_i t v
    cases h1 with | @iface _ _ v' h1 =>
    unfold orBad
    split
    · rename_i k hk
      refine ext_val (e := fun args => ReflectliteValue.unpack (args.getD 0 (.tuple #[]))) hp hf hb hn (by kernel_rfl) (by kernel_rfl) (by kernel_rfl) (by kernel_rfl) (by kernel_rfl) ?_
      obtain ⟨g1, g2⟩ := new_sound (P := P) R (.cells v'.cells t) (newBlk v.cells t) 0 (by
        have := newBlk_ob (P := P) t h1.cells 0 w _ (PM.le_add ⟨w.heap.size, 0, 0⟩ R.dom)
        rwa [Array.toArray_toList] at this)
      refine ⟨.agg #[typeHandle P t, .pointer (some ⟨w.heap.size, 0, none⟩), .int .u64 ((k + 128 : Nat) : Int)], _, _, ?_, g2, g1, ?_⟩
      · show (do ReflectliteValue.mk t (← newVar t v') 0 : Sem Value).run P w = _
        unfold ReflectliteValue.mk
        simp [Sem.run_bind, newVar, newRow, run_newObj_alloc, Result.andThen, run_handle t _, run_kind hk _, ReflectliteValue.flagIndir]
      · exact .agg (l' := [_, _, _]) (.cons (handle_ok g1 t) (.cons (.ptr (o := 0) (PM.add_same _ _ _)) (.single (.int _ _))))
    · trivial
  · -- Type
    obtain ⟨r, rfl, h1⟩ := vrs1 ha
    rename_i x p fl
    obtain ⟨b, o⟩ := p
    split
    · trivial
    · rename_i hf0
      unfold orBad
      split
      · rename_i v hv
        simp only [Option.bind_eq_some_iff] at hv
        obtain ⟨t, ht, hv⟩ := hv
        obtain ⟨l, hl, rfl⟩ := parts_inv R h1 ht
        obtain ⟨q, g1, g2⟩ := typeV_ok R hv
        refine ext_val (e := ReflectliteValue.methodAny (ReflectliteValue.valueError "reflectlite.Value.Type" 0) fun t _ _ _ => ReflectliteType.toType t) hp hf hb hn (by kernel_rfl) (by kernel_rfl) (by kernel_rfl) (by kernel_rfl) (by kernel_rfl) (ext_ret R ⟨_, g1, ?_⟩)
        rw [show [Value.agg #[typeHandle P t, .pointer (some ⟨l.r, l.off + o, none⟩), .int .u64 fl]].toArray = #[Value.agg #[typeHandle P t, .pointer (some ⟨l.r, l.off + o, none⟩), .int .u64 fl]] from rfl, methodAny_eq, Sem.run_bind, run_partsAny hf0 w]
        exact g2 w
      · trivial
  · -- IsNil
    obtain ⟨r, rfl, h1⟩ := vrs1 ha
    rename_i x b o fl
    split
    · trivial
    · rename_i hf0
      have hfz : fl ≠ 0 := by rintro rfl; simp at hf0
      have hmod : fl.toNat % 32 = 22 := by simpa using hf0
      have key : ∀ (e : TypeId) (t : TypeId) (ht : ofHandleV P x = some t) (hu : P.underlying t = some (.pointer e)) (v : Option (Nat × Nat)) (hv : load1 h b o = some (.ptr v)),
          OutR P μ h w (callFunc f [r].toArray) (.val (.bool v.isNone) h) := fun e t ht hu v hv => by
        obtain ⟨l, hl, rfl⟩ := parts_inv R h1 ht
        obtain ⟨i, hi⟩ := info_of_underlying hu
        obtain ⟨q, g1, g2⟩ := run_loadPtr R hu hl hv
        refine ext_val (e := ReflectliteValue.method (ReflectliteValue.valueError "reflectlite.Value.IsNil" 0) ReflectliteValue.isNil) hp hf hb hn (by kernel_rfl) (by kernel_rfl) (by kernel_rfl) (by kernel_rfl) (by kernel_rfl) (ext_ret R ⟨_, .bool _, ?_⟩)
        rw [show [Value.agg #[typeHandle P t, .pointer (some ⟨l.r, l.off + o, none⟩), .int .u64 fl]].toArray = #[Value.agg #[typeHandle P t, .pointer (some ⟨l.r, l.off + o, none⟩), .int .u64 fl]] from rfl, method_eq, Sem.run_bind, run_parts hfz (hp.pack t (handle_lt ht)).1 w]
        simp only [Result.andThen_ok, hmod]
        unfold ReflectliteValue.isNil
        have hin : (!([18, 19, 20, 21, 22, 23, 26] : List Nat).contains 22) = false := by decide
        rw [hin]
        simp only [Bool.false_eq_true, if_false, Sem.run_bind, g2, Result.andThen]
        cases g1 <;> rfl
      split
      · rename_i e hu hv
        simp only [Option.bind_eq_some_iff] at hu
        obtain ⟨t, ht, hu⟩ := hu
        exact key e t ht hu none hv
      · rename_i e p hu hv
        simp only [Option.bind_eq_some_iff] at hu
        obtain ⟨t, ht, hu⟩ := hu
        exact key e t ht hu (some p) hv
      · trivial
  · -- Elem
    obtain ⟨r, rfl, h1⟩ := vrs1 ha
    rename_i x b o fl
    split
    · trivial
    · rename_i hf0
      have hfz : fl ≠ 0 := by rintro rfl; simp at hf0
      have hmod : fl.toNat % 32 = 22 := by simpa using hf0
      split
      · rename_i t e0 p ht hu hv
        rw [ht] at hu
        simp only [Option.bind_some] at hu
        unfold orBad
        split
        · rename_i e he
          dsimp only
          split
          · rename_i k hk
            obtain ⟨l, hl, rfl⟩ := parts_inv R h1 ht
            obtain ⟨i, hi⟩ := info_of_underlying hu
            obtain ⟨q, g1, g2⟩ := run_loadPtr R hu hl hv
            obtain ⟨pb, po⟩ := p
            cases g1 with | @ptr _ _ l2 hl2 =>
            refine ext_val (e := ReflectliteValue.method (ReflectliteValue.valueError "reflectlite.Value.Elem" 0) ReflectliteValue.elem) hp hf hb hn (by kernel_rfl) (by kernel_rfl) (by kernel_rfl) (by kernel_rfl) (by kernel_rfl) (ext_ret R ⟨.agg #[typeHandle P e, .pointer (some ⟨l2.r, l2.off + po, none⟩), .int .u64 ((k + 128 + 256 : Nat) : Int)], ?_, ?_⟩)
            · exact .agg (l' := [_, _, _]) (.cons (handle_ok R e) (.cons (.ptr hl2) (.single (.int _ _))))
            · rw [show [Value.agg #[typeHandle P t, .pointer (some ⟨l.r, l.off + o, none⟩), .int .u64 fl]].toArray = #[Value.agg #[typeHandle P t, .pointer (some ⟨l.r, l.off + o, none⟩), .int .u64 fl]] from rfl, method_eq, Sem.run_bind, run_parts hfz (hp.pack t (handle_lt ht)).1 w]
              simp only [Result.andThen_ok, hmod]
              unfold ReflectliteValue.elem
              simp [Sem.run_bind, g2, Result.andThen, run_elem he w, ReflectliteValue.mk, run_handle e w, run_kind hk w, ReflectliteValue.flagIndir, ReflectliteValue.flagAddr]
          · trivial
        · trivial
      · trivial
  · -- Set
    obtain ⟨r, q, rfl, h1, h2⟩ := vrs2 ha
    rename_i x b o fl y c p f2
    split
    · trivial
    · rename_i hcond
      simp only [Bool.or_eq_true, decide_eq_true_eq, not_or] at hcond
      obtain ⟨⟨hf0, hf2⟩, hfl⟩ := hcond
      split
      · rename_i t u ht hu
        split
        · rename_i hc
          simp only [Bool.and_eq_true, decide_eq_true_eq, Bool.not_eq_true'] at hc
          obtain ⟨⟨⟨rfl, hwf⟩, hag⟩, hsz⟩ := hc
          unfold orBad
          split
          · rename_i v hv
            dsimp only
            split
            · rename_i hcell
              split
              · rename_i h' hst
                obtain ⟨l1, hl1, rfl⟩ := parts_inv R h1 ht
                obtain ⟨l2, hl2, rfl⟩ := parts_inv R h2 hu
                obtain ⟨d, hd⟩ := wf_und hwf
                obtain ⟨i, hi⟩ := info_of_underlying hd
                obtain ⟨q, g1, g2⟩ := loadVar_sound R (t := t) ⟨d, hd⟩ hl2 (by rw [hag]; exact hv)
                have hcs : v.cells = [v] := by cases v <;> first | rfl | (simp [V.isCell] at hcell)
                obtain ⟨w', μ', k1, k2, k3⟩ := store_sound R hwf (.ptr hl1) g1 (by rw [hcs, hsz]; rfl) (by rw [hcs]; exact hst)
                refine ext_val (e := ReflectliteValue.set) hp hf hb hn (by kernel_rfl) (by kernel_rfl) (by kernel_rfl) (by kernel_rfl) (by kernel_rfl) ⟨.tuple #[], w', μ', ?_, k2, k3, .tuple (l' := []) .nil⟩
                have hdir : Yields P (Rtype.directlyAssignable t t) true := fun w => by simp [Rtype.directlyAssignable, Result.andThen]
                have k1' : (storeVar t ⟨l1.r, l1.off + o, none⟩ q).run P w = .ok () w' := k1
                show (do
                  let (some (dst, a, fl), some (src, b, _)) := (← ReflectliteValue.parts (.agg #[typeHandle P t, .pointer (some ⟨l1.r, l1.off + o, none⟩), .int .u64 fl]), ← ReflectliteValue.parts (.agg #[typeHandle P t, .pointer (some ⟨l2.r, l2.off + p, none⟩), .int .u64 f2]))
                    | unsupported (.noEntry "extern/(internal/reflectlite.Value).Set.zeroValue")
                  if fl / ReflectliteValue.flagAddr % 2 == 0 then unsupported (.noEntry "extern/(internal/reflectlite.Value).Set.unaddressable")
                  let val ← loadVar src b
                  if ← Rtype.directlyAssignable dst src then storeVar dst a val
                  else if ← Rtype.implements dst src then
                    if (← Rtype.kind src) == 20 then
                      match val with
                      | .nilIface => unsupported (.noEntry "extern/reflectlite: a nil value of one interface type handed on as a value of another")
                      | _ => storeVar dst a val
                    else storeVar dst a (.iface src val)
                  else panicString ("reflectlite.Set: value of type " ++ (← Rtype.spelt src) ++ " is not assignable to type " ++ (← Rtype.spelt dst))
                  pure (.tuple #[]) : Sem Value).run P w = _
                have hfl' : (fl.toNat / 256 % 2 == 0) = false := by simpa using hfl
                simp [Sem.run_bind, run_parts hf0 (hp.pack t (handle_lt ht)).1 w, run_parts hf2 (hp.pack t (handle_lt ht)).1 w, Result.andThen, ReflectliteValue.flagAddr, hfl', g2, hdir w, k1']
                omega
              · trivial
            · trivial
          · trivial
        · trivial
      · trivial
  · trivial
end Go.Vm
