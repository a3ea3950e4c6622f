/- How the virtual machine's values and heap stand to the model's. -/
import Derived.Test.YtodpkcebihbghaaGreatDoorVmDef
import Derived.WalkKit
import Derived.RowKit3
set_option linter.unusedVariables false
set_option linter.unusedSimpArgs false
namespace Go.Vm

structure Loc where
  r : Nat
  off : Nat
  cap : Nat
abbrev PM := Nat → Option Loc

def Cap.ok (l : Loc) : Cap → Nat → Prop
  | .ex n, c => c = n
  | .tl k, c => k ≤ l.cap ∧ c = l.cap - k

mutual
inductive VR (μ : PM) : V → Value → Prop where
  | bool (b : Bool) : VR μ (.bool b) (.bool b)
  | int (k : IntKind) (n : Int) : VR μ (.int k n) (.int k n)
  | str (s : List UInt8) : VR μ (.str s) (.string ⟨s.toArray⟩)
  | ptrN : VR μ (.ptr none) (.pointer none)
  | ptr {b o : Nat} {l : Loc} (h : μ b = some l) : VR μ (.ptr (some (b, o))) (.pointer (some ⟨l.r, l.off + o, none⟩))
  | sliceN {n c : Nat} (h : n ≤ c) : VR μ (.slice none n (.ex c)) (.slice none n c)
  | slice {b o len cap : Nat} {c : Cap} {l : Loc} {a : Addr} (h : μ b = some l) (hc : c.ok l cap) (hl : len ≤ cap) (ha : cap ≠ 0 → a = ⟨l.r, l.off + o, none⟩) :
      VR μ (.slice (some (b, o)) len c) (.slice (some a) len cap)
  | mapN : VR μ (.map none) (.map none)
  | map {b : Nat} {l : Loc} (h : μ b = some l) : VR μ (.map (some b)) (.map (some l.r))
  | func {f : FuncId} {fs cs : List V} {fs' cs' : List Value} (hf : VRs μ fs fs') (hc : VRs μ cs cs') : VR μ (.func f fs cs) (.func (.func f) fs'.toArray cs'.toArray)
  | yield {b : Nat} {l : Loc} (h : μ b = some l) : VR μ (.yield b) (.func (.yield l.r) #[] #[])
  | nilFunc : VR μ .nilFunc .nilFunc
  | iface {t : TypeId} {v : V} {v' : Value} (h : VR μ v v') : VR μ (.iface t v) (.iface t v')
  | nilIface : VR μ .nilIface .nilIface
  | agg {l : List V} {l' : List Value} (h : VRs μ l l') : VR μ (.agg l) (.agg l'.toArray)
  | tuple {l : List V} {l' : List Value} (h : VRs μ l l') : VR μ (.tuple l) (.tuple l'.toArray)
inductive VRs (μ : PM) : List V → List Value → Prop where
  | nil : VRs μ [] []
  | cons {v : V} {l : List V} {v' : Value} {l' : List Value} (h : VR μ v v') (t : VRs μ l l') : VRs μ (v :: l) (v' :: l')
end

def PM.le (μ ν : PM) : Prop := ∀ b l, μ b = some l → ν b = some l
theorem PM.le.refl (μ : PM) : μ.le μ := fun _ _ h => h
theorem PM.le.trans {a b c : PM} (h : a.le b) (k : b.le c) : a.le c := fun x l e => k x l (h x l e)

theorem VR.mono {μ ν : PM} (hle : μ.le ν) {v : V} {r : Value} (h : VR μ v r) : VR ν v r :=
  VR.rec (motive_1 := fun v r _ => VR ν v r) (motive_2 := fun l m _ => VRs ν l m)
    (fun b => .bool b) (fun k n => .int k n) (fun s => .str s) .ptrN (fun h => .ptr (hle _ _ h)) (fun h => .sliceN h)
    (fun h hc hl ha => .slice (hle _ _ h) hc hl ha) .mapN (fun h => .map (hle _ _ h)) (fun _ _ a b => .func a b) (fun h => .yield (hle _ _ h))
    .nilFunc (fun _ a => .iface a) .nilIface (fun _ a => .agg a) (fun _ a => .tuple a) .nil (fun _ _ a b => .cons a b) h
theorem VRs.mono {μ ν : PM} (hle : μ.le ν) {v : List V} {r : List Value} (h : VRs μ v r) : VRs ν v r := by
  induction v generalizing r with
  | nil => cases h; exact .nil
  | cons a l ih => cases h with | cons h t => exact .cons (h.mono hle) (ih t)

/-! ### Lists -/
theorem VRs.length {μ : PM} {l : List V} {m : List Value} (h : VRs μ l m) : l.length = m.length := by
  induction l generalizing m with
  | nil => cases h; rfl
  | cons a l ih => cases h with | cons h t => simp [ih t]
theorem VRs.get {μ : PM} {l : List V} {m : List Value} (h : VRs μ l m) {i : Nat} {v : V} (hv : l[i]? = some v) : ∃ r, m[i]? = some r ∧ VR μ v r := by
  induction l generalizing m i with
  | nil => simp at hv
  | cons a l ih =>
    cases h with
    | cons h t =>
      cases i with
      | zero => simp at hv; subst hv; exact ⟨_, rfl, h⟩
      | succ i => simp at hv; simpa using ih t hv
theorem VRs.append {μ : PM} {l l2 : List V} {m m2 : List Value} (h : VRs μ l m) (k : VRs μ l2 m2) : VRs μ (l ++ l2) (m ++ m2) := by
  induction l generalizing m with
  | nil => cases h; simpa using k
  | cons a l ih => cases h with | cons h t => exact .cons h (ih t)
theorem VRs.of_get {μ : PM} : ∀ {l : List V} {m : List Value}, l.length = m.length → (∀ (i : Nat) (v : V) (r : Value), l[i]? = some v → m[i]? = some r → VR μ v r) → VRs μ l m
  | [], [], _, _ => .nil
  | v :: l, r :: m, hl, h => .cons (h 0 v r rfl rfl) (VRs.of_get (by simpa using hl) fun i a b ha hb => h (i + 1) a b (by simpa using ha) (by simpa using hb))
theorem VRs.take {μ : PM} {l : List V} {m : List Value} (h : VRs μ l m) (n : Nat) : VRs μ (l.take n) (m.take n) := by
  induction l generalizing m n with
  | nil => cases h; simp; exact .nil
  | cons a l ih => cases h with | cons h t => cases n with | zero => exact .nil | succ n => exact .cons h (ih t n)
theorem VRs.drop {μ : PM} {l : List V} {m : List Value} (h : VRs μ l m) (n : Nat) : VRs μ (l.drop n) (m.drop n) := by
  induction l generalizing m n with
  | nil => cases h; simp; exact .nil
  | cons a l ih => cases h with | cons h t => cases n with | zero => exact .cons h t | succ n => simpa using ih t n
theorem VRs.single {μ : PM} {v : V} {r : Value} (h : VR μ v r) : VRs μ [v] [r] := .cons h .nil
theorem VRs.splice {μ : PM} {l vs : List V} {m rs : List Value} (h : VRs μ l m) (k : VRs μ vs rs) (o : Nat) : VRs μ (splice l o vs) (m.take o ++ (rs ++ m.drop (o + rs.length))) := by
  unfold Vm.splice
  rw [k.length]
  exact (h.take o).append (k.append (h.drop _))

theorem VR.cells {μ : PM} {v : V} {r : Value} (h : VR μ v r) : VRs μ v.cells r.cells.toList := by
  cases h <;> simp only [V.cells, Value.cells] <;> first | assumption | (refine .single ?_; constructor <;> assumption)

/-- Cells from a place on. -/
def CellR (μ : PM) (l : List V) (c : Array Value) (o : Nat) : Prop := ∀ i v, l[i]? = some v → ∃ r, c[o + i]? = some r ∧ VR μ v r

def writable : Option Ob → Prop
  | some (.cells x) => x.rw = true
  | some (.map _ _) | some (.loop _) | some (.deferred _) => True
  | _ => False

/-- An order on codes: constants that are known, slots that there are. Laid below. -/
def EntR (μ : PM) : List (V × V × Nat) → List MapEntry → Prop
  | [], [] => True
  | (k, v, b) :: l, e :: m => VR μ k e.key ∧ VR μ v e.val ∧ e.born = b ∧ EntR μ l m
  | _, _ => False

/-- A frame's temporaries. -/
def FR (μ : PM) (F : Frm) (n : Nat) (tmps : Array Value) : Prop :=
  tmps.size = n ∧ ∀ i, i < n → VR μ ((F.get (Pos.of i)).getD vundef) (tmps.getD i undef)

end Go.Vm
/- Operations that look at no memory: what they come to in the model. -/
namespace Go.Vm
open Go.RowKit

variable {P : Program} {μ : PM} {F : Frm} {a : Act}

/-- What a call of the model's semantics yields in every world, the world left alone. -/
def Yields {α : Type} (P : Program) (s : Sem α) (r : α) : Prop := ∀ w, s.run P w = .ok r w
theorem Yields.pure {α : Type} (r : α) : Yields P (pure r : Sem α) r := fun _ => rfl
theorem Yields.bind {α β : Type} {s : Sem α} {f : α → Sem β} {r : α} {q : β} (h : Yields P s r) (k : Yields P (f r) q) : Yields P (s >>= f) q := fun w => by
  rw [Sem.run_bind, h w]; exact k w
theorem Yields.value {s : Sem Value} {r : Value} (h : Yields P s r) : Yields P (do Pure.pure (.value (← s)) : Sem Next) (.value r) := h.bind (.pure _)

theorem VR.int_inv {k : IntKind} {n : Int} {r : Value} (h : VR μ (.int k n) r) : r = .int k n := by cases h; rfl
theorem VR.bool_inv {b : Bool} {r : Value} (h : VR μ (.bool b) r) : r = .bool b := by cases h; rfl
theorem VR.str_inv {s : List UInt8} {r : Value} (h : VR μ (.str s) r) : r = .string ⟨s.toArray⟩ := by cases h; rfl

/-! ### Types -/
theorem yields_underlying {t : TypeId} {d : TypeDesc} (h : P.underlying t = some d) : Yields P (underlying t) d := fun w => run_underlying h w
theorem yields_sizeOf {t : TypeId} {i : TypeInfo} (h : P.info? t = some i) : Yields P (sizeOf t) (P.cellsOf t) := fun w => run_sizeOf w h
theorem info_of_underlying {t : TypeId} {d : TypeDesc} (h : P.underlying t = some d) : ∃ i, P.info? t = some i := by
  unfold Program.underlying at h
  cases hi : P.info? t with
  | none => simp [hi] at h
  | some i => exact ⟨i, rfl⟩
theorem yields_typeInfo {t : TypeId} {i : TypeInfo} (h : P.info? t = some i) : Yields P (typeInfo t) i := fun w => by
  simp [typeInfo, program, Sem.run, h, Sem.run_bind]
theorem yields_isAgg {t : TypeId} {d : TypeDesc} (h : P.underlying t = some d) : Yields P (isAgg t) (isAggT P t) := by
  refine (yields_underlying h).bind ?_
  unfold isAggT
  rw [h]
  cases d <;> exact .pure _

/-! ### Constants -/
mutual
theorem toV_sound : ∀ (r : Value) {v : V}, toV r = some v → VR μ v r
  | .bool b, v, h => by simp [toV] at h; subst h; exact .bool b
  | .int k n, v, h => by simp [toV] at h; subst h; exact .int k n
  | .string s, v, h => by simp [toV] at h; subst h; exact .str s.data.toList
  | .pointer none, v, h => by simp [toV] at h; subst h; exact .ptrN
  | .pointer (some _), v, h => by simp [toV] at h
  | .slice none n c, v, h => by
    cases n <;> cases c <;> simp [toV] at h
    subst h; exact .sliceN (Nat.le_refl _)
  | .slice (some _) _ _, v, h => by simp [toV] at h
  | .map none, v, h => by simp [toV] at h; subst h; exact .mapN
  | .map (some _), v, h => by simp [toV] at h
  | .nilFunc, v, h => by simp [toV] at h; subst h; exact .nilFunc
  | .nilIface, v, h => by simp [toV] at h; subst h; exact .nilIface
  | .agg ⟨l⟩, v, h => by
    simp only [toV, Option.map_eq_some_iff] at h
    obtain ⟨m, hm, rfl⟩ := h
    exact .agg (toVs_sound l hm)
  | .float _ _, v, h => by simp [toV] at h
  | .complex _ _ _, v, h => by simp [toV] at h
  | .chan _, v, h => by simp [toV] at h
  | .func _ _ _, v, h => by simp [toV] at h
  | .iface _ _, v, h => by simp [toV] at h
  | .tuple _, v, h => by simp [toV] at h
theorem toVs_sound : ∀ (l : List Value) {m : List V}, toVs l = some m → VRs μ m l
  | [], m, h => by simp [toVs] at h; subst h; exact .nil
  | r :: l, m, h => by
    simp only [toVs] at h
    split at h
    · rename_i v vs hv hvs
      simp at h; subst h
      exact .cons (toV_sound r hv) (toVs_sound l hvs)
    · simp at h
end
theorem zero_sound {t : TypeId} {v : V} (h : zeroV P t = some v) : ∃ r, VR μ v r ∧ Yields P (zeroValue t) r := by
  unfold zeroV at h
  simp only [Option.bind_eq_some_iff] at h
  obtain ⟨z, ⟨i, hi, hz⟩, hv⟩ := h
  refine ⟨z, toV_sound z hv, ?_⟩
  unfold zeroValue
  refine (yields_typeInfo hi).bind ?_
  rw [hz]; exact .pure _
theorem zeroT_sound {t : TypeId} {l : List V} (h : zeroT P t = some l) : ∃ r : Value, VRs μ l r.cells.toList ∧ Yields P (zeroValue t) r := by
  unfold zeroT at h
  simp only [Option.bind_eq_some_iff, Option.map_eq_some_iff] at h
  obtain ⟨z, hz, v, hv, rfl⟩ := h
  obtain ⟨r, h1, h2⟩ := zero_sound (P := P) (μ := μ) (t := t) (v := v) (by unfold zeroV; simp only [Option.bind_eq_some_iff]; exact ⟨z, hz, hv⟩)
  exact ⟨r, h1.cells, h2⟩

/-! ### Arithmetic -/
theorem bytesLess_eq : ∀ (l m : List UInt8), bytesLess l m = Op.bytesLess l m
  | l, [] => by cases l <;> rfl
  | [], _ :: _ => rfl
  | a :: x, b :: y => by simp [bytesLess, Op.bytesLess, bytesLess_eq x y]
theorem mk_append (l m : List UInt8) : (⟨l.toArray⟩ : ByteArray) ++ ⟨m.toArray⟩ = ⟨(l ++ m).toArray⟩ := by
  apply ByteArray.ext; simp

theorem intBits_sound {op : BinOp} {k : IntKind} {n m q : Int} (h : intBits op k n m = some q) : Yields P (Op.intBits op k n m) (.int k q) := by
  unfold intBits at h
  cases op <;> first | (cases h; done) | (injection h with h; subst h; exact .pure _)

theorem mk_beq (l m : List UInt8) : ((⟨l.toArray⟩ : ByteArray) == ⟨m.toArray⟩) = (l == m) := by
  rw [beq_toListBytes, ByteArray.toList_eq, ByteArray.toList_eq]

/-! ### Equality -/
theorem eqD_sound {t : TypeId} {e : TypeDesc} (d : Nat) {x y : V} {x' y' : Value} {b : Bool} (ht : P.underlying t = some e) (h : eqD e x y = some b) (hx : VR μ x x') (hy : VR μ y y') :
    Yields P (Op.equalIn (d + 1) t x' y') b ∧ isAggT P t = false := by
  unfold eqD at h
  split at h
  · cases hx; cases hy; simp at h; subst h
    exact ⟨fun w => run_equalIn_bool' w d t _ _ ht, by simp [isAggT, ht]⟩
  · split at h
    · rename_i ek; subst ek; cases hx; cases hy; simp at h; subst h
      exact ⟨fun w => run_equalIn_int w d t _ _ _ _ ht, by simp [isAggT, ht]⟩
    · simp at h
  · cases hx; cases hy; simp at h; subst h
    refine ⟨fun w => ?_, by simp [isAggT, ht]⟩
    rw [run_equalIn_string w d t _ _ ht, ByteArray.toList_eq, ByteArray.toList_eq]
  · simp at h
theorem part_cell {t : TypeId} {cs : Array Value} {o : Nat} {v : Value} {e : TypeDesc} (ht : P.underlying t = some e) (hn : isAggT P t = false) (h : cs[o]? = some v) : Yields P (part t cs o) v := by
  unfold part
  refine (yields_isAgg ht).bind ?_
  rw [hn]; simp only [Bool.false_eq_true, if_false, h]; exact .pure _
theorem eqFs_sound (d : Nat) : ∀ (fs : List Field) (i : Nat) (l m : List V) (xs ys : List Value) (b : Bool) (A B : Array Value), eqFs P fs i l m = some b → VRs μ l xs → VRs μ m ys →
    A.toList.drop i = xs → B.toList.drop i = ys → Yields P (Op.eqFields (d + 1) A B fs) b
  | [], i, l, m, xs, ys, b, A, B, h, _, _, _, _ => by simp [eqFs] at h; subst h; exact .pure _
  | f :: fs, i, [], m, xs, ys, b, A, B, h, _, _, _, _ => by simp [eqFs] at h
  | f :: fs, i, x :: l, [], xs, ys, b, A, B, h, _, _, _, _ => by simp [eqFs] at h
  | f :: fs, i, x :: l, y :: m, _, _, b, A, B, h, .cons (v' := x') (l' := xs) hx hl, .cons (v' := y') (l' := ys) hy hm, hA, hB => by
    simp only [eqFs] at h
    split at h
    · rename_i hc
      simp only [Bool.and_eq_true, bne_iff_ne, ne_eq, beq_iff_eq] at hc
      obtain ⟨hn, ho⟩ := hc
      split at h
      · rename_i e he
        split at h
        · rename_i p q hp hq
          simp only [Option.some.injEq] at h
          subst h
          obtain ⟨h1, h2⟩ := eqD_sound d he hp hx hy
          have eA : A[f.offset]? = some x' := by rw [← Array.getElem?_toList, ho]; have := congrArg (fun l => l[0]?) hA; simpa using this
          have eB : B[f.offset]? = some y' := by rw [← Array.getElem?_toList, ho]; have := congrArg (fun l => l[0]?) hB; simpa using this
          have r := eqFs_sound d fs (i + 1) l m xs ys q A B hq hl hm (by have := congrArg (List.drop 1) hA; simpa [List.drop_drop, Nat.add_comm] using this) (by have := congrArg (List.drop 1) hB; simpa [List.drop_drop, Nat.add_comm] using this)
          unfold Op.eqFields
          rw [if_pos hn]
          refine (part_cell he h2 eA).bind ((part_cell he h2 eB).bind (h1.bind ?_))
          cases p
          · exact .pure _
          · simpa using r
        · simp at h
      · simp at h
    · simp at h
theorem eqIs_sound (d : Nat) {t : TypeId} {e : TypeDesc} (ht : P.underlying t = some e) : ∀ (n i : Nat) (l m : List V) (xs ys : List Value) (b : Bool) (A B : Array Value), eqIs e n l m = some b → VRs μ l xs → VRs μ m ys →
    A.toList.drop i = xs → B.toList.drop i = ys → Yields P (Op.eqItems (d + 1) t 1 A B (List.range' i n)) b
  | 0, i, l, m, xs, ys, b, A, B, h, _, _, _, _ => by simp [eqIs] at h; subst h; exact .pure _
  | n + 1, i, [], m, xs, ys, b, A, B, h, _, _, _, _ => by simp [eqIs] at h
  | n + 1, i, x :: l, [], xs, ys, b, A, B, h, _, _, _, _ => by simp [eqIs] at h
  | n + 1, i, x :: l, y :: m, _, _, b, A, B, h, .cons (v' := x') (l' := xs) hx hl, .cons (v' := y') (l' := ys) hy hm, hA, hB => by
    simp only [eqIs] at h
    split at h
    · rename_i p q hp hq
      simp only [Option.some.injEq] at h
      subst h
      obtain ⟨h1, h2⟩ := eqD_sound d ht hp hx hy
      have eA : A[i * 1]? = some x' := by rw [← Array.getElem?_toList, Nat.mul_one]; have := congrArg (fun l => l[0]?) hA; simpa using this
      have eB : B[i * 1]? = some y' := by rw [← Array.getElem?_toList, Nat.mul_one]; have := congrArg (fun l => l[0]?) hB; simpa using this
      have r := eqIs_sound d ht n (i + 1) l m xs ys q A B hq hl hm (by have := congrArg (List.drop 1) hA; simpa [List.drop_drop, Nat.add_comm] using this) (by have := congrArg (List.drop 1) hB; simpa [List.drop_drop, Nat.add_comm] using this)
      rw [List.range'_succ]
      unfold Op.eqItems
      refine (part_cell ht h2 eA).bind ((part_cell ht h2 eB).bind (h1.bind ?_))
      cases p
      · exact .pure _
      · simpa using r
    · simp at h
def plainD : TypeDesc → Bool | .bool | .int _ | .string => true | _ => false
theorem eqD_plain {e : TypeDesc} {x y : V} {b : Bool} (h : eqD e x y = some b) : plainD e = true := by
  unfold eqD at h; split at h <;> first | rfl | simp at h
theorem guard_plain {t : TypeId} {e : TypeDesc} (ht : P.underlying t = some e) (h : plainD e = true) (d : Nat) : P.eqGuardType (d + 1) t = false := by
  unfold Program.eqGuardType
  rw [ht]
  cases e <;> first | rfl | (simp [plainD] at h)
theorem eqFs_guard (d : Nat) : ∀ (fs : List Field) (i : Nat) (l m : List V) (b : Bool), eqFs P fs i l m = some b → (fs.any fun f => f.name != "_" && P.eqGuardType (d + 1) f.type) = false
  | [], _, _, _, _, _ => rfl
  | f :: fs, i, [], m, b, h => by simp [eqFs] at h
  | f :: fs, i, x :: l, [], b, h => by simp [eqFs] at h
  | f :: fs, i, x :: l, y :: m, b, h => by
    simp only [eqFs] at h
    split at h
    · split at h
      · rename_i e he
        split at h
        · rename_i p q hp hq
          have := eqFs_guard d fs (i + 1) l m q hq
          simp only [List.any_cons, this, Bool.or_false, guard_plain he (eqD_plain hp) d, Bool.and_false]
        · simp at h
      · simp at h
    · simp at h
theorem eqAgg_sound {t : TypeId} (d : Nat) {l m : List V} {xs ys : List Value} {b : Bool} (h : eqAgg P t l m = some b) (hl : VRs μ l xs) (hm : VRs μ m ys) :
    Yields P (Op.equalIn (d + 2) t (.agg xs.toArray) (.agg ys.toArray)) b := by
  unfold eqAgg at h
  intro w
  split at h
  · rename_i fs ht
    split at h
    · simp at h
    · rename_i hs
      have hf : P.fieldsOf t = fs := by simp [Program.fieldsOf, ht]
      rw [run_equalIn_struct w (d + 1) t _ _ (by rw [hf]; exact ht) (by simpa using hs), hf]
      exact eqFs_sound d fs.toList 0 l m xs ys b _ _ h hl hm (by simp) (by simp) w
  · rename_i n e ht
    split at h
    · rename_i hs
      split at h
      · rename_i ed he
        obtain ⟨i, hi⟩ := info_of_underlying he
        have hs' : P.cellsOf e = 1 := hs.1
        rw [run_equalIn_array w (d + 1) _ _ ht hi, hs', List.range_eq_range']
        exact eqIs_sound d he n 0 l m xs ys b _ _ h hl hm (by simp) (by simp) w
      · simp at h
    · simp at h
  · simp at h
theorem eqAgg_guard {t : TypeId} {l m : List V} {b : Bool} (h : eqAgg P t l m = some b) (hd : 3 ≤ P.depth) : P.eqGuardType P.depth t = false := by
  obtain ⟨d, hd⟩ : ∃ d, P.depth = d + 2 := ⟨P.depth - 2, by omega⟩
  rw [hd]
  unfold eqAgg at h
  split at h
  · rename_i fs ht
    split at h
    · simp at h
    · unfold Program.eqGuardType
      rw [ht]
      simp only [← Array.any_toList]
      exact eqFs_guard d fs.toList 0 l m b h
  · rename_i n e ht
    split at h
    · rename_i hs
      obtain ⟨n, rfl⟩ : ∃ k, n = k + 1 := ⟨n - 1, by omega⟩
      split at h
      · rename_i ed he
        cases l <;> cases m <;> simp [eqIs] at h
        split at h
        · rename_i p q hp hq
          unfold Program.eqGuardType
          rw [ht]
          exact guard_plain he (eqD_plain hp) d
        · simp at h
      · simp at h
    · simp at h
  · simp at h

theorem iface_comparable {t : TypeId} {i : TypeInfo} (h : P.info? t = some i) (hc : ((P.info? t).map (·.comparable)).getD false = true) : i.comparable = true := by simpa [h] using hc

theorem yields_samePtr {x y : Addr} (h : x.block = y.block) : Yields P (sameAddr x y) (x == y) := fun w => by
  unfold sameAddr; simp [h, Sem.run]

theorem addr_beq (r x o o' : Nat) : ((⟨r, x + o, none⟩ : Addr) == ⟨r, x + o', none⟩) = (o == o') := by
  rw [Bool.eq_iff_iff]; simp
theorem info_of_size {t : TypeId} (h : sizeT P t ≠ 0) : ∃ i, P.info? t = some i := by
  cases hi : P.info? t with
  | none => exact absurd (by simp [sizeT, Program.cellsOf, hi]) h
  | some i => exact ⟨i, rfl⟩
theorem info_of_comparable {t : TypeId} (h : ((P.info? t).map (·.comparable)).getD false = true) : ∃ i, P.info? t = some i := by
  cases hi : P.info? t with
  | none => rw [hi] at h; simp at h
  | some i => exact ⟨i, rfl⟩
theorem eqV_sound (cst : Bool) : ∀ (n : Nat) {t : TypeId} {x y : V} {x' y' : Value} {b : Bool} (d : Nat), eqV P cst n t x y = some b → VR μ x x' → VR μ y y' → Yields P (Op.equalIn (n + d + 2) t x' y') b
  | 0, _, _, _, _, _, _, _, h, _, _ => by simp [eqV] at h
  | n + 1, t, x, y, x', y', b, d, h, hx, hy => by
    have e1 : n + 1 + d + 2 = (n + d + 2) + 1 := by omega
    rw [e1]
    unfold eqV at h
    split at h
    · rename_i ht; exact (eqD_sound _ ht (by simpa [eqD] using h) hx hy).1
    · rename_i ht; exact (eqD_sound _ ht (by simpa [eqD] using h) hx hy).1
    · rename_i ht; exact (eqD_sound _ ht (by simpa [eqD] using h) hx hy).1
    · rename_i ht; simp at h; subst h; cases hx
      refine (yields_underlying ht).bind ?_
      cases hy <;> exact .pure _
    · rename_i ht; simp at h; subst h; cases hx; cases hy
      exact (yields_underlying ht).bind (.pure _)
    · rename_i ht
      split at h
      · rename_i hc
        simp at h; subst h
        simp only [Bool.and_eq_true, decide_eq_true_eq, ne_eq] at hc
        obtain ⟨rfl, hs⟩ := hc
        cases hx with | ptr h1 => cases hy with | ptr h2 =>
        rw [h1] at h2; cases h2
        refine (yields_underlying ht).bind ?_
        obtain ⟨i, hi⟩ := info_of_size hs
        refine (yields_sizeOf hi).bind ?_
        rw [if_pos (show P.cellsOf _ ≠ 0 from hs)]
        intro w
        rw [← addr_beq]
        exact yields_samePtr (by exact rfl) w
      · simp at h
    · rename_i ht
      split at h
      · simp at h; subst h; cases hx; cases hy
        exact (yields_underlying ht).bind (.pure _)
      · simp at h
    · rename_i ht; simp at h; subst h; cases hx; cases hy
      exact (yields_underlying ht).bind (.pure _)
    · rename_i ht; simp at h; subst h; cases hx; cases hy
      exact (yields_underlying ht).bind (.pure _)
    · rename_i ht
      cases hx with | iface hx => cases hy with | iface hy =>
      refine (yields_underlying ht).bind ?_
      split at h
      · rename_i hne
        simp at h; subst h
        show Yields P (if _ then _ else _) _
        rw [if_pos hne]; exact .pure _
      · rename_i he
        split at h
        · rename_i hc
          obtain ⟨i, hi⟩ := info_of_comparable hc
          show Yields P (if _ then _ else _) _
          rw [if_neg he]
          refine (yields_typeInfo hi).bind ?_
          have hcc : i.comparable = true := by rw [hi] at hc; simpa using hc
          rw [hcc]
          exact eqV_sound false n d h hx hy
        · simp at h
    · rename_i ht; simp at h; subst h; cases hx
      refine (yields_underlying ht).bind ?_
      cases hy <;> exact .pure _
    · rename_i ht; simp at h; subst h; cases hx; cases hy
      exact (yields_underlying ht).bind (.pure _)
    · rename_i ht; simp at h; subst h; cases hx
      refine (yields_underlying ht).bind ?_
      cases hy <;> exact .pure _
    · rename_i ht; simp at h; subst h; cases hx; cases hy
      exact (yields_underlying ht).bind (.pure _)
    · rename_i ht; simp at h; subst h; cases hx; cases hy
      exact (yields_underlying ht).bind (.pure _)
    · rename_i ht; simp at h; subst h; cases hx; cases hy
      exact (yields_underlying ht).bind (.pure _)
    · rename_i ht; simp at h; subst h; cases hx; cases hy
      exact (yields_underlying ht).bind (.pure _)
    · split at h
      · cases hx with | agg hx => cases hy with | agg hy =>
        exact eqAgg_sound (n + d + 1) h hx hy
      · simp at h
    · split at h
      · cases hx with | agg hx => cases hy with | agg hy =>
        exact eqAgg_sound (n + d + 1) h hx hy
      · simp at h
    · simp at h

/-- '==' as the model's binary operation carries it out. -/
theorem eql_sound {t : TypeId} {c : Bool} {X Y : V} {x' y' : Value} {b : Bool} (h : eqV P c 50 t X Y = some b) (hx : VR μ X x') (hy : VR μ Y y') :
    Yields P (binOp .eql t x' y') (.bool b) ∧ Yields P (binOp .neq t x' y') (.bool (!b)) := by
  have hg : Yields P (Op.equal t x' y') b := eqV_sound c 50 9948 h hx hy
  have gen : ∀ {s1 s2 : Sem Value}, s1 = (do Pure.pure (.bool (← Op.equal t x' y'))) → s2 = (do Pure.pure (.bool (!(← Op.equal t x' y')))) → Yields P s1 (.bool b) ∧ Yields P s2 (.bool (!b)) := by
    rintro s1 s2 rfl rfl
    exact ⟨hg.bind (.pure _), hg.bind (.pure _)⟩
  cases hx with
  | int k n =>
    cases hy with
    | int k' m =>
      unfold eqV at h
      split at h <;> simp_all [binOp, Op.intCmp]
      obtain ⟨rfl, rfl⟩ := h
      exact ⟨.pure _, .pure _⟩
    | _ => exact gen rfl rfl
  | str p =>
    cases hy with
    | str q =>
      unfold eqV at h
      split at h <;> simp_all
      subst h
      have e : ∀ p q : List UInt8, ((⟨p.toArray⟩ : ByteArray).toList == (⟨q.toArray⟩ : ByteArray).toList) = (p == q) := fun p q => by rw [ByteArray.toList_eq, ByteArray.toList_eq]
      constructor
      · show Yields P (Pure.pure (Value.bool _)) _
        rw [e]; exact .pure _
      · show Yields P (Pure.pure (Value.bool (!_))) _
        rw [e]; exact .pure _
    | _ => exact gen rfl rfl
  | _ => cases hy <;> exact gen rfl rfl

theorem binV_sound {op : BinOp} {t : TypeId} {c : Bool} {X Y : V} {x' y' : Value} {v : V} (h : binV P op t c X Y = some v) (hx : VR μ X x') (hy : VR μ Y y') : ∃ r, VR μ v r ∧ Yields P (binOp op t x' y') r := by
  unfold binV at h
  split at h
  · simp only [Option.map_eq_some_iff] at h
    obtain ⟨b, hb, rfl⟩ := h
    exact ⟨.bool b, .bool b, (eql_sound hb hx hy).1⟩
  · simp only [Option.map_eq_some_iff] at h
    obtain ⟨b, hb, rfl⟩ := h
    exact ⟨.bool (!b), .bool (!b), (eql_sound hb hx hy).2⟩
  · split at h
    · simp at h
    · rename_i hb; simp at h; subst h; cases hx; cases hy
      refine ⟨_, .int _ _, ?_⟩
      simp only [binOp, Op.shift, if_neg hb]; exact .pure _
  · split at h
    · simp at h
    · rename_i hb; simp at h; subst h; cases hx; cases hy
      refine ⟨_, .int _ _, ?_⟩
      simp only [binOp, Op.shift, if_neg hb]; exact .pure _
  · split at h
    · rename_i hk; subst hk
      cases hx; cases hy
      split at h
      · simp at h; subst h; exact ⟨_, .int _ _, by simp only [binOp, ne_eq, not_true_eq_false, if_false]; exact .pure _⟩
      · simp at h; subst h; exact ⟨_, .int _ _, by simp only [binOp, ne_eq, not_true_eq_false, if_false]; exact .pure _⟩
      · simp at h; subst h; exact ⟨_, .int _ _, by simp only [binOp, ne_eq, not_true_eq_false, if_false]; exact .pure _⟩
      · split at h
        · simp at h
        · rename_i hb; simp at h; subst h; exact ⟨_, .int _ _, by simp only [binOp, ne_eq, not_true_eq_false, if_false, Op.intDiv, if_neg hb]; exact .pure _⟩
      · split at h
        · simp at h
        · rename_i hb; simp at h; subst h; exact ⟨_, .int _ _, by simp only [binOp, ne_eq, not_true_eq_false, if_false, Op.intDiv, if_neg hb]; exact .pure _⟩
      · simp at h; subst h; exact ⟨_, .bool _, by simp only [binOp, ne_eq, not_true_eq_false, if_false]; exact .pure _⟩
      · simp at h; subst h; exact ⟨_, .bool _, by simp only [binOp, ne_eq, not_true_eq_false, if_false]; exact .pure _⟩
      · simp at h; subst h; exact ⟨_, .bool _, by simp only [binOp, ne_eq, not_true_eq_false, if_false]; exact .pure _⟩
      · simp at h; subst h; exact ⟨_, .bool _, by simp only [binOp, ne_eq, not_true_eq_false, if_false]; exact .pure _⟩
      · simp only [Option.map_eq_some_iff] at h
        obtain ⟨q, hq, rfl⟩ := h
        refine ⟨_, .int _ _, ?_⟩
        have := intBits_sound (P := P) hq
        cases op <;> first | (simp [intBits] at hq; done) | (simp only [binOp, ne_eq, not_true_eq_false, if_false]; exact this)
    · simp at h
  · split at h
    · rename_i hl
      simp at h; subst h; cases hx; cases hy
      refine ⟨_, .str _, ?_⟩
      simp only [binOp, Op.stringOp]
      rw [if_neg (by simp only [ByteArray.size, IntKind.max, IntKind.signed, IntKind.bits]; simp; omega), mk_append]
      exact .pure _
    · simp at h
  · simp at h; subst h; cases hx; cases hy
    refine ⟨_, .bool _, ?_⟩
    show Yields P (Pure.pure (Value.bool (Op.bytesLess _ _))) _
    rw [ByteArray.toList_eq, ByteArray.toList_eq, ← bytesLess_eq]; exact .pure _
  · simp at h; subst h; cases hx; cases hy
    refine ⟨_, .bool _, ?_⟩
    show Yields P (Pure.pure (Value.bool (Op.bytesLess _ _ || _ == _))) _
    rw [ByteArray.toList_eq, ByteArray.toList_eq, ← bytesLess_eq]; exact .pure _
  · simp at h; subst h; cases hx; cases hy
    refine ⟨_, .bool _, ?_⟩
    show Yields P (Pure.pure (Value.bool (!(Op.bytesLess _ _ || _ == _)))) _
    rw [ByteArray.toList_eq, ByteArray.toList_eq, ← bytesLess_eq]
    simp only [Bool.not_or] at *
    exact .pure _
  · simp at h; subst h; cases hx; cases hy
    refine ⟨_, .bool _, ?_⟩
    show Yields P (Pure.pure (Value.bool (!(Op.bytesLess _ _)))) _
    rw [ByteArray.toList_eq, ByteArray.toList_eq, ← bytesLess_eq]; exact .pure _
  · simp at h

theorem eqV_guard {op : BinOp} (hop : op = .eql ∨ op = .neq) {t : TypeId} {x y : Operand} {X Y : V} {x' y' : Value} {b : Bool} (h : eqV P (isConstO x || isConstO y) 50 t X Y = some b) (hx : VR μ X x') (hy : VR μ Y y') : Yields P (eqGuard op t x y x' y') () := by
  have hprog : Yields P program P := fun w => by simp [program, Sem.run]
  have e : eqGuard op t x y x' y' = eqGuard .eql t x y x' y' := by rcases hop with rfl | rfl <;> rfl
  rw [e]
  unfold eqGuard
  simp only [Bool.not_true, Bool.false_eq_true, if_false]
  cases hx with
  | nilIface =>
    cases hy with
    | nilIface =>
      unfold eqV at h
      split at h <;> simp_all
      obtain ⟨hc, _⟩ := h
      rcases hc with hc | hc
      · cases x <;> simp [isConstO] at hc
        rw [if_pos (.inl rfl)]; exact .pure _
      · cases y <;> simp [isConstO] at hc
        rw [if_pos (.inr rfl)]; exact .pure _
    | _ => exact .pure _
  | agg hx =>
    cases hy with
    | agg hy =>
      unfold eqV at h
      split at h <;> simp_all
      all_goals
        obtain ⟨hd, h⟩ := h
        have hg := eqAgg_guard h hd
        refine hprog.bind (hprog.bind ?_)
        rw [hg]; exact .pure _
    | _ => exact .pure _
  | _ => cases hy <;> exact .pure _
theorem bin_guard {op : BinOp} {t : TypeId} {x y : Operand} {X Y : V} {x' y' : Value} {v : V} (h : binV P op t (isConstO x || isConstO y) X Y = some v) (hx : VR μ X x') (hy : VR μ Y y') : Yields P (eqGuard op t x y x' y') () := by
  cases op
  case eql =>
    simp only [binV, Option.map_eq_some_iff] at h
    obtain ⟨b, hb, rfl⟩ := h
    exact eqV_guard (.inl rfl) hb hx hy
  case neq =>
    simp only [binV, Option.map_eq_some_iff] at h
    obtain ⟨b, hb, rfl⟩ := h
    exact eqV_guard (.inr rfl) hb hx hy
  all_goals exact .pure _

theorem unV_sound {op : UnOp} {X v : V} {x' : Value} (h : unV op X = some v) (hx : VR μ X x') : ∃ r, VR μ v r ∧ Yields P (Op.unary op x') r := by
  unfold unV at h
  split at h
  · simp at h; subst h; cases hx
    exact ⟨_, .int _ _, by simp only [Op.unary, Op.intArith]; rw [Int.zero_sub]; exact .pure _⟩
  · simp only [Option.map_eq_some_iff] at h
    obtain ⟨q, hq, rfl⟩ := h
    cases hx
    exact ⟨_, .int _ _, intBits_sound hq⟩
  · simp at h; subst h; cases hx
    exact ⟨_, .bool _, .pure _⟩
  · simp at h

/-! ### Slices -/
/-- An optional bound, as both sides read it. -/
inductive OB : Option Nat → Option Value → Prop where
  | none : OB none none
  | some (k : IntKind) (n : Int) (h : 0 ≤ n) : OB (some n.toNat) (some (.int k n))
theorem optBound_sound {x : Option Operand} {n : Option Nat} (h : optBound F x = some n) (hx : ∀ y, x = some y → VR μ (opr F y) (a.eval y)) : OB n (x.map a.eval) := by
  cases x with
  | none => simp [optBound] at h; subst h; exact .none
  | some y =>
    simp only [optBound, Option.map_eq_some_iff] at h
    obtain ⟨m, hm, rfl⟩ := h
    have hy := hx y rfl
    unfold natBound at hm
    split at hm
    · rename_i k i hv
      split at hm
      · rename_i h0
        simp at hm; subst hm
        rw [hv] at hy
        rw [Option.map_some, hy.int_inv]
        exact .some k i h0
      · simp at hm
    · simp at hm
theorem bound_sound {n : Nat} {v : Value} (h : OB (some n) (some v)) {y : Nat} (hy : n ≤ y) (c : BoundsCode) : Yields P (Instr.sliceBound v y c) n := by
  cases h with
  | some k i h0 =>
    unfold Instr.sliceBound
    refine Yields.bind (r := (k, i)) (.pure _) ?_
    show Yields P (if _ then _ else _) _
    rw [if_pos ⟨h0, by omega⟩]; exact .pure _
theorem bounds_sound {s : Bool} {len cap : Nat} {lo hi mx : Option Nat} {lo' hi' mx' : Option Value} (h1 : OB lo lo') (h2 : OB hi hi') (h3 : OB mx mx') (hm : mx.getD cap ≤ cap) (hh : hi.getD len ≤ mx.getD cap) (hl : lo.getD 0 ≤ hi.getD len) (hx : mx.isSome = true → hi.isSome = true) :
    Yields P (Instr.sliceBounds s len cap lo' hi' mx') (lo.getD 0, hi.getD len, mx.getD cap) := by
  intro w
  have b3 : ∀ k (n : Int), 0 ≤ n → n.toNat ≤ cap → ∀ c w, (Instr.sliceBound (.int k n) cap c).run P w = .ok n.toNat w := fun k n h hn c w => bound_sound (.some k n h) hn c w
  have b2 : ∀ k (n : Int), 0 ≤ n → n.toNat ≤ mx.getD cap → ∀ c w, (Instr.sliceBound (.int k n) (mx.getD cap) c).run P w = .ok n.toNat w := fun k n h hn c w => bound_sound (.some k n h) hn c w
  have b1 : ∀ k (n : Int), 0 ≤ n → n.toNat ≤ hi.getD len → ∀ c w, (Instr.sliceBound (.int k n) (hi.getD len) c).run P w = .ok n.toNat w := fun k n h hn c w => bound_sound (.some k n h) hn c w
  unfold Instr.sliceBounds
  cases h3 <;> cases h2 <;> cases h1 <;> simp only [Option.getD_none, Option.getD_some, Option.isSome_some, Option.isSome_none, Bool.false_eq_true, imp_false, not_true, true_implies] at * <;>
    first
      | (exact absurd rfl hx)
      | (simp only [Sem.run_bind, Sem.run_pure, Result.andThen_ok]
         try (rw [b3 _ _ (by assumption) (by assumption)]; simp only [Result.andThen_ok, Sem.run_bind, Sem.run_pure])
         try (rw [b2 _ _ (by assumption) (by assumption)]; simp only [Result.andThen_ok, Sem.run_bind, Sem.run_pure])
         try (rw [b1 _ _ (by assumption) (by assumption)]; simp only [Result.andThen_ok, Sem.run_bind, Sem.run_pure]))
theorem str_slice (s : List UInt8) (l r : Nat) : (⟨s.toArray⟩ : ByteArray).extract l r = ⟨((s.drop l).take (r - l)).toArray⟩ := by
  apply ByteArray.ext
  rw [ByteArray.data_extract]
  simp

/-- Where a slice of a slice begins. -/
theorem slice_addr {b o len cap : Nat} {c : Cap} {l : Loc} {A : Addr} (h : μ b = some l) (hc : c.ok l cap) (hl : len ≤ cap) (ha : cap ≠ 0 → A = ⟨l.r, l.off + o, none⟩) {x y m sz : Nat} (hx : x ≤ y) (hy : y ≤ m) (hm : m ≤ cap) (c' : Cap) (hc' : c'.ok l (m - x)) :
    VR μ (.slice (some (b, o + x * sz)) (y - x) c') (.slice (some (if m = x then A else A.add (x * sz))) (y - x) (m - x)) := by
  refine .slice h hc' (by omega) (fun hne => ?_)
  rw [if_neg (by omega), ha (by omega)]
  simp only [Addr.add]
  split <;> simp_all [Nat.add_assoc]

theorem wf_slice' {t e : TypeId} (h : wfT P t = true) (ht : P.underlying t = some (.slice e)) : ∃ d, P.underlying e = some d := by
  simp only [wfT, ht] at h; exact Option.isSome_iff_exists.1 h
theorem wf_array' {t e : TypeId} {n : Nat} (h : wfT P t = true) (ht : P.underlying t = some (.array n e)) : ∃ d, P.underlying e = some d := by
  simp only [wfT, ht] at h; exact Option.isSome_iff_exists.1 h
theorem wf_field' {t : TypeId} {fs : Array Field} (h : wfT P t = true) (ht : P.underlying t = some (.struct fs)) {i : Nat} {f : Field} (hf : fs[i]? = some f) : ∃ d, P.underlying f.type = some d := by
  simp only [wfT, ht, List.all_eq_true] at h
  exact Option.isSome_iff_exists.1 (h f (Array.mem_toList_iff.2 (Array.mem_of_getElem? hf)))
theorem wf_slice {t e : TypeId} (h : wfT P t = true) (ht : P.underlying t = some (.slice e)) : ∃ i, P.info? e = some i := let ⟨_, h⟩ := wf_slice' h ht; info_of_underlying h
theorem wf_array {t e : TypeId} {n : Nat} (h : wfT P t = true) (ht : P.underlying t = some (.array n e)) : ∃ i, P.info? e = some i := let ⟨_, h⟩ := wf_array' h ht; info_of_underlying h
theorem wf_field {t : TypeId} {fs : Array Field} (h : wfT P t = true) (ht : P.underlying t = some (.struct fs)) {i : Nat} {f : Field} (hf : fs[i]? = some f) : ∃ i, P.info? f.type = some i := let ⟨_, h⟩ := wf_field' h ht hf; info_of_underlying h
theorem wf_und {t : TypeId} (h : wfT P t = true) : ∃ d, P.underlying t = some d := by
  cases hd : P.underlying t with
  | none => simp [wfT, hd] at h
  | some d => exact ⟨d, rfl⟩
theorem wf_info {t : TypeId} (h : wfT P t = true) : ∃ i, P.info? t = some i := let ⟨_, h⟩ := wf_und h; info_of_underlying h

/-- The model's slice of a slice. -/
theorem slice_run {t e : TypeId} (hw : wfT P t = true) (ht : P.underlying t = some (.slice e)) {A : Option Addr} {len cap : Nat} {l0 r0 m0 : Option Nat} {lo hi mx : Option Value} (b1 : OB l0 lo) (b2 : OB r0 hi) (b3 : OB m0 mx)
    (hm : m0.getD cap ≤ cap) (hr : r0.getD len ≤ m0.getD cap) (hl : l0.getD 0 ≤ r0.getD len) (hs : m0.isSome = true → r0.isSome = true) :
    Yields P (Instr.sliceAt t (.slice A len cap) lo hi mx) (.slice (if m0.getD cap = l0.getD 0 then A else A.map (·.add (l0.getD 0 * sizeT P e))) (r0.getD len - l0.getD 0) (m0.getD cap - l0.getD 0)) := by
  obtain ⟨i, hi'⟩ := wf_slice hw ht
  unfold Instr.sliceAt
  refine (yields_underlying ht).bind ?_
  show Yields P (Instr.slice _ _ _ _ _) _
  unfold Instr.slice
  refine (yields_underlying ht).bind ?_
  refine (bounds_sound (s := true) b1 b2 b3 hm hr hl hs).bind ?_
  exact (yields_sizeOf hi').bind (.pure _)

theorem slicePure_sound {t : TypeId} (hw : wfT P t = true) {X v : V} {x' : Value} {lo hi mx : Option Operand} (h : slicePure P F t X lo hi mx = some v) (hx : VR μ X x')
    (h1 : ∀ y, lo = some y → VR μ (opr F y) (a.eval y)) (h2 : ∀ y, hi = some y → VR μ (opr F y) (a.eval y)) (h3 : ∀ y, mx = some y → VR μ (opr F y) (a.eval y)) :
    ∃ r, VR μ v r ∧ Yields P (Instr.sliceAt t x' (lo.map a.eval) (hi.map a.eval) (mx.map a.eval)) r := by
  unfold slicePure at h
  split at h
  · rename_i l0 r0 m0 hlo hhi hmx
    have b1 := optBound_sound hlo h1
    have b2 := optBound_sound hhi h2
    have b3 := optBound_sound hmx h3
    dsimp only at h
    split at h
    · rename_i s ht
      split at h
      · rename_i hc
        simp only [Bool.and_eq_true, decide_eq_true_eq, Option.isNone_iff_eq_none] at hc
        simp at h; subst h; cases hx
        obtain ⟨⟨hm, hlr⟩, hrs⟩ := hc
        subst hm
        cases b3' : mx.map a.eval with
        | some q => rw [b3'] at b3; cases b3
        | none =>
          refine ⟨_, .str _, ?_⟩
          unfold Instr.sliceAt
          refine (yields_underlying ht).bind ?_
          show Yields P (Instr.slice _ _ _ _ _) _
          unfold Instr.slice
          refine (yields_underlying ht).bind ?_
          show Yields P (if _ then _ else _) _
          rw [if_neg (by simp)]
          refine (bounds_sound (s := false) b1 b2 .none (Nat.le_refl _) (by simpa [ByteArray.size] using hrs) (by simpa [ByteArray.size] using hlr) (by simp)).bind ?_
          simp only [ByteArray.size, List.size_toArray]
          rw [str_slice]
          exact .pure _
      · simp at h
    · rename_i e A len c ht
      have key : ∀ {len' cap : Nat} {A' : Option Addr}, m0.getD cap ≤ cap → r0.getD len ≤ m0.getD cap → l0.getD 0 ≤ r0.getD len → (m0.isSome = true → r0.isSome = true) →
          Yields P (Instr.sliceAt t (.slice A' len cap) (lo.map a.eval) (hi.map a.eval) (mx.map a.eval)) (.slice (if m0.getD cap = l0.getD 0 then A' else A'.map (·.add (l0.getD 0 * sizeT P e))) (r0.getD len - l0.getD 0) (m0.getD cap - l0.getD 0)) :=
        fun hm hr hl hs => slice_run hw ht b1 b2 b3 hm hr hl hs
      split at h
      · split at h
        · rename_i hc
          simp at h; subst h
          simp only [Bool.and_eq_true, decide_eq_true_eq] at hc
          obtain ⟨hlr, hrl⟩ := hc
          cases hx with
          | sliceN hle =>
            refine ⟨_, ?_, slice_run hw ht b1 b2 b3 (Nat.le_refl _) (by simp; omega) hlr (by simp)⟩
            simp only [Option.map_none, Option.getD_none]
            split <;> exact .sliceN (by omega)
          | slice hb hc hle ha =>
            refine ⟨_, ?_, slice_run hw ht b1 b2 b3 (Nat.le_refl _) (by simp; omega) hlr (by simp)⟩
            simp only [Option.map_some, Option.getD_none]
            rw [← apply_ite some]
            refine slice_addr hb hc hle ha hlr (by omega) (Nat.le_refl _) _ ?_
            cases c with
            | ex m => simp only [Cap.ok] at hc ⊢; omega
            | tl k => simp only [Cap.ok] at hc ⊢; omega
        · simp at h
      · rename_i m
        split at h
        · rename_i hc
          simp at h; subst h
          simp only [Bool.and_eq_true, decide_eq_true_eq] at hc
          obtain ⟨⟨⟨hs, hlr⟩, hrm⟩, hml⟩ := hc
          cases hx with
          | sliceN hle =>
            refine ⟨_, ?_, slice_run hw ht b1 b2 b3 (by simp; omega) (by simp; omega) hlr (fun _ => hs)⟩
            simp only [Option.map_none, Option.getD_some]
            split <;> exact .sliceN (by omega)
          | slice hb hc hle ha =>
            refine ⟨_, ?_, slice_run hw ht b1 b2 b3 (by simp; omega) (by simp; omega) hlr (fun _ => hs)⟩
            simp only [Option.map_some, Option.getD_some]
            rw [← apply_ite some]
            exact slice_addr hb hc hle ha hlr (by omega) (by omega) _ rfl
        · simp at h
    · rename_i n e b o ht
      obtain ⟨i, hi'⟩ := wf_array hw ht
      cases hx with
      | ptr hb =>
        have run : ∀ (A : Addr) {m : Nat}, m0.getD n = m → m ≤ n → r0.getD n ≤ m → l0.getD 0 ≤ r0.getD n → (m0.isSome = true → r0.isSome = true) → Yields P (Instr.sliceAt t (.pointer (some A)) (lo.map a.eval) (hi.map a.eval) (mx.map a.eval)) (.slice (some (if m = l0.getD 0 then A else A.add (l0.getD 0 * sizeT P e))) (r0.getD n - l0.getD 0) (m - l0.getD 0)) := by
          rintro A m rfl hm hr hl hs
          unfold Instr.sliceAt
          refine (yields_underlying ht).bind ?_
          refine Yields.bind (.pure _) ?_
          refine (bounds_sound (s := false) b1 b2 b3 hm hr hl hs).bind ?_
          exact (yields_sizeOf hi').bind (.pure _)
        split at h
        · split at h
          · rename_i hc
            simp at h; subst h
            simp only [Bool.and_eq_true, decide_eq_true_eq] at hc
            refine ⟨_, ?_, run _ rfl (Nat.le_refl _) (by simp; omega) hc.1 (by simp)⟩
            simp only [Option.getD_none]
            exact slice_addr (cap := n) (c := .ex n) (len := n) hb rfl (Nat.le_refl _) (fun _ => rfl) hc.1 hc.2 (Nat.le_refl _) _ rfl
          · simp at h
        · split at h
          · rename_i m hc
            simp at h; subst h
            simp only [Bool.and_eq_true, decide_eq_true_eq] at hc
            obtain ⟨⟨⟨hs, hlr⟩, hrm⟩, hml⟩ := hc
            refine ⟨_, ?_, run _ rfl (by simp; omega) (by simp; omega) hlr (fun _ => hs)⟩
            simp only [Option.getD_some]
            exact slice_addr (cap := n) (c := .ex n) (len := n) hb rfl (Nat.le_refl _) (fun _ => rfl) hlr hrm hml _ rfl
          · simp at h
    · simp at h
  · simp at h

/-! ### Places and parts -/
theorem cellsOf_ne {t : TypeId} (h : ¬ sizeT P t = 0) : ¬ P.cellsOf t = 0 := h
theorem add_addr (l : Loc) (o n : Nat) : (⟨l.r, l.off + o, none⟩ : Addr).add n = ⟨l.r, l.off + (o + n), none⟩ := by
  simp only [Addr.add]; split <;> simp_all [Nat.add_assoc]
theorem fieldAddr_sound {s : TypeId} (hw : wfT P s = true) {X : V} {x' : Value} {i b o : Nat} {fs : List Field} {f : Field} (hX : X = .ptr (some (b, o))) (hfs : fieldsOf P s = some fs) (hf : fs[i]? = some f) (hz : sizeT P f.type ≠ 0) (hx : VR μ X x') :
    ∃ r, VR μ (.ptr (some (b, o + f.offset))) r ∧ Yields P (Instr.fieldAt s x' i) r := by
  subst hX
  unfold fieldsOf at hfs
  split at hfs
  · rename_i fa ht
    simp at hfs; subst hfs
    cases hx with
    | ptr hb =>
      refine ⟨_, .ptr hb, ?_⟩
      unfold Instr.fieldAt
      refine (yields_underlying ht).bind ?_
      have hf' : fa[i]? = some f := by simpa using hf
      obtain ⟨j, hj⟩ := wf_field hw ht hf'
      intro w
      simp only [hf', Instr.sureAddr, Sem.run_bind, Sem.run_pure, Result.andThen_ok, fieldPlace, yields_sizeOf hj w, if_neg (cellsOf_ne hz), add_addr]
  · simp at hfs
theorem indexAddr_sound {t : TypeId} (hw : wfT P t = true) {X I v : V} {x' i' : Value} (hx : VR μ X x') (hi : VR μ I i')
    (h : indexAddrP P t X I = some v) :
    ∃ r, VR μ v r ∧ Yields P (Instr.indexAt t x' i') r := by
  unfold indexAddrP at h
  split at h
  · rename_i e b o len c k n ht
    split at h
    · rename_i hc
      simp only [Bool.and_eq_true, decide_eq_true_eq] at hc
      simp at h; subst h
      cases hi
      cases hx with
      | slice hb hcap hl ha =>
        obtain ⟨j, hj⟩ := wf_slice hw ht
        refine ⟨_, .ptr hb, ?_⟩
        unfold Instr.indexAt
        refine Yields.bind (r := (k, n)) (.pure _) ?_
        refine (yields_underlying ht).bind ?_
        refine Yields.bind (.pure _) ?_
        intro w
        simp only [Sem.run_bind, yields_underlying ht w, Result.andThen_ok, if_pos hc, yields_sizeOf hj w, Sem.run_pure]
        rw [ha (by omega), add_addr]; rfl
    · simp at h
  · rename_i len e b o k n ht
    split at h
    · rename_i hc
      simp only [Bool.and_eq_true, decide_eq_true_eq] at hc
      simp at h; subst h
      cases hi
      cases hx with
      | ptr hb =>
        obtain ⟨j, hj⟩ := wf_array hw ht
        refine ⟨_, .ptr hb, ?_⟩
        unfold Instr.indexAt
        refine Yields.bind (r := (k, n)) (.pure _) ?_
        refine (yields_underlying ht).bind ?_
        intro w
        simp only [Instr.sureAddr, Sem.run_bind, yields_underlying ht w, Result.andThen_ok, if_pos hc, yields_sizeOf hj w, Sem.run_pure]
        rw [add_addr]; rfl
    · simp at h
  · simp at h
theorem part_sound {t : TypeId} {d : TypeDesc} {j : TypeInfo} {l : List V} {l' : List Value} {o : Nat} {v : V} (ht : P.underlying t = some d) (hj : P.info? t = some j) (hl : VRs μ l l') (h : (if isAggT P t then some (.agg ((l.drop o).take (sizeT P t))) else l[o]?) = some v) :
    ∃ r, VR μ v r ∧ Yields P (part t l'.toArray o) r := by
  split at h
  · rename_i ha
    simp at h; subst h
    refine ⟨_, .agg ((hl.drop o).take _), ?_⟩
    unfold part
    refine (yields_isAgg ht).bind ?_
    rw [if_pos ha]
    refine (yields_sizeOf hj).bind ?_
    have : (l'.toArray.extract o (o + P.cellsOf t)) = ((l'.drop o).take (sizeT P t)).toArray := by
      simp [sizeT, Nat.add_sub_cancel_left]
    rw [this]; exact .pure _
  · rename_i ha
    obtain ⟨r, hr, hv⟩ := hl.get h
    refine ⟨r, hv, ?_⟩
    unfold part
    refine (yields_isAgg ht).bind ?_
    rw [if_neg ha]
    have : l'.toArray[o]? = some r := by simpa using hr
    rw [this]; exact .pure _
theorem field_sound {t : TypeId} (hw : wfT P t = true) {l : List V} {l' : List Value} {i : Nat} {fs : List Field} {f : Field} {v : V} (hl : VRs μ l l') (hfs : fieldsOf P t = some fs) (hf : fs[i]? = some f)
    (h : (if isAggT P f.type then some (.agg ((l.drop f.offset).take (sizeT P f.type))) else l[f.offset]?) = some v) :
    ∃ r, VR μ v r ∧ Yields P (Instr.field t (.agg l'.toArray) i) r := by
  unfold fieldsOf at hfs
  split at hfs
  · rename_i fa ht
    simp at hfs; subst hfs
    have hf' : fa[i]? = some f := by simpa using hf
    obtain ⟨d, hd⟩ := wf_field' hw ht hf'
    obtain ⟨j, hj⟩ := info_of_underlying hd
    obtain ⟨r, hv, hr⟩ := part_sound hd hj hl h
    refine ⟨r, hv, ?_⟩
    unfold Instr.field
    refine (yields_underlying ht).bind ?_
    intro w
    simp only [hf', asAgg, Sem.run_bind, Sem.run_pure, Result.andThen_ok, hr w]
  · simp at hfs
theorem index_sound {t : TypeId} (hw : wfT P t = true) {X I v : V} {x' i' : Value} (hx : VR μ X x') (hi : VR μ I i')
    (h : indexP P t X I = some v) :
    ∃ r, VR μ v r ∧ Yields P (Instr.index t x' i') r := by
  unfold indexP at h
  split at h
  · rename_i s k n ht
    split at h
    · rename_i hn
      simp only [Option.map_eq_some_iff] at h
      obtain ⟨b, hb, rfl⟩ := h
      cases hi; cases hx
      refine ⟨_, .int _ _, ?_⟩
      have e : (⟨s.toArray⟩ : ByteArray)[n.toNat]? = some b := by
        rw [show (⟨s.toArray⟩ : ByteArray)[n.toNat]? = (s.toArray)[n.toNat]? from by
          simp only [getElem?_def]; rfl]
        simpa using hb
      unfold Instr.index
      intro w
      simp only [asIntOf, Sem.run_bind, Sem.run_pure, Result.andThen_ok, yields_underlying ht w, if_pos hn, e]
    · simp at h
  · rename_i len e l k n ht
    split at h
    · rename_i hc
      simp only [Bool.and_eq_true, decide_eq_true_eq] at hc
      cases hi; cases hx with
      | agg hl =>
        obtain ⟨d, hd⟩ := wf_array' hw ht
        obtain ⟨j, hj⟩ := info_of_underlying hd
        obtain ⟨r, hv, hr⟩ := part_sound hd hj hl h
        refine ⟨r, hv, ?_⟩
        unfold Instr.index
        intro w
        simp only [asIntOf, Sem.run_bind, Sem.run_pure, Result.andThen_ok, yields_underlying ht w, if_pos hc, yields_sizeOf hj w]
        exact hr w
    · simp at h
  · simp at h

/-! ### Building -/
theorem set_fold (off : Nat) : ∀ (rs : List Value) (k : Nat) (m : List Value), off + k + rs.length ≤ m.length →
    (rs.zipIdx k).foldl (fun cs (c : Value × Nat) => cs.setIfInBounds (off + c.2) c.1) m.toArray = (m.take (off + k) ++ (rs ++ m.drop (off + k + rs.length))).toArray
  | [], k, m, h => by simp
  | r :: rs, k, m, h => by
    simp only [List.length_cons] at h
    have hlt : off + k < m.length := by omega
    rw [List.zipIdx_cons, List.foldl_cons]
    simp only [List.setIfInBounds_toArray]
    rw [set_fold off rs (k + 1) (m.set (off + k) r) (by simp; omega)]
    have a1 : (m.set (off + k) r).take (off + (k + 1)) = m.take (off + k) ++ [r] := by
      rw [← Nat.add_assoc, List.take_succ_eq_append_getElem (by simpa using hlt), List.take_set_of_le (Nat.le_refl _)]
      simp
    have a2 : (m.set (off + k) r).drop (off + (k + 1) + rs.length) = m.drop (off + k + (rs.length + 1)) := by
      rw [List.drop_set_of_lt (by omega)]
      congr 1; omega
    rw [a1, a2]
    simp
theorem fill_sound {pl : Nat → Option (Nat × Nat)} : ∀ (q : List (Nat × Nat × V)) (ps : List (Nat × Value)) (l l' : List V) (m : List Value), fillV l q = some l' → VRs μ l m →
    q.length = ps.length → (∀ (i : Nat) (o n : Nat) (v : V) (j : Nat) (r : Value), q[i]? = some (o, n, v) → ps[i]? = some (j, r) → pl j = some (o, n) ∧ VR μ v r) →
    ∃ m', Instr.fill pl m.toArray ps = some m'.toArray ∧ VRs μ l' m'
  | [], [], l, l', m, h, hl, _, _ => by simp [fillV] at h; subst h; exact ⟨m, rfl, hl⟩
  | [], _ :: _, _, _, _, _, _, hlen, _ => by simp at hlen
  | _ :: _, [], _, _, _, _, _, hlen, _ => by simp at hlen
  | (o, n, v) :: q, (j, r) :: ps, l, l', m, h, hl, hlen, hq => by
    obtain ⟨hp, hv⟩ := hq 0 o n v j r rfl rfl
    simp only [fillV] at h
    split at h
    · rename_i hc
      simp only [Bool.and_eq_true, decide_eq_true_eq] at hc
      obtain ⟨⟨h1, h2⟩, _⟩ := hc
      have hcs := hv.cells
      have hsz : r.cells.size = n := by rw [← Array.length_toList, ← hcs.length, h1]
      simp only [Instr.fill, hp]
      rw [if_neg (by simp [hsz, ← hl.length]; omega)]
      rw [show r.cells.zipIdx.foldl (fun cs (c, j) => cs.setIfInBounds (o + j) c) m.toArray = (m.take o ++ (r.cells.toList ++ m.drop (o + r.cells.toList.length))).toArray from by
        have := set_fold o r.cells.toList 0 m (by simp [hsz, ← hl.length]; omega)
        simp only [Nat.add_zero] at this
        rw [← this, ← Array.foldl_toList, Array.toList_zipIdx]]
      exact fill_sound q ps _ l' _ h (hl.splice hcs o) (by simpa using hlen) (fun i o n v j r a b => hq (i + 1) o n v j r (by simpa using a) (by simpa using b))
    · simp at h
theorem sizeT_info {t : TypeId} {i : TypeInfo} (h : P.info? t = some i) : sizeT P t = i.size := by simp [sizeT, Program.cellsOf, h]
theorem places_list : ∀ (fs : List Field), (∀ f ∈ fs, ∃ i, P.info? f.type = some i) → fs.mapM (fun f => (P.info? f.type).map fun i => (f.offset, i.size)) = some (fs.map fun f => (f.offset, sizeT P f.type))
  | [], _ => by simp
  | f :: fs, h => by
    obtain ⟨i, hi⟩ := h f (by simp)
    rw [List.mapM_cons, places_list fs (fun g hg => h g (by simp [hg]))]
    simp [hi, sizeT_info hi]
theorem places_spec {t : TypeId} : ∀ (ps : List (Nat × Operand)) (q : List (Nat × Nat × V)), places P t F ps = some q → q.length = ps.length ∧
    ∀ (i o n : Nat) (v : V) (j : Nat) (x : Operand), q[i]? = some (o, n, v) → ps[i]? = some (j, x) → placeOf P t j = some (o, n) ∧ v = opr F x
  | [], q, h => by simp [places] at h; subst h; simp
  | (j, x) :: ps, q, h => by
    simp only [places] at h
    split at h
    · rename_i o n r hp hr
      simp at h; subst h
      obtain ⟨h1, h2⟩ := places_spec ps r hr
      refine ⟨by simp [h1], fun i o' n' v j' x' ha hb => ?_⟩
      cases i with
      | zero => simp at ha hb; obtain ⟨rfl, rfl, rfl⟩ := ha; obtain ⟨rfl, rfl⟩ := hb; exact ⟨hp, rfl⟩
      | succ i => exact h2 i o' n' v j' x' (by simpa using ha) (by simpa using hb)
    · simp at h
theorem build_sound {t : TypeId} (hw : wfT P t = true) (hagg : isAggT P t = true) {ps : Array (Nat × Operand)} {z l : List V} {q : List (Nat × Nat × V)} (hz : zeroT P t = some z) (hq : places P t F ps.toList = some q) (hl : fillV z q = some l)
    (hps : ∀ j x, (j, x) ∈ ps → VR μ (opr F x) (a.eval x)) :
    ∃ r, VR μ (.agg l) r ∧ Yields P (Instr.build t (ps.map fun (i, x) => (i, a.eval x))) r := by
  unfold zeroT at hz
  simp only [Option.bind_eq_some_iff, Option.map_eq_some_iff] at hz
  obtain ⟨zv, ⟨it, hit, hzv⟩, zz, hzz, rfl⟩ := hz
  have hcells : VRs μ zz.cells zv.cells.toList := (toV_sound zv hzz).cells
  obtain ⟨h1, h2⟩ := places_spec ps.toList q hq
  have hfill : ∀ pl : Nat → Option (Nat × Nat), (∀ j o n, placeOf P t j = some (o, n) → pl j = some (o, n)) → ∃ m', Instr.fill pl zv.cells (ps.map fun (i, x) => (i, a.eval x)).toList = some m'.toArray ∧ VRs μ l m' := by
    intro pl hpl
    have := fill_sound (pl := pl) q (ps.map fun (i, x) => (i, a.eval x)).toList _ l zv.cells.toList hl hcells (by simp [h1]) (fun i o n v j r ha hb => by
      simp only [Array.toList_map, List.getElem?_map, Option.map_eq_some_iff] at hb
      obtain ⟨⟨j', x⟩, hx, he⟩ := hb
      simp at he
      obtain ⟨rfl, rfl⟩ := he
      obtain ⟨hp, rfl⟩ := h2 i o n v j' x ha hx
      exact ⟨hpl _ _ _ hp, hps j' x (Array.mem_toList_iff.1 (List.mem_of_getElem? hx))⟩)
    simpa using this
  cases hd : P.underlying t with
  | none => simp [wfT, hd] at hw
  | some d =>
    have fin : ∀ m', P.built t (ps.map fun (i, x) => (i, a.eval x)).toList = some m' → Yields P (Instr.build t (ps.map fun (i, x) => (i, a.eval x))) (.agg m') := fun m' h w => run_build w t _ m' h
    cases d with
    | struct fs =>
      obtain ⟨m', hm, hr⟩ := hfill ((fs.toList.map fun f => (f.offset, sizeT P f.type)).toArray[·]?) (fun j o n hp => by
        simp only [placeOf, hd, Option.map_eq_some_iff] at hp
        obtain ⟨f, hf, he⟩ := hp
        simp only [List.getElem?_toArray, List.getElem?_map, Array.getElem?_toList, hf, Option.map_some, he])
      refine ⟨_, .agg hr, fin _ ?_⟩
      simp only [Program.built, hit, hd, hzv]
      rw [places_list fs.toList (fun f hf => by
        obtain ⟨i, hi⟩ := List.getElem?_of_mem hf
        exact wf_field hw hd (by simpa using hi))]
      exact hm
    | array n e =>
      obtain ⟨ie, hie⟩ := wf_array hw hd
      obtain ⟨m', hm, hr⟩ := hfill (fun i => some (i * ie.size, ie.size)) (fun j o n hp => by
        simp only [placeOf, hd, sizeT_info hie] at hp; exact hp)
      refine ⟨_, .agg hr, fin _ ?_⟩
      simp only [Program.built, hit, hd, hzv, hie]
      exact hm
    | _ => simp [isAggT, hd] at hagg

/-! ### Interfaces, lengths -/
theorem missing_none {want : Array (String × TypeId)} {got : Array Method} (h : leastMissing want got = true) : Instr.missingMethod want got = none := by
  have : (want.toList.filter fun (name, sig) => !got.any fun m => m.name == name && m.sig == sig) = [] := by
    rw [List.filter_eq_nil_iff]
    intro x hx
    have := List.all_eq_true.1 h x hx
    simpa using this
  unfold Instr.missingMethod
  rw [this]; rfl
theorem least_some {l : List String} (h : l ≠ []) : ∃ m, Instr.least l = some m := by
  cases l with
  | nil => exact absurd rfl h
  | cons a l => exact ⟨_, rfl⟩
theorem part_some (p : String → Bool) {missing : List String} (hne : missing ≠ []) : ∃ m, (let (un, ex) := missing.partition p; Instr.least ex <|> Instr.least (un.map fun id => (id.splitOn ".").getLastD id)) = some m := by
  rcases hp : missing.partition p with ⟨un, ex⟩
  dsimp only
  by_cases he : ex = []
  · have hu : un ≠ [] := by
      intro e
      subst e; subst he
      rw [List.partition_eq_filter_filter] at hp
      simp only [Prod.mk.injEq, List.filter_eq_nil_iff] at hp
      obtain ⟨x, l, rfl⟩ : ∃ x l, missing = x :: l := by cases missing with | nil => exact absurd rfl hne | cons x l => exact ⟨x, l, rfl⟩
      have h1 := hp.1 x (by simp)
      have h2 := hp.2 x (by simp)
      cases hc : p x
      · exact h2 (by show (!p x) = true; rw [hc]; rfl)
      · exact h1 hc
    obtain ⟨m, hm'⟩ := least_some (l := un.map fun id => (id.splitOn ".").getLastD id) (by simpa using hu)
    rw [he, hm']
    exact ⟨m, rfl⟩
  · obtain ⟨m, hm'⟩ := least_some he
    rw [hm']
    exact ⟨m, rfl⟩
theorem missing_some {want : Array (String × TypeId)} {got : Array Method} (h : leastMissing want got = false) : ∃ m, Instr.missingMethod want got = some m := by
  unfold Instr.missingMethod
  generalize hm : (want.toList.filter fun (name, sig) => !got.any fun m => m.name == name && m.sig == sig).map (·.1) = missing
  have hne : missing ≠ [] := by
    intro e
    rw [e] at hm
    have h1 := List.map_eq_nil_iff.1 hm
    rw [List.filter_eq_nil_iff] at h1
    have : leastMissing want got = true := by
      unfold leastMissing
      rw [List.all_eq_true]
      intro x hx
      have := h1 x hx
      simpa using this
    rw [this] at h; cases h
  exact part_some _ hne
theorem assert_sound {t xt : TypeId} {ok : Bool} {X v : V} {x' : Value} (h : assertP P X t ok = some v) (hx : VR μ X x') : ∃ r, VR μ v r ∧ Yields P (Instr.typeAssert x' xt t ok) r := by
  have holds : ∀ {Y : V} {y' : Value}, VR μ Y y' → ∃ r, VR μ (if ok then .tuple [Y, .bool true] else Y) r ∧ Yields P (Pure.pure (if ok then .tuple #[y', .bool true] else y') : Sem Value) r := by
    intro Y y' hy
    refine ⟨_, ?_, .pure _⟩
    cases ok
    · exact hy
    · exact .tuple (.cons hy (.cons (.bool true) .nil))
  have fails : ∀ {v : V} (a b : Option TypeId) (m : String), (if ok then (zeroV P t).map fun z => .tuple [z, .bool false] else none) = some v →
      ∃ r, VR μ v r ∧ Yields P (if ok then do Pure.pure (.tuple #[← zeroValue t, .bool false]) else runtimePanic (.typeAssertion a b t m) : Sem Value) r := by
    intro v a b m h
    cases ok
    · simp at h
    · simp only [if_true, Option.map_eq_some_iff] at h
      obtain ⟨z, hz, rfl⟩ := h
      obtain ⟨r, hr, hy⟩ := zero_sound (μ := μ) hz
      exact ⟨_, .tuple (.cons hr (.cons (.bool false) .nil)), hy.bind (.pure _)⟩
  unfold assertP at h
  dsimp only at h
  unfold Instr.typeAssert
  cases hd : P.underlying t with
  | none => rw [hd] at h; cases hx <;> simp at h
  | some d =>
    rw [hd] at h
    split at h
    · cases hx
      obtain ⟨r, hr, hy⟩ := fails none none "" h
      rename_i ht
      simp only [Option.some.injEq] at ht; subst ht
      exact ⟨r, hr, (yields_underlying hd).bind hy⟩
    · rename_i want dt y ht
      simp only [Option.some.injEq] at ht; subst ht
      cases hx with | iface hy =>
      split at h
      · rename_i i hi
        split at h
        · rename_i hm
          simp only [Option.some.injEq] at h; subst h
          obtain ⟨r, hr, hy'⟩ := holds (VR.iface (t := dt) hy)
          refine ⟨r, hr, (yields_underlying hd).bind ((yields_typeInfo hi).bind ?_)⟩
          rw [missing_none hm]; exact hy'
        · rename_i hm
          obtain ⟨m, hm'⟩ := missing_some (by simpa using hm)
          obtain ⟨r, hr, hy'⟩ := fails none (some dt) m h
          refine ⟨r, hr, (yields_underlying hd).bind ((yields_typeInfo hi).bind ?_)⟩
          rw [hm']; exact hy'
      · simp at h
    · rename_i d' hx hn ht
      simp only [Option.some.injEq] at ht; subst ht
      cases hx
      obtain ⟨r, hr, hy⟩ := fails (some xt) none "" h
      refine ⟨r, hr, (yields_underlying hd).bind ?_⟩
      cases d <;> first | exact hy | (exact absurd rfl (hn _))
    · rename_i d' dt y hn ht
      simp only [Option.some.injEq] at ht; subst ht
      cases hx with | iface hy =>
      split at h
      · rename_i e; subst e
        simp only [Option.some.injEq] at h; subst h
        obtain ⟨r, hr, hy'⟩ := holds hy
        refine ⟨r, hr, (yields_underlying hd).bind ?_⟩
        have : ∀ s1 s2 : Sem Value, Yields P s1 r → Yields P (if dt = dt then s1 else s2) r := fun s1 s2 h => by rw [if_pos rfl]; exact h
        cases d <;> first | exact this _ _ hy' | (exact absurd rfl (hn _))
      · rename_i e
        obtain ⟨r, hr, hy'⟩ := fails (some xt) (some dt) "" h
        refine ⟨r, hr, (yields_underlying hd).bind ?_⟩
        have : ∀ s : Sem Value, Yields P (if dt = t then s else (if ok then do Pure.pure (.tuple #[← zeroValue t, .bool false]) else runtimePanic (.typeAssertion (some xt) (some dt) t "") : Sem Value)) r := fun s => by rw [if_neg e]; exact hy'
        cases d <;> first | exact this _ | (exact absurd rfl (hn _))
    · simp at h
theorem len_sound {ts : Array TypeId} {X v : V} {x' : Value} {ty : TypeId} (h : lenP P ts X = some v) (hx : VR μ X x') : ∃ r, VR μ v r ∧ Yields P (Builtin.len_ ts ty #[x']) r := by
  unfold lenP at h
  cases hts : ts[0]? with
  | none => simp [hts] at h
  | some t =>
    simp only [hts, Option.bind_some] at h
    have e0 : (#[x'] : Array Value)[0]? = some x' := rfl
    have go : ∀ {d : TypeDesc} {r : Value}, P.underlying t = some d → (Yields P (match d, x' with
        | .string, .string s => Pure.pure (goInt s.size)
        | .array n _, _ => Pure.pure (goInt n)
        | .pointer arr, _ => do
          let .array n _ ← underlying arr | stuck "len: pointer to array expected"
          Pure.pure (goInt n)
        | .slice _, .slice _ n _ => Pure.pure (goInt n)
        | .map _ _, .map none | .chan _ _, .chan none => Pure.pure (goInt 0)
        | .map _ _, .map (some r) => do
          let .map entries _ ← getObj r | stuck "len: map expected"
          Pure.pure (goInt entries.size)
        | .chan _ _, .chan (some r) => do
          let .chan _ buf _ _ _ timer ← getObj r | stuck "len: channel expected"
          Pure.pure (goInt (if timer then 0 else buf.size))
        | _, _ => stuck "len: string, array, pointer to array, slice, map or channel expected") r) → Yields P (Builtin.len_ ts ty #[x']) r := by
      intro d r hd hr
      unfold Builtin.len_
      rw [hts, e0]
      exact (yields_underlying hd).bind hr
    split at h
    · rename_i s ht
      simp at h; subst h; cases hx
      refine ⟨_, .int _ _, go ht ?_⟩
      simp only [ByteArray.size, List.size_toArray]
      exact .pure _
    · rename_i n e ht
      simp at h; subst h
      exact ⟨_, .int _ _, go ht (.pure _)⟩
    · rename_i p ht
      split at h
      · rename_i n e hp
        simp at h; subst h
        exact ⟨_, .int _ _, go ht ((yields_underlying hp).bind (.pure _))⟩
      · simp at h
    · rename_i e A n c ht
      simp at h; subst h
      cases hx <;> exact ⟨_, .int _ _, go ht (.pure _)⟩
    · rename_i k e ht
      simp at h; subst h; cases hx
      exact ⟨_, .int _ _, go ht (.pure _)⟩
    · simp at h
theorem max2_int {k k' : IntKind} {n m : Int} : Yields P (Builtin.max2 (.int k n) (.int k' m)) (.int k (if m > n then m else n)) := .pure _
theorem min2_int {k k' : IntKind} {n m : Int} : Yields P (Builtin.min2 (.int k n) (.int k' m)) (.int k (if m < n then m else n)) := .pure _
theorem maxF_none (mx : Bool) : ∀ l : List V, l.foldl (fun a y => match a, y with
    | some (.int k a), .int _ b => some (.int k (if mx then (if b > a then b else a) else (if b < a then b else a)))
    | _, _ => none) (none : Option V) = none
  | [] => rfl
  | x :: l => by rw [List.foldl_cons]; exact maxF_none mx l
theorem max_sound {l : List V} {l' : List Value} {v : V} (ts : Array TypeId) (ty : TypeId) (mx : Bool) (h : maxV mx l = some v) (hl : VRs μ l l') :
    ∃ r, VR μ v r ∧ Yields P (if mx then Builtin.max_ ts ty l'.toArray else Builtin.min_ ts ty l'.toArray) r := by
  cases hl with
  | nil => simp [maxV] at h
  | cons hx ht =>
    rename_i x l x' l'
    have key : ∀ (l : List V) (l' : List Value) (x : V) (x' : Value), VRs μ l l' → VR μ x x' → l.foldl (fun a y => match a, y with
        | some (.int k a), .int _ b => some (.int k (if mx then (if b > a then b else a) else (if b < a then b else a)))
        | _, _ => none) (some x) = some v → ∃ r, VR μ v r ∧ Yields P (l'.foldlM (if mx then Builtin.max2 else Builtin.min2) x') r := by
      intro l
      induction l with
      | nil =>
        intro l' x x' hl hx h
        cases hl; simp at h; subst h
        exact ⟨x', hx, .pure _⟩
      | cons y l ih =>
        intro l' x x' hl hx h
        cases hl with | cons hy ht =>
        rw [List.foldl_cons] at h
        cases hx with
        | int k n =>
          cases hy with
          | int k' m =>
            obtain ⟨r, hr, hY⟩ := ih _ _ _ ht (.int k (if mx then (if m > n then m else n) else (if m < n then m else n))) h
            refine ⟨r, hr, ?_⟩
            rw [List.foldlM_cons]
            cases mx
            · exact (min2_int (k := k) (k' := k') (n := n) (m := m)).bind hY
            · exact (max2_int (k := k) (k' := k') (n := n) (m := m)).bind hY
          | _ => exact absurd h (by rw [maxF_none]; simp)
        | _ => exact absurd h (by rw [maxF_none]; simp)
    obtain ⟨r, hr, hY⟩ := key l l' x x' ht hx h
    refine ⟨r, hr, ?_⟩
    cases mx
    · unfold Builtin.min_; exact hY
    · unfold Builtin.max_; exact hY

/-! ### All of them -/
/-- An operation's operands, as both sides read them. -/
def OpR (μ : PM) (F : Frm) (a : Act) (o : Oper) : Prop := ∀ x, x ∈ o.op.operands → VR μ (opr F x) (a.eval x)
/-- Both sides agree on what an operation names. -/
structure OpOk (P : Program) (μ : PM) (F : Frm) (a : Act) (o : Oper) : Prop where
  opd : OpR μ F a o
  typ : ∀ t ∈ opTypes o, wfT P t = true

theorem oprs_sound {xs : Array Operand} (h : ∀ x ∈ xs, VR μ (opr F x) (a.eval x)) : VRs μ (oprs F xs) (xs.map a.eval).toList := by
  unfold oprs
  rw [Array.toList_map]
  have : ∀ l : List Operand, (∀ x ∈ l, VR μ (opr F x) (a.eval x)) → VRs μ (l.map (opr F)) (l.map a.eval) := by
    intro l
    induction l with
    | nil => intro _; exact .nil
    | cons x l ih => intro h; exact .cons (h x (by simp)) (ih fun y hy => h y (by simp [hy]))
  exact this _ fun x hx => h x (Array.mem_toList_iff.1 hx)

theorem pure_sound {o : Oper} {v : V} (ok : OpOk P μ F a o) (h : pureV P F o = some v) : ∃ r, VR μ v r ∧ Yields P (execOp a.eval o) (.value r) := by
  obtain ⟨opd, typ⟩ := ok
  unfold OpR at opd
  unfold pureV at h
  unfold opTypes at typ
  unfold execOp
  cases ho : o.op <;> simp only [ho] at h typ opd ⊢ <;> try (exfalso; cases h; done)
  case move x => simp at h; subst h; exact ⟨_, opd x (by simp [Op.operands]), .pure _⟩
  case assign x => simp at h; subst h; exact ⟨_, opd x (by simp [Op.operands]), .pure _⟩
  case pick c x y =>
    have hc := opd c (by simp [Op.operands])
    split at h
    · rename_i t ht
      simp at h; subst h
      rw [ht] at hc
      rw [hc.bool_inv]
      refine ⟨if t then a.eval x else a.eval y, ?_, ?_⟩
      · cases t
        · exact opd y (by simp [Op.operands])
        · exact opd x (by simp [Op.operands])
      · cases t <;> exact .pure _
    · simp at h
  case build t ps =>
    split at h
    · rename_i hagg
      split at h
      · rename_i z hz
        split at h
        · rename_i q hq
          simp only [Option.map_eq_some_iff] at h
          obtain ⟨l, hl, rfl⟩ := h
          obtain ⟨r, hr, hy⟩ := build_sound (a := a) (typ t (by simp)) hagg hz hq hl (fun j x hx => opd x (by
            simp only [Op.operands, List.mem_toArray, List.mem_map]
            exact ⟨(j, x), Array.mem_toList_iff.2 hx, rfl⟩))
          exact ⟨r, hr, hy.value⟩
        · simp at h
      · simp at h
    · simp at h
  case nilCheck x =>
    have hx := opd x (by simp [Op.operands])
    refine ⟨a.eval x, ?_, ?_⟩
    · split at h <;> simp at h
      subst h; exact hx
    · generalize a.eval x = r at hx ⊢
      generalize opr F x = X at h hx
      cases hx <;> first | exact .pure _ | (exfalso; cases h; done)
  case binOp op t x y t2 =>
    have hx := opd x (by simp [Op.operands])
    have hy := opd y (by simp [Op.operands])
    obtain ⟨r, hr, hY⟩ := binV_sound h hx hy
    exact ⟨r, hr, (((bin_guard h hx hy).bind hY)).value⟩
  case unOp op t x =>
    obtain ⟨r, hr, hY⟩ := unV_sound (P := P) h (opd x (by simp [Op.operands]))
    exact ⟨r, hr, hY.value⟩
  case convert s d x =>
    have hx := opd x (by simp [Op.operands])
    split at h
    · rename_i ds k k' n hs hd hX
      simp at h; subst h
      rw [hX] at hx
      rw [hx.int_inv]
      refine ⟨_, .int _ _, Yields.value ?_⟩
      unfold convert
      refine (yields_underlying hs).bind ((yields_underlying hd).bind ?_)
      exact .pure _
    · rename_i ds q hs hd hX
      simp at h; subst h
      rw [hX] at hx
      rw [hx.str_inv]
      refine ⟨_, .str _, Yields.value ?_⟩
      unfold convert
      refine (yields_underlying hs).bind ((yields_underlying hd).bind ?_)
      exact .pure _
    · simp at h
  case makeInterface t x =>
    split at h
    · simp at h
    · rename_i d hn hd
      simp at h; subst h
      refine ⟨_, .iface (opd x (by simp [Op.operands])), Yields.value ?_⟩
      unfold Instr.makeInterface
      refine (yields_underlying hd).bind ?_
      cases d <;> first | exact .pure _ | (exact absurd rfl (hn _))
    · simp at h
  case makeFunc fn first caps =>
    cases fn <;> simp at h
    subst h
    refine ⟨_, .func (oprs_sound fun x hx => opd x (by simp [Op.operands, hx])) (oprs_sound fun x hx => opd x (by simp [Op.operands, hx])), ?_⟩
    exact Yields.value (.pure _)
  case slice t x lo hi mx =>
    obtain ⟨r, hr, hy⟩ := slicePure_sound (typ t (by simp)) h (opd x (by simp [Op.operands]))
      (fun y e => opd y (by simp [Op.operands, e])) (fun y e => opd y (by simp [Op.operands, e])) (fun y e => opd y (by simp [Op.operands, e]))
    exact ⟨r, hr, hy.value⟩
  case fieldAddr s x i =>
    split at h
    · rename_i b q fs hX hfs
      split at h
      · rename_i f hf
        split at h
        · simp at h
        · rename_i hz
          simp at h; subst h
          obtain ⟨r, hr, hy⟩ := fieldAddr_sound (typ s (by simp)) hX hfs hf hz (opd x (by simp [Op.operands]))
          exact ⟨r, hr, hy.value⟩
      · simp at h
    · simp at h
  case field t x i =>
    have hx := opd x (by simp [Op.operands])
    split at h
    · rename_i l fs hX hfs
      split at h
      · rename_i f hf
        rw [hX] at hx
        generalize a.eval x = r at hx
        cases hx with | agg hl =>
        obtain ⟨r, hr, hy⟩ := field_sound (typ t (by simp)) hl hfs hf h
        exact ⟨r, hr, hy.value⟩
      · simp at h
    · simp at h
  case indexAddr t x i =>
    obtain ⟨r, hr, hy⟩ := indexAddr_sound (typ t (by simp)) (opd x (by simp [Op.operands])) (opd i (by simp [Op.operands])) h
    exact ⟨r, hr, hy.value⟩
  case index t x i =>
    obtain ⟨r, hr, hy⟩ := index_sound (typ t (by simp)) (opd x (by simp [Op.operands])) (opd i (by simp [Op.operands])) h
    exact ⟨r, hr, hy.value⟩
  case typeAssert x xt t ok =>
    obtain ⟨r, hr, hy⟩ := assert_sound (xt := xt) h (opd x (by simp [Op.operands]))
    exact ⟨r, hr, hy.value⟩
  case extract t i =>
    have hx := opd t (by simp [Op.operands])
    split at h
    · rename_i l hX
      rw [hX] at hx
      generalize a.eval t = r at hx
      cases hx with | tuple hl =>
      obtain ⟨r, hr, hv⟩ := hl.get h
      refine ⟨r, hv, Yields.value ?_⟩
      unfold Instr.extract
      simp only [List.getElem?_toArray, hr]
      exact .pure _
    · simp at h
  case call c =>
    obtain ⟨callee, args, tys⟩ := c
    cases callee with
    | value f => exfalso; cases h
    | invoke r m => exfalso; cases h
    | builtin b =>
      have hargs : VRs μ (oprs F args) (args.map a.eval).toList := oprs_sound fun x hx => opd x (by simp [Op.operands, Call.operands, hx])
      have harr : (args.map a.eval) = (args.map a.eval).toList.toArray := (Array.toArray_toList).symm
      simp only at h
      show ∃ r, VR μ v r ∧ Yields P (do let d ← resolve a.eval { callee := .builtin b, args, argTypes := tys } o.type; invoke d.target d.args) (.value r)
      have red : ∀ {r : Value}, Yields P (builtin b tys o.type (args.map fun | .const _ => true | _ => false) (args.map a.eval)) (.value r) →
          Yields P (do let d ← resolve a.eval { callee := .builtin b, args, argTypes := tys } o.type; invoke d.target d.args) (.value r) := fun h => Yields.bind (.pure _) h
      cases b <;> simp only at h <;> try (exfalso; cases h; done)
      case len =>
        split at h
        · rename_i X hX
          rw [hX] at hargs
          generalize (args.map a.eval) = A at hargs harr red
          rw [harr] at red
          generalize A.toList = L at hargs red
          cases hargs with | cons hx ht =>
          cases ht
          obtain ⟨r, hr, hy⟩ := len_sound (ty := o.type) h hx
          exact ⟨r, hr, red hy.value⟩
        · simp at h
      case cap =>
        split at h
        · rename_i e A0 len n ht hX
          simp only [Option.some.injEq] at h; subst h
          rw [hX] at hargs
          generalize (args.map a.eval) = A at hargs harr red
          rw [harr] at red
          generalize A.toList = L at hargs red
          cases hargs with | cons hx ht =>
          cases ht
          refine ⟨_, .int .i64 n, red (Yields.value ?_)⟩
          cases hts : tys[0]? with
          | none => simp [hts] at ht
          | some t =>
            simp only [hts, Option.bind_some] at ht
            unfold Builtin.cap_
            rw [hts]
            refine (yields_underlying ht).bind ?_
            cases hx with
            | sliceN _ => exact .pure _
            | slice _ hc _ _ => cases hc; exact .pure _
        · simp at h
      case max =>
        obtain ⟨r, hr, hy⟩ := max_sound (P := P) tys o.type true h hargs
        rw [← harr] at hy
        exact ⟨r, hr, red (Yields.value hy)⟩
      case min =>
        obtain ⟨r, hr, hy⟩ := max_sound (P := P) tys o.type false h hargs
        rw [← harr] at hy
        exact ⟨r, hr, red (Yields.value hy)⟩
end Go.Vm
