/- How the virtual machine's values and heap stand to the model's. -/
import Derived.Test.YtbckpoddpghdcaaGreatDoorVmDef
import Derived.WalkKit
import Derived.RowKit3
set_option linter.unusedSimpArgs false
set_option linter.unusedVariables false
namespace Go.Vm

structure Loc where
  r : Nat
  off : Nat
  cap : Nat
abbrev PM := Nat → Option Loc

def Cap.ok (l : Loc) : Cap → Nat → Prop
  | .ex n, c => c = n
  | .tl k, c => k ≤ l.cap ∧ c = l.cap - k

mutual
inductive VR (μ : PM) : V → Value → Prop where
  | bool (b : Bool) : VR μ (.bool b) (.bool b)
  | int (k : IntKind) (n : Int) : VR μ (.int k n) (.int k n)
  | str (s : List UInt8) : VR μ (.str s) (.string ⟨s.toArray⟩)
  | ptrN : VR μ (.ptr none) (.pointer none)
  | ptr {b o : Nat} {l : Loc} (h : μ b = some l) : VR μ (.ptr (some (b, o))) (.pointer (some ⟨l.r, l.off + o, none⟩))
  | sliceN {n c : Nat} (h : n ≤ c) : VR μ (.slice none n (.ex c)) (.slice none n c)
  | slice {b o len cap : Nat} {c : Cap} {l : Loc} {a : Addr} (h : μ b = some l) (hc : c.ok l cap) (hl : len ≤ cap) (ha : cap ≠ 0 → a = ⟨l.r, l.off + o, none⟩) :
      VR μ (.slice (some (b, o)) len c) (.slice (some a) len cap)
  | mapN : VR μ (.map none) (.map none)
  | map {b : Nat} {l : Loc} (h : μ b = some l) : VR μ (.map (some b)) (.map (some l.r))
  | func {f : FuncId} {fs cs : List V} {fs' cs' : List Value} (hf : VRs μ fs fs') (hc : VRs μ cs cs') : VR μ (.func f fs cs) (.func (.func f) fs'.toArray cs'.toArray)
  | yield {b : Nat} {l : Loc} (h : μ b = some l) : VR μ (.yield b) (.func (.yield l.r) #[] #[])
  | nilFunc : VR μ .nilFunc .nilFunc
  | iface {t : TypeId} {v : V} {v' : Value} (h : VR μ v v') : VR μ (.iface t v) (.iface t v')
  | nilIface : VR μ .nilIface .nilIface
  | agg {l : List V} {l' : List Value} (h : VRs μ l l') : VR μ (.agg l) (.agg l'.toArray)
  | tuple {l : List V} {l' : List Value} (h : VRs μ l l') : VR μ (.tuple l) (.tuple l'.toArray)
inductive VRs (μ : PM) : List V → List Value → Prop where
  | nil : VRs μ [] []
  | cons {v : V} {l : List V} {v' : Value} {l' : List Value} (h : VR μ v v') (t : VRs μ l l') : VRs μ (v :: l) (v' :: l')
end

def PM.le (μ ν : PM) : Prop := ∀ b l, μ b = some l → ν b = some l
theorem PM.le.refl (μ : PM) : μ.le μ := fun _ _ h => h
theorem PM.le.trans {a b c : PM} (h : a.le b) (k : b.le c) : a.le c := fun x l e => k x l (h x l e)

theorem VR.mono {μ ν : PM} (hle : μ.le ν) {v : V} {r : Value} (h : VR μ v r) : VR ν v r :=
  VR.rec (motive_1 := fun v r _ => VR ν v r) (motive_2 := fun l m _ => VRs ν l m)
    (fun b => .bool b) (fun k n => .int k n) (fun s => .str s) .ptrN (fun h => .ptr (hle _ _ h)) (fun h => .sliceN h)
    (fun h hc hl ha => .slice (hle _ _ h) hc hl ha) .mapN (fun h => .map (hle _ _ h)) (fun _ _ a b => .func a b) (fun h => .yield (hle _ _ h))
    .nilFunc (fun _ a => .iface a) .nilIface (fun _ a => .agg a) (fun _ a => .tuple a) .nil (fun _ _ a b => .cons a b) h
theorem VRs.mono {μ ν : PM} (hle : μ.le ν) {v : List V} {r : List Value} (h : VRs μ v r) : VRs ν v r := by
  induction v generalizing r with
  | nil => cases h; exact .nil
  | cons a l ih => cases h with | cons h t => exact .cons (h.mono hle) (ih t)

/-! ### Lists -/
theorem VRs.length {μ : PM} {l : List V} {m : List Value} (h : VRs μ l m) : l.length = m.length := by
  induction l generalizing m with
  | nil => cases h; rfl
  | cons a l ih => cases h with | cons h t => simp [ih t]
theorem VRs.get {μ : PM} {l : List V} {m : List Value} (h : VRs μ l m) {i : Nat} {v : V} (hv : l[i]? = some v) : ∃ r, m[i]? = some r ∧ VR μ v r := by
  induction l generalizing m i with
  | nil => simp at hv
  | cons a l ih =>
    cases h with
    | cons h t =>
      cases i with
      | zero => simp at hv; subst hv; exact ⟨_, rfl, h⟩
      | succ i => simp at hv; simpa using ih t hv
theorem VRs.append {μ : PM} {l l2 : List V} {m m2 : List Value} (h : VRs μ l m) (k : VRs μ l2 m2) : VRs μ (l ++ l2) (m ++ m2) := by
  induction l generalizing m with
  | nil => cases h; simpa using k
  | cons a l ih => cases h with | cons h t => exact .cons h (ih t)
theorem VRs.of_get {μ : PM} : ∀ {l : List V} {m : List Value}, l.length = m.length → (∀ (i : Nat) (v : V) (r : Value), l[i]? = some v → m[i]? = some r → VR μ v r) → VRs μ l m
  | [], [], _, _ => .nil
  | v :: l, r :: m, hl, h => .cons (h 0 v r rfl rfl) (VRs.of_get (by simpa using hl) fun i a b ha hb => h (i + 1) a b (by simpa using ha) (by simpa using hb))
theorem VRs.take {μ : PM} {l : List V} {m : List Value} (h : VRs μ l m) (n : Nat) : VRs μ (l.take n) (m.take n) := by
  induction l generalizing m n with
  | nil => cases h; simp; exact .nil
  | cons a l ih => cases h with | cons h t => cases n with | zero => exact .nil | succ n => exact .cons h (ih t n)
theorem VRs.drop {μ : PM} {l : List V} {m : List Value} (h : VRs μ l m) (n : Nat) : VRs μ (l.drop n) (m.drop n) := by
  induction l generalizing m n with
  | nil => cases h; simp; exact .nil
  | cons a l ih => cases h with | cons h t => cases n with | zero => exact .cons h t | succ n => simpa using ih t n
theorem VRs.single {μ : PM} {v : V} {r : Value} (h : VR μ v r) : VRs μ [v] [r] := .cons h .nil
theorem VRs.splice {μ : PM} {l vs : List V} {m rs : List Value} (h : VRs μ l m) (k : VRs μ vs rs) (o : Nat) : VRs μ (splice l o vs) (m.take o ++ (rs ++ m.drop (o + rs.length))) := by
  unfold Vm.splice
  rw [k.length]
  exact (h.take o).append (k.append (h.drop _))

theorem VR.cells {μ : PM} {v : V} {r : Value} (h : VR μ v r) : VRs μ v.cells r.cells.toList := by
  cases h <;> simp only [V.cells, Value.cells] <;> first | assumption | (refine .single ?_; constructor <;> assumption)

/-- Cells from a place on. -/
def CellR (μ : PM) (l : List V) (c : Array Value) (o : Nat) : Prop := ∀ i v, l[i]? = some v → ∃ r, c[o + i]? = some r ∧ VR μ v r

def writable : Option Ob → Prop
  | some (.cells x) => x.rw = true
  | some (.map _ _) | some (.loop _) | some (.deferred _) => True
  | _ => False

/-- An order on codes: constants that are known, slots that there are. Laid below. -/
def EntR (μ : PM) : List (V × V × Nat) → List MapEntry → Prop
  | [], [] => True
  | (k, v, b) :: l, e :: m => VR μ k e.key ∧ VR μ v e.val ∧ e.born = b ∧ EntR μ l m
  | _, _ => False

/-- A frame's temporaries. -/
def FR (μ : PM) (F : Frm) (n : Nat) (tmps : Array Value) : Prop :=
  tmps.size = n ∧ ∀ i, i < n → VR μ ((F.get (Pos.of i)).getD vundef) (tmps.getD i undef)

end Go.Vm
