/- The virtual machine's stores: paths and tries. Plain definitions and their laws. -/
import Derived.CallsIn
import Derived.Orders
set_option linter.unusedSimpArgs false
set_option linter.unusedVariables false
namespace Go.Vm

/-- A path in a trie: a number, in binary. -/
inductive Pos where
  | h
  | l (p : Pos)
  | r (p : Pos)
  deriving DecidableEq, Inhabited

def Pos.ofF : Nat → Nat → Pos
  | 0, _ => .h
  | f + 1, n => if n = 0 then .h else if n % 2 = 1 then .l (Pos.ofF f (n / 2)) else .r (Pos.ofF f (n / 2 - 1))
def Pos.of (n : Nat) : Pos := Pos.ofF (n + 1) n

/-- A trie. -/
inductive T (α : Type) where
  | nil
  | node (l : T α) (v : Option α) (r : T α)
  deriving Inhabited

namespace T
variable {α : Type}
def get (t : T α) (p : Pos) : Option α :=
  match p, t with
  | _, .nil => none
  | .h, .node _ v _ => v
  | .l p, .node l _ _ => get l p
  | .r p, .node _ _ r => get r p
def set (p : Pos) (x : α) (t : T α) : T α :=
  match p, t with
  | .h, .nil => .node .nil (some x) .nil
  | .h, .node l _ r => .node l (some x) r
  | .l p, .nil => .node (set p x .nil) none .nil
  | .l p, .node l v r => .node (set p x l) v r
  | .r p, .nil => .node .nil none (set p x .nil)
  | .r p, .node l v r => .node l v (set p x r)
theorem get_nil (p : Pos) : get (.nil : T α) p = none := by cases p <;> rfl
theorem get_set_same (p : Pos) (x : α) (t : T α) : (t.set p x).get p = some x := by
  induction p generalizing t with
  | h => cases t <;> rfl
  | l p ih => cases t <;> simp only [set, get] <;> exact ih _
  | r p ih => cases t <;> simp only [set, get] <;> exact ih _
theorem get_set_ne {p q : Pos} (h : p ≠ q) (x : α) (t : T α) : (t.set p x).get q = t.get q := by
  induction p generalizing t q with
  | h => cases q <;> first | exact absurd rfl h | (cases t <;> simp only [set, get, get_nil])
  | l p ih =>
    cases q with
    | l q => cases t <;> simp only [set, get] <;> first | exact ih (fun e => h (by rw [e])) _ | (rw [ih (fun e => h (by rw [e])), get_nil])
    | _ => cases t <;> simp only [set, get, get_nil]
  | r p ih =>
    cases q with
    | r q => cases t <;> simp only [set, get] <;> first | exact ih (fun e => h (by rw [e])) _ | (rw [ih (fun e => h (by rw [e])), get_nil])
    | _ => cases t <;> simp only [set, get, get_nil]
end T

/-- The number of a path. -/
def Pos.num : Pos → Nat
  | .h => 0
  | .l p => 2 * p.num + 1
  | .r p => 2 * p.num + 2
theorem Pos.num_ofF : ∀ (f n : Nat), n < f → (Pos.ofF f n).num = n
  | 0, n, hn => by omega
  | f + 1, n, hn => by
    unfold Pos.ofF
    split
    · rename_i e; subst e; rfl
    · split
      · simp only [Pos.num]; rw [Pos.num_ofF f (n / 2) (by omega)]; omega
      · simp only [Pos.num]; rw [Pos.num_ofF f (n / 2 - 1) (by omega)]; omega
theorem Pos.of_inj {m n : Nat} (h : Pos.of m = Pos.of n) : m = n := by
  have := congrArg Pos.num h
  unfold Pos.of at this
  rwa [Pos.num_ofF _ _ (by omega), Pos.num_ofF _ _ (by omega)] at this
end Go.Vm
