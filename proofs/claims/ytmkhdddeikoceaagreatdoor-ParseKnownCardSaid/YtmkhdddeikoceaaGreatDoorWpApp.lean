/- Lists that grow. -/
import Derived.Test.YtmkhdddeikoceaaGreatDoorWpUtil
set_option linter.unusedVariables false
set_option linter.unusedSimpArgs false
namespace Go.Vm
variable {P : Program} {Y : Fns}
/-- A type's size, bytes, zero. -/
structure TyIs (P : Program) (t sz bytes : Nat) (z : List V) : Prop where
  size : sizeT P t = sz
  bytes : ((P.info? t).map (·.bytes)).getD 0 = bytes
  zero : zeroT P t = some z
  len : z.length = sz
def ambB (l : List V) (e : Nat) : Ob := .cells { l, elem := e, exact := false, rw := true, frz := (0, 0) }
/-- A list on its way: none yet, or a block of one's own from number n on. -/
structure Lst (n : Nat) (h : Hp) (v : V) (l : List V) (w e : Nat) : Prop where
  is : (v = .slice none 0 (.ex 0) ∧ l = []) ∨ ∃ b k, v = .slice (some (b, 0)) k (.tl 0) ∧ l.length = k * w ∧ h.get b = some (ambB l e) ∧ n ≤ b ∧ b < h.next
theorem Lst.nil (n : Nat) (h : Hp) (w e : Nat) : Lst n h (.slice none 0 (.ex 0)) [] w e := ⟨.inl ⟨rfl, rfl⟩⟩
/-- What is not the list's own stays. -/
theorem Lst.mono {n : Nat} {h h' : Hp} {v : V} {l : List V} {w e : Nat} (s : Lst n h v l w e) (hn : h.next ≤ h'.next) (hk : ∀ b, n ≤ b → b < h.next → h'.get b = h.get b) : Lst n h' v l w e := by
  rcases s.is with ⟨h1, h2⟩ | ⟨b, k, h1, h2, h3, h4, h5⟩
  · exact ⟨.inl ⟨h1, h2⟩⟩
  · exact ⟨.inr ⟨b, k, h1, h2, (hk b h4 h5).trans h3, h4, Nat.lt_of_lt_of_le h5 hn⟩⟩
theorem Lst.grow {n : Nat} {h h' : Hp} {v : V} {l : List V} {w e : Nat} (s : Lst n h v l w e) (g : Grow h h') : Lst n h' v l w e := s.mono g.next fun b _ hb => g.get b hb
theorem Lst.put {n c : Nat} {h : Hp} {v : V} {l : List V} {w e : Nat} (s : Lst n h v l w e) (hc : c < n) (ob : Ob) : Lst n (h.put c ob) v l w e := s.mono (Nat.le_refl _) fun b hb _ => get_put_ne ob (by omega)
end Go.Vm
