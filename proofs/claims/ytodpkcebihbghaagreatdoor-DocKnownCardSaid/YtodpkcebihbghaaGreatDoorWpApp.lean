/- Lists that grow. -/
import Derived.Test.YtodpkcebihbghaaGreatDoorWpUtil
set_option linter.unusedVariables false
set_option linter.unusedSimpArgs false
namespace Go.Vm
variable {P : Program} {Y : Fns}
/-- A type's size, bytes, zero. -/
structure TyIs (P : Program) (t sz bytes : Nat) (z : List V) : Prop where
  size : sizeT P t = sz
  bytes : ((P.info? t).map (·.bytes)).getD 0 = bytes
  zero : zeroT P t = some z
  len : z.length = sz
def ambB (l : List V) (e : Nat) : Ob := .cells { l, elem := e, exact := false, rw := true, frz := (0, 0) }
/-- A list on its way: none yet, or a block of one's own from number n on. -/
structure Lst (n : Nat) (h : Hp) (v : V) (l : List V) (w e : Nat) : Prop where
  is : (v = .slice none 0 (.ex 0) ∧ l = []) ∨ ∃ b k, v = .slice (some (b, 0)) k (.tl 0) ∧ l.length = k * w ∧ h.get b = some (ambB l e) ∧ n ≤ b ∧ b < h.next
theorem Lst.nil (n : Nat) (h : Hp) (w e : Nat) : Lst n h (.slice none 0 (.ex 0)) [] w e := ⟨.inl ⟨rfl, rfl⟩⟩
/-- What is not the list's own stays. -/
theorem Lst.mono {n : Nat} {h h' : Hp} {v : V} {l : List V} {w e : Nat} (s : Lst n h v l w e) (hn : h.next ≤ h'.next) (hk : ∀ b, n ≤ b → b < h.next → h'.get b = h.get b) : Lst n h' v l w e := by
  rcases s.is with ⟨h1, h2⟩ | ⟨b, k, h1, h2, h3, h4, h5⟩
  · exact ⟨.inl ⟨h1, h2⟩⟩
  · exact ⟨.inr ⟨b, k, h1, h2, (hk b h4 h5).trans h3, h4, Nat.lt_of_lt_of_le h5 hn⟩⟩
theorem Lst.grow {n : Nat} {h h' : Hp} {v : V} {l : List V} {w e : Nat} (s : Lst n h v l w e) (g : Grow h h') : Lst n h' v l w e := s.mono g.next fun b _ hb => g.get b hb
theorem Lst.put {n c : Nat} {h : Hp} {v : V} {l : List V} {w e : Nat} (s : Lst n h v l w e) (hc : c < n) (ob : Ob) : Lst n (h.put c ob) v l w e := s.mono (Nat.le_refl _) fun b hb _ => get_put_ne ob (by omega)
/-- Some elements more. -/
theorem app_ok {e w bytes : Nat} {z : List V} (T : TyIs P e w bytes z) (hw : w ≠ 0) {n : Nat} {h : Hp} {v : V} {l : List V} (s : Lst n h v l w e) (hn : n ≤ h.next) {y : V} {new : List V} {m : Nat} (hy : srcCells h w y = some (m, new)) (hm : new.length = m * w) (h0 : m ≠ 0)
    (hc : new.all V.isCell = true) {k : Nat} (hk : l.length = k * w) (hb : 2 * (k + m) * bytes ≤ 281474976710656) (hb2 : k + m ≤ 4611686018427387904) :
    ∃ v' h', appV P h e w v y = .val v' h' ∧ Lst n h' v' (l ++ new) w e ∧ Keep n h h' ∧ (∀ c, c < h.next → (∀ b, v ≠ .slice (some (b, 0)) k (.tl 0) ∨ c ≠ b) → h'.get c = h.get c) ∧ ∃ b, v' = .slice (some (b, 0)) (k + m) (.tl 0) := by
  have guard : (decide (2 * (k + m) * ((P.info? e).map (·.bytes)).getD 0 > 2 ^ 48) || decide (k + m > 2 ^ 62) || !((zeroT P e).any fun z => decide (z.length = sizeT P e))) = false := by
    rw [T.bytes, T.zero, T.size]
    simp [T.len]
    omega
  rcases s.is with ⟨rfl, rfl⟩ | ⟨b, k', rfl, h2, h3, h4, h5⟩
  · obtain rfl : k = 0 := by
      have : k * w = 0 := by rw [← hk]; rfl
      rcases Nat.mul_eq_zero.1 this with h | h
      · exact h
      · exact absurd h hw
    refine ⟨.slice (some (h.next, 0)) (0 + m) (.tl 0), h.new (ambB new e), ?_, ⟨.inr ⟨h.next, 0 + m, rfl, by simp [hm], get_new_same _ _, hn, Nat.lt_succ_self _⟩⟩, (Grow.new _ _).keep hn, fun c hcc _ => get_new _ hcc, h.next, rfl⟩
    unfold appV
    simp only [hy]
    unfold appendV
    simp only [guard, Bool.false_eq_true, if_false]
    rw [if_neg (by omega), if_pos (by simp [hc])]
    rfl
  · obtain rfl : k' = k := by
      have : k' * w = k * w := by rw [← h2, hk]
      exact Nat.eq_of_mul_eq_mul_right (Nat.pos_of_ne_zero hw) this
    have hne : b ≠ h.next := by omega
    refine ⟨.slice (some (h.next, 0)) (k' + m) (.tl 0), (h.put b .dead).new (ambB (l ++ new) e), ?_, ⟨.inr ⟨h.next, k' + m, rfl, by simp [h2, hm, Nat.add_mul], get_new_same _ _, hn, Nat.lt_succ_self _⟩⟩, ⟨Nat.le_succ _, fun c hcc => ?_⟩, fun c hcc hne2 => ?_, h.next, rfl⟩
    · unfold appV
      simp only [hy]
      unfold appendV
      simp only [guard, Bool.false_eq_true, if_false]
      rw [if_neg h0, h3]
      simp only [ambB, T.size]
      rw [if_neg (by simp [hw]), if_neg (by rw [h2, Nat.add_mul]; have : 0 < m * w := Nat.mul_pos (Nat.pos_of_ne_zero h0) (Nat.pos_of_ne_zero hw); omega), if_pos (by simp [h2, hc])]
      simp only [List.drop_zero, Nat.sub_zero, h2.symm, List.take_length]
    · rw [get_new _ (by show c < h.next; omega), get_put_ne _ (by omega)]
    · rw [get_new _ (by show c < h.next; omega), get_put_ne]
      rcases hne2 b with h | h
      · exact absurd rfl h
      · exact fun e => h e.symm
end Go.Vm
