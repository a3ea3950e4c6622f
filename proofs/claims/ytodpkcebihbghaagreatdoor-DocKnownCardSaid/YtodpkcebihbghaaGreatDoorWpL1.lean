/- The kit's functions over lists of single cells: lent with a mark behind, still as they were. -/
import Derived.Test.YtodpkcebihbghaaGreatDoorWpF11
import Derived.Test.YtodpkcebihbghaaGreatDoorWpK4
set_option linter.unusedVariables false
set_option linter.unusedSimpArgs false
namespace Go.Vm
variable {P : Program} {Y : Fns} {I : Ids}
/-- A slice of single cells. -/
def Cl (h : Hp) (a : Option (Nat × Nat)) (vs : List V) : Prop := Sl h 1 a (vs.map fun v => [v])
theorem Cl.grow {h h' : Hp} {a : Option (Nat × Nat)} {vs : List V} (s : Cl h a vs) (g : Grow h h') : Cl h' a vs := Sl.grow s g
theorem Ints.cl {h : Hp} {a : Option (Nat × Nat)} {l : List Int} (s : Ints h a l) : Cl h a (l.map iv) := by
  unfold Cl
  rw [List.map_map]
  exact s
theorem Strs.cl {h : Hp} {a : Option (Nat × Nat)} {l : List (List UInt8)} (s : Strs h a l) : Cl h a (l.map V.str) := by
  unfold Cl
  rw [List.map_map]
  exact s
theorem Cl.ints {h : Hp} {a : Option (Nat × Nat)} {l : List Int} (s : Cl h a (l.map iv)) : Ints h a l := by
  unfold Cl at s
  rw [List.map_map] at s
  exact s
theorem Cl.strs {h : Hp} {a : Option (Nat × Nat)} {l : List (List UInt8)} (s : Cl h a (l.map V.str)) : Strs h a l := by
  unfold Cl at s
  rw [List.map_map] at s
  exact s
theorem ones_flat : ∀ vs : List V, (vs.map fun v => [v]).flatten = vs
  | [] => rfl
  | v :: vs => by simp [ones_flat vs]
theorem Cl.get {h : Hp} {a : Option (Nat × Nat)} {vs : List V} (s : Cl h a vs) {i : Nat} (hi : i < vs.length) : ∃ b o, a = some (b, o) ∧ load1 h b (o + i) = some vs[i] ∧ b < h.next := by
  obtain ⟨b, o, h1, h2⟩ := Sl.at s (i := i) (by simpa using hi)
  have := h2.load1 (i := 0) (by simp)
  exact ⟨b, o, h1, by simpa using this, h2.low⟩
theorem Cl.src {h : Hp} {a : Option (Nat × Nat)} {vs : List V} (s : Cl h a vs) (c : Cap) : srcCells h 1 (.slice a vs.length c) = some (vs.length, vs) := by
  rcases Sl.pl s with h0 | ⟨b, o, rfl, hat⟩
  · obtain rfl : vs = [] := by simpa using h0
    cases a with
    | none => rfl
    | some p => obtain ⟨b, o⟩ := p; simp [srcCells]
  · show (if vs.length * 1 = 0 then some (vs.length, []) else (loadL h b o (vs.length * 1)).map fun m => (vs.length, m)) = _
    by_cases hz : vs.length * 1 = 0
    · rw [if_pos hz]
      rw [Nat.mul_one] at hz
      rw [List.eq_nil_of_length_eq_zero hz]
    · rw [if_neg hz, Nat.mul_one]
      have := hat.loadL
      rw [ones_flat] at this
      rw [this]; rfl
/-- Cells that were lent, a mark behind. -/
structure LentC (n : Nat) (h : Hp) (v : V) (vs : List V) (mk : V) (e : Nat) : Prop where
  is : ∃ b, v = .slice (some (b, 0)) vs.length (.tl 0) ∧ h.get b = some (ambB (vs ++ [mk]) e) ∧ n ≤ b ∧ b < h.next
theorem LentC.grow {n : Nat} {h h' : Hp} {v : V} {vs : List V} {mk : V} {e : Nat} (s : LentC n h v vs mk e) (g : Grow h h') : LentC n h' v vs mk e := by
  obtain ⟨b, h1, h2, h3, h4⟩ := s
  exact ⟨b, h1, (g.get b h4).trans h2, h3, Nat.lt_of_lt_of_le h4 g.next⟩
theorem LentC.low {n k : Nat} {h : Hp} {v : V} {vs : List V} {mk : V} {e : Nat} (s : LentC n h v vs mk e) (hk : k ≤ n) : LentC k h v vs mk e := by
  obtain ⟨b, h1, h2, h3, h4⟩ := s
  exact ⟨b, h1, h2, by omega, h4⟩
theorem LentC.cl {n : Nat} {h : Hp} {v : V} {vs : List V} {mk : V} {e : Nat} (s : LentC n h v vs mk e) : ∃ b, v = .slice (some (b, 0)) vs.length (.tl 0) ∧ Cl h (some (b, 0)) vs := by
  obtain ⟨b, h1, h2, _, h3⟩ := s
  refine ⟨b, h1, ⟨fun r hr => ?_, .inr ⟨b, 0, rfl, ?_⟩⟩⟩
  · obtain ⟨x, _, rfl⟩ := List.mem_map.1 hr; rfl
  · rw [ones_flat]; exact at_amb h2 h3
end Go.Vm
