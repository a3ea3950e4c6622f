/- Pieces that were handed out share no memory: kit.Pieces. -/
import Derived.Test.YtodpkcebihbghaaGreatDoorWpK5
set_option linter.unusedVariables false
set_option linter.unusedSimpArgs false
namespace Go.Vm
variable {P : Program} {Y : Fns} {I : Ids}
theorem Lst.frame {n : Nat} {h h' : Hp} {v : V} {l : List V} {w e : Nat} (s : Lst n h v l w e) (hn : h.next ≤ h'.next) (hf : ∀ b k, v = .slice (some (b, 0)) k (.tl 0) → b < h.next → h'.get b = h.get b) : Lst n h' v l w e := by
  rcases s.is with ⟨h1, h2⟩ | ⟨b, k, h1, h2, h3, h4, h5⟩
  · exact ⟨.inl ⟨h1, h2⟩⟩
  · exact ⟨.inr ⟨b, k, h1, h2, (hf b k h1 h5).trans h3, h4, Nat.lt_of_lt_of_le h5 hn⟩⟩
theorem Lst.low {n : Nat} {h : Hp} {b k : Nat} {l : List V} {w e : Nat} (s : Lst n h (.slice (some (b, 0)) k (.tl 0)) l w e) : b < h.next ∧ n ≤ b ∧ l.length = k * w ∧ h.get b = some (ambB l e) := by
  rcases s.is with ⟨h1, h2⟩ | ⟨b', k', h1, h2, h3, h4, h5⟩
  · cases h1
  · cases h1; exact ⟨h5, h4, h2, h3⟩
/-- A list of lists, as it was built, is one. -/
theorem Lst.all {n : Nat} {h : Hp} {v : V} {A : List Out} {e : Nat} (s : Lst n h v (A.map outV) 1 e) (hs : ∀ i b m : Nat, A[i]? = some (some b, m) → b < n) : ∃ a c, v = .slice a A.length c ∧ AllC h a A := by
  rcases s.is with ⟨rfl, h2⟩ | ⟨b, k, rfl, h2, h3, h4, h5⟩
  · obtain rfl : A = [] := by simpa using h2
    exact ⟨none, .ex 0, rfl, ⟨⟨fun _ h => (by cases h), .inl rfl⟩, fun _ _ h => (by cases h)⟩⟩
  · refine ⟨some (b, 0), .tl 0, by simp at h2; rw [h2], ⟨⟨fun r hr => ?_, .inr ⟨b, 0, rfl, ?_⟩⟩, fun b' o hb i m hi => ?_⟩⟩
    · obtain ⟨x, _, rfl⟩ := List.mem_map.1 hr; rfl
    · have e1 : (A.map fun x => [outV x]).flatten = A.map outV := by
        clear h2 h3 h4 h5 s hs
        induction A with
        | nil => rfl
        | cons x A ih => simp [ih]
      rw [e1]
      have : h.get b = some (ambB (A.map outV ++ []) e) := by rw [List.append_nil]; exact h3
      exact at_amb this h5
    · cases hb
      have := hs i b m hi
      omega
abbrev PcO := Int × Int × Out × Out
end Go.Vm
