/- What stands before what in a region whose order is drawn. -/
import Derived.Test.YtbckpoddpghdcaaGreatDoorVmDraw
namespace Go.Vm
set_option linter.unusedSimpArgs false
set_option linter.unusedVariables false

def stepB (acc : Array Nat) (o : Oper) : Array Nat := acc.push (o.after.foldl (fun s e => if Region.binds .any e then s ||| 2 ^ e.on ||| acc.getD e.on 0 else s) 0)
theorem before_list (ops : Array Oper) : Region.before ops = ops.toList.foldl stepB #[] := by
  unfold Region.before
  rw [← Array.foldl_toList]
  rfl
theorem foldB_size : ∀ (l : List Oper) (acc : Array Nat), (l.foldl stepB acc).size = acc.size + l.length
  | [], acc => rfl
  | o :: l, acc => by
    rw [List.foldl_cons, foldB_size l, List.length_cons]
    simp [stepB]
    omega
theorem foldB_old : ∀ (l : List Oper) (acc : Array Nat) (j : Nat), j < acc.size → (l.foldl stepB acc).getD j 0 = acc.getD j 0
  | [], acc, j, h => rfl
  | o :: l, acc, j, h => by
    rw [List.foldl_cons, foldB_old l _ j (by simp [stepB]; omega)]
    simp only [stepB, Array.getD_eq_getD_getElem?]
    rw [Array.getElem?_push_lt h, Array.getElem?_eq_getElem h]
theorem bits_fold (acc : Array Nat) (i : Nat) : ∀ (l : List Edge) (s : Nat), (l.foldl (fun s e => if Region.binds .any e then s ||| 2 ^ e.on ||| acc.getD e.on 0 else s) s).testBit i = true →
    s.testBit i = true ∨ ∃ e ∈ l, Region.binds .any e = true ∧ (e.on = i ∨ (acc.getD e.on 0).testBit i = true)
  | [], s, h => .inl h
  | e :: l, s, h => by
    rw [List.foldl_cons] at h
    rcases bits_fold acc i l _ h with h1 | ⟨e', h1, h2⟩
    · split at h1
      · rename_i hb
        simp only [Nat.testBit_or, Bool.or_eq_true] at h1
        rcases h1 with (h1 | h1) | h1
        · exact .inl h1
        · refine .inr ⟨e, List.mem_cons_self, hb, .inl ?_⟩
          rw [Nat.testBit_two_pow] at h1
          simpa using h1
        · exact .inr ⟨e, List.mem_cons_self, hb, .inr h1⟩
      · exact .inl h1
    · exact .inr ⟨e', List.mem_cons_of_mem _ h1, h2⟩
/-- Who is before j is on one of j's edges, or before one that is. -/
theorem prec_edge {ops : Array Oper} {i j : Nat} {o : Oper} (hj : ops[j]? = some o) (hb : ∀ e ∈ o.after, Region.binds .any e = true → e.on < j) (h : prec (Region.before ops) i j = true) :
    ∃ e ∈ o.after, Region.binds .any e = true ∧ (e.on = i ∨ prec (Region.before ops) i e.on = true) := by
  unfold prec at h ⊢
  rw [before_list] at h ⊢
  have hlt : j < ops.toList.length := by
    have := (Array.getElem?_eq_some_iff.1 hj).1
    simpa using this
  have hsplit : ops.toList = ops.toList.take j ++ o :: ops.toList.drop (j + 1) := by
    have h1 : ops.toList[j]? = some o := by rw [Array.getElem?_toList]; exact hj
    have h2 : ops.toList[j] = o := by rw [List.getElem?_eq_getElem hlt] at h1; exact Option.some.inj h1
    rw [← h2, List.getElem_cons_drop, List.take_append_drop]
  have hsz : ((ops.toList.take j).foldl stepB #[]).size = j := by rw [foldB_size, List.length_take]; simp only [List.size_toArray, List.length_nil]; omega
  have hall : ops.toList.foldl stepB #[] = (ops.toList.drop (j + 1)).foldl stepB (stepB ((ops.toList.take j).foldl stepB #[]) o) := by
    conv => lhs; rw [hsplit]
    rw [List.foldl_append, List.foldl_cons]
  have hold : ∀ q, q < j → (ops.toList.foldl stepB #[]).getD q 0 = ((ops.toList.take j).foldl stepB #[]).getD q 0 := fun q hq => by
    rw [hall, foldB_old _ _ q (by simp [stepB, hsz]; omega)]
    simp only [stepB, Array.getD_eq_getD_getElem?]
    rw [Array.getElem?_push_lt (by rw [hsz]; exact hq), Array.getElem?_eq_getElem (by rw [hsz]; exact hq)]
  have hat : (ops.toList.foldl stepB #[]).getD j 0 = o.after.foldl (fun s e => if Region.binds .any e then s ||| 2 ^ e.on ||| ((ops.toList.take j).foldl stepB #[]).getD e.on 0 else s) 0 := by
    rw [hall, foldB_old _ _ j (by simp [stepB, hsz])]
    simp only [stepB, Array.getD_eq_getD_getElem?]
    have : j = ((ops.toList.take j).foldl stepB #[]).size := hsz.symm
    rw [Array.getElem?_push, if_pos this]
    rfl
  rw [hat, ← Array.foldl_toList] at h
  rcases bits_fold _ i o.after.toList 0 h with h1 | ⟨e, h1, h2, h3⟩
  · simp at h1
  · refine ⟨e, Array.mem_toList_iff.1 h1, h2, h3.imp id fun h3 => ?_⟩
    rw [hold e.on (hb e (Array.mem_toList_iff.1 h1) h2)]
    exact h3
/-- A set that holds with each operation all that its edges name holds all that is before it. -/
theorem prec_closed {ops : Array Oper} {S : Nat → Prop} (hb : ∀ j o, ops[j]? = some o → ∀ e ∈ o.after, Region.binds .any e = true → e.on < j) (hS : ∀ j o, ops[j]? = some o → S j → ∀ e ∈ o.after, Region.binds .any e = true → S e.on)
    (hops : ∀ j, S j → j < ops.size) : ∀ (j i : Nat), S j → prec (Region.before ops) i j = true → S i := by
  intro j
  induction j using Nat.strongRecOn with
  | _ j ih =>
    intro i hj hp
    have hlt := hops j hj
    have hjo : ops[j]? = some ops[j] := Array.getElem?_eq_getElem hlt
    obtain ⟨e, h1, h2, h3⟩ := prec_edge hjo (hb j _ hjo) hp
    have hSe := hS j _ hjo hj e h1 h2
    rcases h3 with rfl | h3
    · exact hSe
    · exact ih e.on (hb j _ hjo e h1 h2) i hSe h3
end Go.Vm
