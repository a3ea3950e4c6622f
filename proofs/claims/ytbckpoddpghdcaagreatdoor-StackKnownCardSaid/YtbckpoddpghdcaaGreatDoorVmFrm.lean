/- A frame by the set of the operations that are done. -/
import Derived.Test.YtbckpoddpghdcaaGreatDoorVmPrec
namespace Go.Vm
set_option linter.unusedSimpArgs false
set_option linter.unusedVariables false

def frS (v : Nat → V) (S : Nat → Bool) : List Oper → Nat → Frm → Frm
  | [], _, F => F
  | o :: l, i, F => frS v S l (i + 1) (if S i then setO o.dst (v i) F else F)
theorem setO_get (d : Option Tmp) (x : V) (F : Frm) (q : Tmp) : (setO d x F).get (Pos.of q) = if d = some q then some x else F.get (Pos.of q) := by
  cases d with
  | none => rfl
  | some d =>
    by_cases h : d = q
    · subst h; rw [if_pos rfl]; exact T.get_set_same _ _ _
    · rw [if_neg (by simpa using h)]; exact T.get_set_ne (fun e => h (Pos.of_inj e)) _ _
theorem frS_congr (v : Nat → V) (S S' : Nat → Bool) (q : Tmp) : ∀ (l : List Oper) (i : Nat) (F F' : Frm), (∀ k o, l[k]? = some o → o.dst = some q → S (i + k) = S' (i + k)) → F.get (Pos.of q) = F'.get (Pos.of q) →
    (frS v S l i F).get (Pos.of q) = (frS v S' l i F').get (Pos.of q)
  | [], i, F, F', _, h => h
  | o :: l, i, F, F', hk, h => by
    simp only [frS]
    refine frS_congr v S S' q l (i + 1) _ _ (fun k o' h1 h2 => by have := hk (k + 1) o' (by simpa using h1) h2; rwa [show i + (k + 1) = i + 1 + k by omega] at this) ?_
    by_cases hd : o.dst = some q
    · have := hk 0 o rfl hd
      rw [Nat.add_zero] at this
      rw [← this]
      split
      · rw [setO_get, setO_get, if_pos hd, if_pos hd]
      · exact h
    · have e : ∀ (b : Bool) (G : Frm), (if b then setO o.dst (v i) G else G).get (Pos.of q) = G.get (Pos.of q) := fun b G => by
        split
        · rw [setO_get, if_neg hd]
        · rfl
      rw [e, e]; exact h
/-- The last writer tells. -/
theorem frS_last (v : Nat → V) (S : Nat → Bool) (q : Tmp) : ∀ (l : List Oper) (i t : Nat) (F : Frm) (o : Oper), l[t]? = some o → o.dst = some q → S (i + t) = true → (∀ k o', t < k → l[k]? = some o' → o'.dst = some q → S (i + k) = false) →
    (frS v S l i F).get (Pos.of q) = some (v (i + t))
  | [], i, t, F, o, h, _, _, _ => by simp at h
  | p :: l, i, 0, F, o, h, hd, hS, hl => by
    simp only [List.getElem?_cons_zero, Option.some.injEq] at h
    subst h
    simp only [frS]
    rw [Nat.add_zero] at hS ⊢
    rw [if_pos hS]
    have e := frS_congr v S (fun _ => false) q l (i + 1) (setO p.dst (v i) F) (setO p.dst (v i) F) (fun k o' h1 h2 => by
      have := hl (k + 1) o' (by omega) (by simpa using h1) h2
      rwa [show i + (k + 1) = i + 1 + k by omega] at this) rfl
    rw [e]
    have none_ : ∀ (l : List Oper) (i : Nat) (F : Frm), frS v (fun _ => false) l i F = F := by
      intro l
      induction l with
      | nil => intro i F; rfl
      | cons o l ih => intro i F; simp only [frS, Bool.false_eq_true, if_false]; exact ih _ _
    rw [none_, setO_get, if_pos hd, Nat.add_zero]
  | p :: l, i, t + 1, F, o, h, hd, hS, hl => by
    simp only [frS]
    have := frS_last v S q l (i + 1) t (if S i then setO p.dst (v i) F else F) o (by simpa using h) hd (by rwa [show i + 1 + t = i + (t + 1) by omega]) (fun k o' h0 h1 h2 => by
      have := hl (k + 1) o' (by omega) (by simpa using h1) h2
      rwa [show i + (k + 1) = i + 1 + k by omega] at this)
    rw [this, show i + 1 + t = i + (t + 1) by omega]
/-- One more is done. -/
theorem frS_more (v : Nat → V) (S S' : Nat → Bool) (l : List Oper) (t : Nat) (F : Frm) (o : Oper) (ht : l[t]? = some o) (hS : ∀ k, S' k = (S k || k == t)) (hl : ∀ k o', t < k → l[k]? = some o' → o'.dst = o.dst → o.dst ≠ none → S k = false) (q : Tmp) :
    (frS v S' l 0 F).get (Pos.of q) = (setO o.dst (v t) (frS v S l 0 F)).get (Pos.of q) := by
  rw [setO_get]
  split
  · rename_i hd
    rw [frS_last v S' q l 0 t F o ht hd (by rw [hS]; simp) (fun k o' h0 h1 h2 => by
      rw [Nat.zero_add, hS, hl k o' h0 h1 (h2.trans hd.symm) (by rw [hd]; simp)]
      simp; omega), Nat.zero_add]
  · rename_i hd
    refine frS_congr v S' S q l 0 F F (fun k o' h1 h2 => ?_) rfl
    rw [Nat.zero_add, hS]
    by_cases hk : k = t
    · subst hk
      rw [ht] at h1
      cases h1
      exact (hd h2).elim
    · simp [hk]
end Go.Vm
