/- What gram.Above comes to. -/
import Derived.Test.YthebkalnpmkkpaaGreatDoorWpG3
import Derived.Test.YthebkalnpmkkpaaGreatDoorWpG2
set_option linter.unusedVariables false
set_option linter.unusedSimpArgs false
namespace Go.Vm
open Ch
variable {P : Program} {Y : Fns} {I : Ids}
theorem ruleE_none {nt nn : Nat} {r : GRule} (h : ruleE nt nn r = none) : r.right.length ≤ 32 ∧ 0 ≤ r.left ∧ r.left < nn ∧ ∀ s ∈ r.right, s < nt ∧ -(nn : Int) ≤ s := by
  unfold ruleE at h
  split at h
  · cases h
  · rename_i h1
    split at h
    · cases h
    · rename_i h2
      simp only [Bool.or_eq_true, decide_eq_true_eq, not_or, List.any_eq_true, not_exists, not_and] at h2
      refine ⟨by omega, by omega, by omega, fun s hs => ?_⟩
      have := h2.2 s hs
      unfold badS at this
      simp only [Bool.or_eq_true, decide_eq_true_eq] at this
      omega
theorem firstRule_none {nt nn : Nat} : ∀ {l : List GRule} {i : Nat}, firstRule nt nn l i = none → ∀ r ∈ l, ruleE nt nn r = none
  | [], i, h, r, hr => by cases hr
  | x :: l, i, h, r, hr => by
    unfold firstRule at h
    cases hx : ruleE nt nn x with
    | some k => rw [hx] at h; cases h
    | none =>
      rw [hx] at h
      rcases List.mem_cons.1 hr with rfl | hr
      · exact hx
      · exact firstRule_none h r hr
/-- A grammar of which nothing is wrong. -/
structure Fine (g : Gram) : Prop where
  terms : g.terms.length ≤ 60
  nonterms : g.nonterms.length ≤ 60
  rules : g.rules.length ≤ 120
  axi : 0 ≤ g.axi ∧ g.axi < g.nonterms.length
  each : ∀ r ∈ g.rules, r.right.length ≤ 32 ∧ 0 ≤ r.left ∧ r.left < g.nonterms.length ∧ ∀ s ∈ r.right, s < g.terms.length ∧ -(g.nonterms.length : Int) ≤ s
theorem fine_of {g : Gram} (h : checkE g = none) : Fine g := by
  unfold checkE at h
  split at h
  · cases h
  · rename_i h1
    split at h
    · cases h
    · split at h
      · cases h
      · rename_i h3
        simp only [Bool.or_eq_true, decide_eq_true_eq, not_or] at h1 h3
        exact ⟨by omega, by omega, by omega, by omega, fun r hr => ruleE_none (firstRule_none h r hr)⟩
theorem Fine.inB {g : Gram} (f : Fine g) : InB g.nonterms.length g.rules := fun r hr => by
  obtain ⟨h1, h2, h3, h4⟩ := f.each r hr
  exact ⟨⟨h2, h3⟩, fun s hs => (h4 s hs).2⟩
theorem reps_one (n : Nat) (v : V) : reps n [v] = List.replicate n v := by
  induction n with
  | zero => rfl
  | succ n ih => simp [reps, ih, List.replicate_succ]
end Go.Vm
