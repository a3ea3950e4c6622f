/- Chains of renamings: relaxing to the end, closing sets; no program in sight. -/
import Derived.Test.YtodpkcebihbghaaGreatDoorWpUtil
set_option linter.unusedVariables false
set_option linter.unusedSimpArgs false
namespace Go.Vm.Ch
open Go.Vm

/-- The nonterminal that a rule renames to. -/
def ren (r : GRule) : Option Int := match r.right with | [s] => if s < 0 then some (-1 - s) else none | _ => none
/-- A rule leads from x to y. -/
def Edge (rules : List GRule) (x y : Nat) : Prop := ∃ r ∈ rules, r.left = (x : Int) ∧ ren r = some (y : Int)
inductive Path (rules : List GRule) : Nat → Nat → Prop where
  | refl (x : Nat) : Path rules x x
  | step {x y z : Nat} (h : Edge rules x y) (p : Path rules y z) : Path rules x z
theorem Path.snoc {rules : List GRule} {x y z : Nat} (p : Path rules x y) (h : Edge rules y z) : Path rules x z := by
  induction p with
  | refl x => exact .step h (.refl _)
  | step e _ ih => exact .step e (ih h)

/-- Rules whose numbers are within bounds. -/
def InB (n : Nat) (rules : List GRule) : Prop := ∀ r ∈ rules, (0 ≤ r.left ∧ r.left < n) ∧ ∀ s ∈ r.right, -(n : Int) ≤ s
theorem InB.edge {n : Nat} {rules : List GRule} (h : InB n rules) {x y : Nat} (e : Edge rules x y) : x < n ∧ y < n := by
  obtain ⟨r, h1, h2, h3⟩ := e
  obtain ⟨⟨a, b⟩, c⟩ := h r h1
  refine ⟨by omega, ?_⟩
  unfold ren at h3
  split at h3
  · rename_i s hs
    split at h3
    · rename_i hneg
      have := c s (by rw [hs]; simp)
      simp only [Option.some.injEq] at h3
      omega
    · cases h3
  · cases h3

/-! ### Far -/
def cnt (far : List Nat) (v : Nat) : Nat := far.countP fun y => decide (0 < y ∧ y ≤ v)
structure Far (rules : List GRule) (n to : Nat) (far : List Nat) : Prop where
  len : far.length = n
  one : far[to]? = some 1
  sup : ∀ x v, far[x]? = some v → 0 < v → x = to ∨ ∃ y w, Edge rules x y ∧ far[y]? = some w ∧ 0 < w ∧ w < v
  num : ∀ (x : Nat) v, far[x]? = some v → 0 < v → v ≤ cnt far v
theorem Far.le {rules : List GRule} {n to : Nat} {far : List Nat} (h : Far rules n to far) {x v : Nat} (hx : far[x]? = some v) : v ≤ n := by
  rcases Nat.eq_zero_or_pos v with h0 | h0
  · omega
  · have h1 := h.num x v hx h0
    have h2 : cnt far v ≤ far.length := List.countP_le_length
    rw [h.len] at h2
    omega
theorem cnt_set {far : List Nat} {l u v : Nat} (hl : far[l]? = some u) (w : Nat) : cnt (far.set l v) w + (if 0 < u ∧ u ≤ w then 1 else 0) = cnt far w + (if 0 < v ∧ v ≤ w then 1 else 0) := by
  unfold cnt
  induction far generalizing l with
  | nil => simp at hl
  | cons a far ih =>
    cases l with
    | zero =>
      simp only [List.getElem?_cons_zero, Option.some.injEq] at hl
      subst hl
      simp only [List.set_cons_zero, List.countP_cons, decide_eq_true_eq]
      omega
    | succ l =>
      simp only [List.getElem?_cons_succ] at hl
      simp only [List.set_cons_succ, List.countP_cons]
      have := ih hl
      omega
/-- A rule would improve. -/
def better (far : List Nat) (r : GRule) : Bool := match ren r with
  | some m => decide (0 < far.getD m.toNat 0) && (decide (far.getD r.left.toNat 0 = 0) || decide (far.getD m.toNat 0 + 1 < far.getD r.left.toNat 0))
  | none => false
def relax (far : List Nat) (r : GRule) : List Nat := match ren r with | some m => far.set r.left.toNat (far.getD m.toNat 0 + 1) | none => far
/-- What is left to do: the places not come to, the sum. -/
def zeros (far : List Nat) : Nat := far.countP fun y => decide (y = 0)
def less (a b : List Nat) : Prop := zeros a < zeros b ∨ (zeros a = zeros b ∧ a.sum < b.sum)
theorem zeros_set {far : List Nat} {l u v : Nat} (hl : far[l]? = some u) : zeros (far.set l v) + (if u = 0 then 1 else 0) = zeros far + (if v = 0 then 1 else 0) := by
  unfold zeros
  induction far generalizing l with
  | nil => simp at hl
  | cons a far ih =>
    cases l with
    | zero =>
      simp only [List.getElem?_cons_zero, Option.some.injEq] at hl
      subst hl
      simp only [List.set_cons_zero, List.countP_cons, decide_eq_true_eq]
      omega
    | succ l =>
      simp only [List.getElem?_cons_succ] at hl
      simp only [List.set_cons_succ, List.countP_cons]
      have := ih hl
      omega
theorem sum_set {far : List Nat} {l u v : Nat} (hl : far[l]? = some u) : (far.set l v).sum + u = far.sum + v := by
  induction far generalizing l with
  | nil => simp at hl
  | cons a far ih =>
    cases l with
    | zero =>
      simp only [List.getElem?_cons_zero, Option.some.injEq] at hl
      subst hl
      simp only [List.set_cons_zero, List.sum_cons]
      omega
    | succ l =>
      simp only [List.getElem?_cons_succ] at hl
      simp only [List.set_cons_succ, List.sum_cons]
      have := ih hl
      omega
theorem ren_edge {n : Nat} {rules : List GRule} (hB : InB n rules) {r : GRule} (hr : r ∈ rules) {m : Int} (hm : ren r = some m) : Edge rules r.left.toNat m.toNat ∧ r.left.toNat < n ∧ m.toNat < n ∧ 0 ≤ m ∧ 0 ≤ r.left := by
  obtain ⟨⟨a, b⟩, c⟩ := hB r hr
  have hm0 : 0 ≤ m := by
    unfold ren at hm
    split at hm
    · split at hm
      · cases hm; omega
      · cases hm
    · cases hm
  have he : Edge rules r.left.toNat m.toNat := ⟨r, hr, by omega, by rw [hm]; congr 1; omega⟩
  exact ⟨he, (hB.edge he).1, (hB.edge he).2, hm0, a⟩
theorem Far.relax {rules : List GRule} {n to : Nat} {far : List Nat} (h : Far rules n to far) (hB : InB n rules) {r : GRule} (hr : r ∈ rules) (hb : better far r = true) : Far rules n to (relax far r) ∧ less (relax far r) far := by
  unfold better at hb
  unfold Ch.relax
  cases hm : ren r with
  | none => rw [hm] at hb; cases hb
  | some m =>
    rw [hm] at hb
    dsimp only at hb ⊢
    obtain ⟨he, hl, hmn, hm0, hl0⟩ := ren_edge hB hr hm
    simp only [Bool.and_eq_true, Bool.or_eq_true, decide_eq_true_eq] at hb
    obtain ⟨hb1, hb2⟩ := hb
    generalize r.left.toNat = l at *
    generalize m.toNat = k at *
    have gk : far[k]? = some (far.getD k 0) := by rw [List.getD_eq_getElem?_getD, List.getElem?_eq_getElem (by rw [h.len]; exact hmn)]; rfl
    have gl : far[l]? = some (far.getD l 0) := by rw [List.getD_eq_getElem?_getD, List.getElem?_eq_getElem (by rw [h.len]; exact hl)]; rfl
    generalize far.getD k 0 = a at *
    generalize far.getD l 0 = u at *
    have hlk : l ≠ k := fun e => by subst e; rw [gk] at gl; cases gl; omega
    have hlt : l ≠ to := fun e => by subst e; rw [h.one] at gl; cases gl; omega
    refine ⟨⟨by simp [h.len], ?_, fun x v hx hv => ?_, fun x v hx hv => ?_⟩, ?_⟩
    · rw [List.getElem?_set_ne hlt]; exact h.one
    · have keep : ∀ y w v0, far[y]? = some w → 0 < w → w < v0 → ∃ w', (far.set l (a + 1))[y]? = some w' ∧ 0 < w' ∧ w' < v0 := fun y w v0 hy h1 h2 => by
        by_cases e : l = y
        · subst e
          rw [gl] at hy; cases hy
          exact ⟨a + 1, by rw [List.getElem?_set]; simp [h.len, hl], by omega, by omega⟩
        · exact ⟨w, by rw [List.getElem?_set_ne e]; exact hy, h1, h2⟩
      by_cases e : l = x
      · subst e
        rw [List.getElem?_set] at hx
        simp [h.len, hl] at hx
        subst hx
        obtain ⟨w', k1, k2, k3⟩ := keep k a (a + 1) gk hb1 (by omega)
        exact .inr ⟨k, w', he, k1, k2, k3⟩
      · rw [List.getElem?_set_ne e] at hx
        rcases h.sup x v hx hv with k0 | ⟨y, w, k1, k2, k3, k4⟩
        · exact .inl k0
        · obtain ⟨w', q1, q2, q3⟩ := keep y w v k2 k3 k4
          exact .inr ⟨y, w', k1, q1, q2, q3⟩
    · have hc := cnt_set gl (v := a + 1) v
      by_cases e : l = x
      · subst e
        rw [List.getElem?_set] at hx
        simp [h.len, hl] at hx
        subst hx
        have h1 := h.num k a gk hb1
        have h2 : cnt far a ≤ cnt far (a + 1) := List.countP_mono_left fun y _ hy => by simp only [decide_eq_true_eq] at hy ⊢; omega
        have h3 : ¬ (0 < u ∧ u ≤ a + 1) := by omega
        rw [if_neg h3] at hc
        simp at hc
        omega
      · rw [List.getElem?_set_ne e] at hx
        have h1 := h.num x v hx hv
        by_cases hvu : 0 < u ∧ u ≤ v
        · rw [if_pos hvu, if_pos (by omega)] at hc; omega
        · rw [if_neg hvu] at hc; omega
    · have hz := zeros_set gl (v := a + 1)
      have hs := sum_set gl (v := a + 1)
      unfold less
      rcases hb2 with e | e
      · rw [if_pos e] at hz; simp at hz; left; omega
      · rw [if_neg (by omega)] at hz; simp at hz; right; omega
theorem Far.path {rules : List GRule} {n to : Nat} {far : List Nat} (h : Far rules n to far) : ∀ (v x : Nat), far[x]? = some v → 0 < v → Path rules x to := by
  intro v
  induction v using Nat.strongRecOn with
  | ind v ih =>
    intro x hx hv
    rcases h.sup x v hx hv with rfl | ⟨y, w, h1, h2, h3, h4⟩
    · exact .refl _
    · exact .step h1 (ih w h4 y h2 h3)
end Go.Vm.Ch
