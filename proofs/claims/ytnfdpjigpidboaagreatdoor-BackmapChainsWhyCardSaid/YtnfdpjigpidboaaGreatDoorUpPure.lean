/- Chains of renamings: relaxing to the end, closing sets; no program in sight. -/
import Derived.Test.YtnfdpjigpidboaaGreatDoorWpLem
set_option linter.unusedVariables false
set_option linter.unusedSimpArgs false
namespace Go.Vm.Ch
open Go.Vm

/-- The nonterminal that a rule renames to. -/
def ren (r : GRule) : Option Int := match r.right with | [s] => if s < 0 then some (-1 - s) else none | _ => none
/-- A rule leads from x to y. -/
def Edge (rules : List GRule) (x y : Nat) : Prop := ∃ r ∈ rules, r.left = (x : Int) ∧ ren r = some (y : Int)
inductive Path (rules : List GRule) : Nat → Nat → Prop where
  | refl (x : Nat) : Path rules x x
  | step {x y z : Nat} (h : Edge rules x y) (p : Path rules y z) : Path rules x z
theorem Path.snoc {rules : List GRule} {x y z : Nat} (p : Path rules x y) (h : Edge rules y z) : Path rules x z := by
  induction p with
  | refl x => exact .step h (.refl _)
  | step e _ ih => exact .step e (ih h)

/-- Rules whose numbers are within bounds. -/
def InB (n : Nat) (rules : List GRule) : Prop := ∀ r ∈ rules, (0 ≤ r.left ∧ r.left < n) ∧ ∀ s ∈ r.right, -(n : Int) ≤ s
theorem InB.edge {n : Nat} {rules : List GRule} (h : InB n rules) {x y : Nat} (e : Edge rules x y) : x < n ∧ y < n := by
  obtain ⟨r, h1, h2, h3⟩ := e
  obtain ⟨⟨a, b⟩, c⟩ := h r h1
  refine ⟨by omega, ?_⟩
  unfold ren at h3
  split at h3
  · rename_i s hs
    split at h3
    · rename_i hneg
      have := c s (by rw [hs]; simp)
      simp only [Option.some.injEq] at h3
      omega
    · cases h3
  · cases h3

/-! ### Far -/
def cnt (far : List Nat) (v : Nat) : Nat := far.countP fun y => decide (0 < y ∧ y ≤ v)
structure Far (rules : List GRule) (n to : Nat) (far : List Nat) : Prop where
  len : far.length = n
  one : far[to]? = some 1
  sup : ∀ x v, far[x]? = some v → 0 < v → x = to ∨ ∃ y w, Edge rules x y ∧ far[y]? = some w ∧ 0 < w ∧ w < v
  num : ∀ (x : Nat) v, far[x]? = some v → 0 < v → v ≤ cnt far v
theorem Far.le {rules : List GRule} {n to : Nat} {far : List Nat} (h : Far rules n to far) {x v : Nat} (hx : far[x]? = some v) : v ≤ n := by
  rcases Nat.eq_zero_or_pos v with h0 | h0
  · omega
  · have h1 := h.num x v hx h0
    have h2 : cnt far v ≤ far.length := List.countP_le_length
    rw [h.len] at h2
    omega
theorem cnt_set {far : List Nat} {l u v : Nat} (hl : far[l]? = some u) (w : Nat) : cnt (far.set l v) w + (if 0 < u ∧ u ≤ w then 1 else 0) = cnt far w + (if 0 < v ∧ v ≤ w then 1 else 0) := by
  unfold cnt
  induction far generalizing l with
  | nil => simp at hl
  | cons a far ih =>
    cases l with
    | zero =>
      simp only [List.getElem?_cons_zero, Option.some.injEq] at hl
      subst hl
      simp only [List.set_cons_zero, List.countP_cons, decide_eq_true_eq]
      omega
    | succ l =>
      simp only [List.getElem?_cons_succ] at hl
      simp only [List.set_cons_succ, List.countP_cons]
      have := ih hl
      omega
theorem Far.init {rules : List GRule} {n to : Nat} (h : to < n) : Far rules n to ((List.replicate n 0).set to 1) := by
  have hg : ∀ x v, ((List.replicate n 0).set to 1)[x]? = some v → 0 < v → x = to ∧ v = 1 := fun x v hx hv => by
    rw [List.getElem?_set] at hx
    split at hx
    · rename_i e
      split at hx
      · cases hx; exact ⟨e.symm, rfl⟩
      · cases hx
    · rw [List.getElem?_replicate] at hx
      split at hx
      · cases hx; omega
      · cases hx
  refine ⟨by simp, ?_, fun x v hx hv => .inl (hg x v hx hv).1, fun x v hx hv => ?_⟩
  · rw [List.getElem?_set]; simp [h]
  · obtain ⟨rfl, rfl⟩ := hg x v hx hv
    have := cnt_set (far := List.replicate n 0) (l := x) (u := 0) (v := 1) (by rw [List.getElem?_replicate, if_pos h]) 1
    simp at this
    omega
/-- A rule would improve. -/
def better (far : List Nat) (r : GRule) : Bool := match ren r with
  | some m => decide (0 < far.getD m.toNat 0) && (decide (far.getD r.left.toNat 0 = 0) || decide (far.getD m.toNat 0 + 1 < far.getD r.left.toNat 0))
  | none => false
def relax (far : List Nat) (r : GRule) : List Nat := match ren r with | some m => far.set r.left.toNat (far.getD m.toNat 0 + 1) | none => far
/-- What is left to do: the places not come to, the sum. -/
def zeros (far : List Nat) : Nat := far.countP fun y => decide (y = 0)
def less (a b : List Nat) : Prop := zeros a < zeros b ∨ (zeros a = zeros b ∧ a.sum < b.sum)
theorem zeros_set {far : List Nat} {l u v : Nat} (hl : far[l]? = some u) : zeros (far.set l v) + (if u = 0 then 1 else 0) = zeros far + (if v = 0 then 1 else 0) := by
  unfold zeros
  induction far generalizing l with
  | nil => simp at hl
  | cons a far ih =>
    cases l with
    | zero =>
      simp only [List.getElem?_cons_zero, Option.some.injEq] at hl
      subst hl
      simp only [List.set_cons_zero, List.countP_cons, decide_eq_true_eq]
      omega
    | succ l =>
      simp only [List.getElem?_cons_succ] at hl
      simp only [List.set_cons_succ, List.countP_cons]
      have := ih hl
      omega
theorem sum_set {far : List Nat} {l u v : Nat} (hl : far[l]? = some u) : (far.set l v).sum + u = far.sum + v := by
  induction far generalizing l with
  | nil => simp at hl
  | cons a far ih =>
    cases l with
    | zero =>
      simp only [List.getElem?_cons_zero, Option.some.injEq] at hl
      subst hl
      simp only [List.set_cons_zero, List.sum_cons]
      omega
    | succ l =>
      simp only [List.getElem?_cons_succ] at hl
      simp only [List.set_cons_succ, List.sum_cons]
      have := ih hl
      omega
theorem ren_edge {n : Nat} {rules : List GRule} (hB : InB n rules) {r : GRule} (hr : r ∈ rules) {m : Int} (hm : ren r = some m) : Edge rules r.left.toNat m.toNat ∧ r.left.toNat < n ∧ m.toNat < n ∧ 0 ≤ m ∧ 0 ≤ r.left := by
  obtain ⟨⟨a, b⟩, c⟩ := hB r hr
  have hm0 : 0 ≤ m := by
    unfold ren at hm
    split at hm
    · split at hm
      · cases hm; omega
      · cases hm
    · cases hm
  have he : Edge rules r.left.toNat m.toNat := ⟨r, hr, by omega, by rw [hm]; congr 1; omega⟩
  exact ⟨he, (hB.edge he).1, (hB.edge he).2, hm0, a⟩
theorem Far.relax {rules : List GRule} {n to : Nat} {far : List Nat} (h : Far rules n to far) (hB : InB n rules) {r : GRule} (hr : r ∈ rules) (hb : better far r = true) : Far rules n to (relax far r) ∧ less (relax far r) far := by
  unfold better at hb
  unfold Ch.relax
  cases hm : ren r with
  | none => rw [hm] at hb; cases hb
  | some m =>
    rw [hm] at hb
    dsimp only at hb ⊢
    obtain ⟨he, hl, hmn, hm0, hl0⟩ := ren_edge hB hr hm
    simp only [Bool.and_eq_true, Bool.or_eq_true, decide_eq_true_eq] at hb
    obtain ⟨hb1, hb2⟩ := hb
    generalize r.left.toNat = l at *
    generalize m.toNat = k at *
    have gk : far[k]? = some (far.getD k 0) := by rw [List.getD_eq_getElem?_getD, List.getElem?_eq_getElem (by rw [h.len]; exact hmn)]; rfl
    have gl : far[l]? = some (far.getD l 0) := by rw [List.getD_eq_getElem?_getD, List.getElem?_eq_getElem (by rw [h.len]; exact hl)]; rfl
    generalize far.getD k 0 = a at *
    generalize far.getD l 0 = u at *
    have hlk : l ≠ k := fun e => by subst e; rw [gk] at gl; cases gl; omega
    have hlt : l ≠ to := fun e => by subst e; rw [h.one] at gl; cases gl; omega
    refine ⟨⟨by simp [h.len], ?_, fun x v hx hv => ?_, fun x v hx hv => ?_⟩, ?_⟩
    · rw [List.getElem?_set_ne hlt]; exact h.one
    · have keep : ∀ y w v0, far[y]? = some w → 0 < w → w < v0 → ∃ w', (far.set l (a + 1))[y]? = some w' ∧ 0 < w' ∧ w' < v0 := fun y w v0 hy h1 h2 => by
        by_cases e : l = y
        · subst e
          rw [gl] at hy; cases hy
          exact ⟨a + 1, by rw [List.getElem?_set]; simp [h.len, hl], by omega, by omega⟩
        · exact ⟨w, by rw [List.getElem?_set_ne e]; exact hy, h1, h2⟩
      by_cases e : l = x
      · subst e
        rw [List.getElem?_set] at hx
        simp [h.len, hl] at hx
        subst hx
        obtain ⟨w', k1, k2, k3⟩ := keep k a (a + 1) gk hb1 (by omega)
        exact .inr ⟨k, w', he, k1, k2, k3⟩
      · rw [List.getElem?_set_ne e] at hx
        rcases h.sup x v hx hv with k0 | ⟨y, w, k1, k2, k3, k4⟩
        · exact .inl k0
        · obtain ⟨w', q1, q2, q3⟩ := keep y w v k2 k3 k4
          exact .inr ⟨y, w', k1, q1, q2, q3⟩
    · have hc := cnt_set gl (v := a + 1) v
      by_cases e : l = x
      · subst e
        rw [List.getElem?_set] at hx
        simp [h.len, hl] at hx
        subst hx
        have h1 := h.num k a gk hb1
        have h2 : cnt far a ≤ cnt far (a + 1) := List.countP_mono_left fun y _ hy => by simp only [decide_eq_true_eq] at hy ⊢; omega
        have h3 : ¬ (0 < u ∧ u ≤ a + 1) := by omega
        rw [if_neg h3] at hc
        simp at hc
        omega
      · rw [List.getElem?_set_ne e] at hx
        have h1 := h.num x v hx hv
        by_cases hvu : 0 < u ∧ u ≤ v
        · rw [if_pos hvu, if_pos (by omega)] at hc; omega
        · rw [if_neg hvu] at hc; omega
    · have hz := zeros_set gl (v := a + 1)
      have hs := sum_set gl (v := a + 1)
      unfold less
      rcases hb2 with e | e
      · rw [if_pos e] at hz; simp at hz; left; omega
      · rw [if_neg (by omega)] at hz; simp at hz; right; omega
def stable (far : List Nat) (rules : List GRule) : Prop := ∀ r ∈ rules, better far r = false
theorem Far.path {rules : List GRule} {n to : Nat} {far : List Nat} (h : Far rules n to far) : ∀ (v x : Nat), far[x]? = some v → 0 < v → Path rules x to := by
  intro v
  induction v using Nat.strongRecOn with
  | ind v ih =>
    intro x hx hv
    rcases h.sup x v hx hv with rfl | ⟨y, w, h1, h2, h3, h4⟩
    · exact .refl _
    · exact .step h1 (ih w h4 y h2 h3)
theorem stable_edge {rules : List GRule} {far : List Nat} (hs : stable far rules) {x y : Nat} (e : Edge rules x y) (hy : 0 < far.getD y 0) : 0 < far.getD x 0 ∧ far.getD x 0 ≤ far.getD y 0 + 1 := by
  obtain ⟨r, h1, h2, h3⟩ := e
  have := hs r h1
  unfold better at this
  rw [h3, h2] at this
  simp only [Int.toNat_natCast, Bool.and_eq_false_iff, Bool.or_eq_false_iff, decide_eq_false_iff_not] at this
  omega
theorem stable_path {rules : List GRule} {n to : Nat} {far : List Nat} (h : Far rules n to far) (hs : stable far rules) {x : Nat} (p : Path rules x to) : 0 < far.getD x 0 := by
  induction p with
  | refl x => rw [List.getD_eq_getElem?_getD, h.one]; simp
  | step e _ ih => exact (stable_edge hs e (ih h)).1
/-- Where it is settled, the next rule of a chain is there. -/
theorem next_rule {rules : List GRule} {n to : Nat} {far : List Nat} (h : Far rules n to far) (hs : stable far rules) {x : Nat} (hx : x ≠ to) (hp : 0 < far.getD x 0) : ∃ y, Edge rules x y ∧ far.getD y 0 + 1 = far.getD x 0 ∧ 0 < far.getD y 0 := by
  have gx : far[x]? = some (far.getD x 0) := by
    rw [List.getD_eq_getElem?_getD] at hp ⊢
    cases hg : far[x]? with
    | none => rw [hg] at hp; simp at hp
    | some v => rfl
  rcases h.sup x _ gx hp with e | ⟨y, w, h1, h2, h3, h4⟩
  · exact absurd e hx
  · have gy : far.getD y 0 = w := by rw [List.getD_eq_getElem?_getD, h2]; rfl
    have := stable_edge hs h1 (by rw [gy]; exact h3)
    exact ⟨y, h1, by omega, by omega⟩
end Go.Vm.Ch
/- Sets of what stands above, closed; the law of chains; no program in sight. -/
namespace Go.Vm.Ch
open Go.Vm
abbrev B64 := BitVec 64
structure Up (rules : List GRule) (n : Nat) (up : List B64) : Prop where
  len : up.length = n
  self : ∀ y, y < n → (up.getD y 0).getLsbD y = true
  path : ∀ x y, y < n → (up.getD y 0).getLsbD x = true → Path rules x y
def wider (up : List B64) (r : GRule) : Bool := match ren r with
  | some m => decide (up.getD r.left.toNat 0 &&& ~~~ up.getD m.toNat 0 ≠ 0)
  | none => false
def widen (up : List B64) (r : GRule) : List B64 := match ren r with
  | some m => up.set m.toNat (up.getD m.toNat 0 ||| up.getD r.left.toNat 0)
  | none => up
def room (up : List B64) : Nat := (up.map fun x => 2 ^ 64 - x.toNat).sum
theorem room_set {up : List B64} {l : Nat} {u v : B64} (hl : up[l]? = some u) : room (up.set l v) + (2 ^ 64 - u.toNat) = room up + (2 ^ 64 - v.toNat) := by
  unfold room
  induction up generalizing l with
  | nil => simp at hl
  | cons a up ih =>
    cases l with
    | zero =>
      simp only [List.getElem?_cons_zero, Option.some.injEq] at hl
      subst hl
      simp only [List.set_cons_zero, List.map_cons, List.sum_cons]
      omega
    | succ l =>
      simp only [List.getElem?_cons_succ] at hl
      simp only [List.set_cons_succ, List.map_cons, List.sum_cons]
      have := ih hl
      omega
theorem or_gt {a b : B64} (h : b &&& ~~~ a ≠ 0) : a.toNat < (a ||| b).toNat := by
  have h1 : a.toNat ≤ (a ||| b).toNat := by rw [BitVec.toNat_or]; exact Nat.left_le_or
  rcases Nat.lt_or_ge a.toNat (a ||| b).toNat with h2 | h2
  · exact h2
  · exfalso
    apply h
    have e : a ||| b = a := BitVec.eq_of_toNat_eq (by omega)
    have : (a ||| b) &&& ~~~ a = b &&& ~~~ a := by
      ext i hi
      simp only [BitVec.getElem_and, BitVec.getElem_or, BitVec.getElem_not]
      cases a[i] <;> cases b[i] <;> rfl
    rw [← this, e]
    ext i
    simp
theorem Up.widen {rules : List GRule} {n : Nat} {up : List B64} (h : Up rules n up) (hB : InB n rules) {r : GRule} (hr : r ∈ rules) (hb : wider up r = true) : Up rules n (widen up r) ∧ room (widen up r) < room up := by
  unfold wider at hb
  unfold Ch.widen
  cases hm : ren r with
  | none => rw [hm] at hb; cases hb
  | some m =>
    rw [hm] at hb
    dsimp only at hb ⊢
    obtain ⟨he, hl, hmn, hm0, hl0⟩ := ren_edge hB hr hm
    simp only [decide_eq_true_eq] at hb
    generalize r.left.toNat = l at *
    generalize m.toNat = k at *
    have gk : up[k]? = some (up.getD k 0) := by rw [List.getD_eq_getElem?_getD, List.getElem?_eq_getElem (by rw [h.len]; exact hmn)]; rfl
    have hset : ∀ y, (up.set k (up.getD k 0 ||| up.getD l 0)).getD y 0 = if k = y then up.getD k 0 ||| up.getD l 0 else up.getD y 0 := fun y => by
      rw [List.getD_eq_getElem?_getD, List.getElem?_set]
      by_cases e : k = y
      · subst e; simp [h.len, hmn]
      · simp [e, List.getD_eq_getElem?_getD]
    refine ⟨⟨by simp [h.len], fun y hy => ?_, fun x y hy hx => ?_⟩, ?_⟩
    · rw [hset]
      split
      · rename_i e; subst e; rw [BitVec.getLsbD_or, h.self k hy]; rfl
      · exact h.self y hy
    · rw [hset] at hx
      split at hx
      · rename_i e
        subst e
        rw [BitVec.getLsbD_or, Bool.or_eq_true] at hx
        rcases hx with hx | hx
        · exact h.path x k hy hx
        · exact (h.path x l hl hx).snoc he
      · exact h.path x y hy hx
    · have := room_set (v := up.getD k 0 ||| up.getD l 0) gk
      have h2 := or_gt hb
      have h3 : (up.getD k 0 ||| up.getD l 0).toNat < 2 ^ 64 := BitVec.isLt _
      omega
def closed (up : List B64) (rules : List GRule) : Prop := ∀ r ∈ rules, wider up r = false
theorem closed_bit {rules : List GRule} {up : List B64} (hc : closed up rules) {x y : Nat} (p : Path rules x y) : ∀ z, (up.getD x 0).getLsbD z = true → (up.getD y 0).getLsbD z = true := by
  induction p with
  | refl x => exact fun z h => h
  | @step x y z e _ ih =>
    intro i hi
    refine ih i ?_
    obtain ⟨r, h1, h2, h3⟩ := e
    have := hc r h1
    unfold wider at this
    rw [h3, h2] at this
    simp only [Int.toNat_natCast, decide_eq_false_iff_not, ne_eq, Decidable.not_not] at this
    have hi64 : i < 64 := by
      rcases Nat.lt_or_ge i 64 with h | h
      · exact h
      · rw [BitVec.getLsbD_of_ge _ _ h] at hi; cases hi
    have hb := congrArg (fun v : B64 => v.getLsbD i) this
    simp only [BitVec.getLsbD_and, BitVec.getLsbD_not, hi, hi64, decide_true, Bool.true_and] at hb
    simpa using hb
theorem Up.iff {rules : List GRule} {n : Nat} {up : List B64} (h : Up rules n up) (hc : closed up rules) {x y : Nat} (hx : x < n) (hy : y < n) : (up.getD y 0).getLsbD x = true ↔ Path rules x y :=
  ⟨h.path x y hy, fun p => closed_bit hc p x (h.self x hx)⟩
theorem Up.init (rules : List GRule) {n : Nat} (hn : n ≤ 64) : Up rules n ((List.range n).map fun i => (1 : B64) <<< i) := by
  have hg : ∀ y, y < n → ((List.range n).map fun i => (1 : B64) <<< i).getD y 0 = (1 : B64) <<< y := fun y hy => by
    rw [List.getD_eq_getElem?_getD, List.getElem?_map, List.getElem?_range hy]; rfl
  refine ⟨by simp, fun y hy => ?_, fun x y hy hx => ?_⟩
  · rw [hg y hy, BitVec.getLsbD_shiftLeft]
    simp
    omega
  · rw [hg y hy, BitVec.getLsbD_shiftLeft] at hx
    simp at hx
    have : x = y := by omega
    subst this
    exact .refl _

/-- Where a list of rules' numbers leads. -/
def leads (rules : List GRule) : Nat → List Int → Option Nat
  | x, [] => some x
  | x, i :: l => if 0 ≤ i then (match rules[i.toNat]? with
    | some r => if r.left = (x : Int) then (match ren r with | some m => leads rules m.toNat l | none => none) else none
    | none => none) else none
theorem leads_snoc {rules : List GRule} {i : Nat} {r : GRule} {y z : Nat} (hr : rules[i]? = some r) (hl : r.left = (y : Int)) (hm : ren r = some (z : Int)) : ∀ (l : List Int) (x : Nat), leads rules x l = some y → leads rules x (l ++ [(i : Int)]) = some z
  | [], x, h => by
    cases h
    simp [leads, hr, hl, hm]
  | j :: l, x, h => by
    rw [List.cons_append]
    unfold leads at h ⊢
    by_cases hj : 0 ≤ j
    · rw [if_pos hj] at h ⊢
      cases hr' : rules[j.toNat]? with
      | none => rw [hr'] at h; cases h
      | some r' =>
        rw [hr'] at h
        dsimp only at h ⊢
        by_cases hl' : r'.left = (x : Int)
        · rw [if_pos hl'] at h ⊢
          cases hm' : ren r' with
          | none => rw [hm'] at h; cases h
          | some m => rw [hm'] at h; exact leads_snoc hr hl hm l _ h
        · rw [if_neg hl'] at h; cases h
    · rw [if_neg hj] at h; cases h
end Go.Vm.Ch
