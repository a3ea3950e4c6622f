/- Chains of renamings: relaxing to the end, closing sets; no program in sight. -/
import Derived.Test.YthebkalnpmkkpaaGreatDoorWpUtil
set_option linter.unusedVariables false
set_option linter.unusedSimpArgs false
namespace Go.Vm.Ch
open Go.Vm

/-- The nonterminal that a rule renames to. -/
def ren (r : GRule) : Option Int := match r.right with | [s] => if s < 0 then some (-1 - s) else none | _ => none
/-- A rule leads from x to y. -/
def Edge (rules : List GRule) (x y : Nat) : Prop := ∃ r ∈ rules, r.left = (x : Int) ∧ ren r = some (y : Int)
inductive Path (rules : List GRule) : Nat → Nat → Prop where
  | refl (x : Nat) : Path rules x x
  | step {x y z : Nat} (h : Edge rules x y) (p : Path rules y z) : Path rules x z
theorem Path.snoc {rules : List GRule} {x y z : Nat} (p : Path rules x y) (h : Edge rules y z) : Path rules x z := by
  induction p with
  | refl x => exact .step h (.refl _)
  | step e _ ih => exact .step e (ih h)

/-- Rules whose numbers are within bounds. -/
def InB (n : Nat) (rules : List GRule) : Prop := ∀ r ∈ rules, (0 ≤ r.left ∧ r.left < n) ∧ ∀ s ∈ r.right, -(n : Int) ≤ s
theorem InB.edge {n : Nat} {rules : List GRule} (h : InB n rules) {x y : Nat} (e : Edge rules x y) : x < n ∧ y < n := by
  obtain ⟨r, h1, h2, h3⟩ := e
  obtain ⟨⟨a, b⟩, c⟩ := h r h1
  refine ⟨by omega, ?_⟩
  unfold ren at h3
  split at h3
  · rename_i s hs
    split at h3
    · rename_i hneg
      have := c s (by rw [hs]; simp)
      simp only [Option.some.injEq] at h3
      omega
    · cases h3
  · cases h3

/-! ### Far -/
def cnt (far : List Nat) (v : Nat) : Nat := far.countP fun y => decide (0 < y ∧ y ≤ v)
structure Far (rules : List GRule) (n to : Nat) (far : List Nat) : Prop where
  len : far.length = n
  one : far[to]? = some 1
  sup : ∀ x v, far[x]? = some v → 0 < v → x = to ∨ ∃ y w, Edge rules x y ∧ far[y]? = some w ∧ 0 < w ∧ w < v
  num : ∀ (x : Nat) v, far[x]? = some v → 0 < v → v ≤ cnt far v
theorem Far.le {rules : List GRule} {n to : Nat} {far : List Nat} (h : Far rules n to far) {x v : Nat} (hx : far[x]? = some v) : v ≤ n := by
  rcases Nat.eq_zero_or_pos v with h0 | h0
  · omega
  · have h1 := h.num x v hx h0
    have h2 : cnt far v ≤ far.length := List.countP_le_length
    rw [h.len] at h2
    omega
theorem cnt_set {far : List Nat} {l u v : Nat} (hl : far[l]? = some u) (w : Nat) : cnt (far.set l v) w + (if 0 < u ∧ u ≤ w then 1 else 0) = cnt far w + (if 0 < v ∧ v ≤ w then 1 else 0) := by
  unfold cnt
  induction far generalizing l with
  | nil => simp at hl
  | cons a far ih =>
    cases l with
    | zero =>
      simp only [List.getElem?_cons_zero, Option.some.injEq] at hl
      subst hl
      simp only [List.set_cons_zero, List.countP_cons, decide_eq_true_eq]
      omega
    | succ l =>
      simp only [List.getElem?_cons_succ] at hl
      simp only [List.set_cons_succ, List.countP_cons]
      have := ih hl
      omega
theorem Far.init {rules : List GRule} {n to : Nat} (h : to < n) : Far rules n to ((List.replicate n 0).set to 1) := by
  have hg : ∀ x v, ((List.replicate n 0).set to 1)[x]? = some v → 0 < v → x = to ∧ v = 1 := fun x v hx hv => by
    rw [List.getElem?_set] at hx
    split at hx
    · rename_i e
      split at hx
      · cases hx; exact ⟨e.symm, rfl⟩
      · cases hx
    · rw [List.getElem?_replicate] at hx
      split at hx
      · cases hx; omega
      · cases hx
  refine ⟨by simp, ?_, fun x v hx hv => .inl (hg x v hx hv).1, fun x v hx hv => ?_⟩
  · rw [List.getElem?_set]; simp [h]
  · obtain ⟨rfl, rfl⟩ := hg x v hx hv
    have := cnt_set (far := List.replicate n 0) (l := x) (u := 0) (v := 1) (by rw [List.getElem?_replicate, if_pos h]) 1
    simp at this
    omega
/-- A rule would improve. -/
def better (far : List Nat) (r : GRule) : Bool := match ren r with
  | some m => decide (0 < far.getD m.toNat 0) && (decide (far.getD r.left.toNat 0 = 0) || decide (far.getD m.toNat 0 + 1 < far.getD r.left.toNat 0))
  | none => false
def relax (far : List Nat) (r : GRule) : List Nat := match ren r with | some m => far.set r.left.toNat (far.getD m.toNat 0 + 1) | none => far
/-- What is left to do: the places not come to, the sum. -/
def zeros (far : List Nat) : Nat := far.countP fun y => decide (y = 0)
def less (a b : List Nat) : Prop := zeros a < zeros b ∨ (zeros a = zeros b ∧ a.sum < b.sum)
theorem zeros_set {far : List Nat} {l u v : Nat} (hl : far[l]? = some u) : zeros (far.set l v) + (if u = 0 then 1 else 0) = zeros far + (if v = 0 then 1 else 0) := by
  unfold zeros
  induction far generalizing l with
  | nil => simp at hl
  | cons a far ih =>
    cases l with
    | zero =>
      simp only [List.getElem?_cons_zero, Option.some.injEq] at hl
      subst hl
      simp only [List.set_cons_zero, List.countP_cons, decide_eq_true_eq]
      omega
    | succ l =>
      simp only [List.getElem?_cons_succ] at hl
      simp only [List.set_cons_succ, List.countP_cons]
      have := ih hl
      omega
theorem sum_set {far : List Nat} {l u v : Nat} (hl : far[l]? = some u) : (far.set l v).sum + u = far.sum + v := by
  induction far generalizing l with
  | nil => simp at hl
  | cons a far ih =>
    cases l with
    | zero =>
      simp only [List.getElem?_cons_zero, Option.some.injEq] at hl
      subst hl
      simp only [List.set_cons_zero, List.sum_cons]
      omega
    | succ l =>
      simp only [List.getElem?_cons_succ] at hl
      simp only [List.set_cons_succ, List.sum_cons]
      have := ih hl
      omega
theorem ren_edge {n : Nat} {rules : List GRule} (hB : InB n rules) {r : GRule} (hr : r ∈ rules) {m : Int} (hm : ren r = some m) : Edge rules r.left.toNat m.toNat ∧ r.left.toNat < n ∧ m.toNat < n ∧ 0 ≤ m ∧ 0 ≤ r.left := by
  obtain ⟨⟨a, b⟩, c⟩ := hB r hr
  have hm0 : 0 ≤ m := by
    unfold ren at hm
    split at hm
    · split at hm
      · cases hm; omega
      · cases hm
    · cases hm
  have he : Edge rules r.left.toNat m.toNat := ⟨r, hr, by omega, by rw [hm]; congr 1; omega⟩
  exact ⟨he, (hB.edge he).1, (hB.edge he).2, hm0, a⟩
theorem Far.relax {rules : List GRule} {n to : Nat} {far : List Nat} (h : Far rules n to far) (hB : InB n rules) {r : GRule} (hr : r ∈ rules) (hb : better far r = true) : Far rules n to (relax far r) ∧ less (relax far r) far := by
  unfold better at hb
  unfold Ch.relax
  cases hm : ren r with
  | none => rw [hm] at hb; cases hb
  | some m =>
    rw [hm] at hb
    dsimp only at hb ⊢
    obtain ⟨he, hl, hmn, hm0, hl0⟩ := ren_edge hB hr hm
    simp only [Bool.and_eq_true, Bool.or_eq_true, decide_eq_true_eq] at hb
    obtain ⟨hb1, hb2⟩ := hb
    generalize r.left.toNat = l at *
    generalize m.toNat = k at *
    have gk : far[k]? = some (far.getD k 0) := by rw [List.getD_eq_getElem?_getD, List.getElem?_eq_getElem (by rw [h.len]; exact hmn)]; rfl
    have gl : far[l]? = some (far.getD l 0) := by rw [List.getD_eq_getElem?_getD, List.getElem?_eq_getElem (by rw [h.len]; exact hl)]; rfl
    generalize far.getD k 0 = a at *
    generalize far.getD l 0 = u at *
    have hlk : l ≠ k := fun e => by subst e; rw [gk] at gl; cases gl; omega
    have hlt : l ≠ to := fun e => by subst e; rw [h.one] at gl; cases gl; omega
    refine ⟨⟨by simp [h.len], ?_, fun x v hx hv => ?_, fun x v hx hv => ?_⟩, ?_⟩
    · rw [List.getElem?_set_ne hlt]; exact h.one
    · have keep : ∀ y w v0, far[y]? = some w → 0 < w → w < v0 → ∃ w', (far.set l (a + 1))[y]? = some w' ∧ 0 < w' ∧ w' < v0 := fun y w v0 hy h1 h2 => by
        by_cases e : l = y
        · subst e
          rw [gl] at hy; cases hy
          exact ⟨a + 1, by rw [List.getElem?_set]; simp [h.len, hl], by omega, by omega⟩
        · exact ⟨w, by rw [List.getElem?_set_ne e]; exact hy, h1, h2⟩
      by_cases e : l = x
      · subst e
        rw [List.getElem?_set] at hx
        simp [h.len, hl] at hx
        subst hx
        obtain ⟨w', k1, k2, k3⟩ := keep k a (a + 1) gk hb1 (by omega)
        exact .inr ⟨k, w', he, k1, k2, k3⟩
      · rw [List.getElem?_set_ne e] at hx
        rcases h.sup x v hx hv with k0 | ⟨y, w, k1, k2, k3, k4⟩
        · exact .inl k0
        · obtain ⟨w', q1, q2, q3⟩ := keep y w v k2 k3 k4
          exact .inr ⟨y, w', k1, q1, q2, q3⟩
    · have hc := cnt_set gl (v := a + 1) v
      by_cases e : l = x
      · subst e
        rw [List.getElem?_set] at hx
        simp [h.len, hl] at hx
        subst hx
        have h1 := h.num k a gk hb1
        have h2 : cnt far a ≤ cnt far (a + 1) := List.countP_mono_left fun y _ hy => by simp only [decide_eq_true_eq] at hy ⊢; omega
        have h3 : ¬ (0 < u ∧ u ≤ a + 1) := by omega
        rw [if_neg h3] at hc
        simp at hc
        omega
      · rw [List.getElem?_set_ne e] at hx
        have h1 := h.num x v hx hv
        by_cases hvu : 0 < u ∧ u ≤ v
        · rw [if_pos hvu, if_pos (by omega)] at hc; omega
        · rw [if_neg hvu] at hc; omega
    · have hz := zeros_set gl (v := a + 1)
      have hs := sum_set gl (v := a + 1)
      unfold less
      rcases hb2 with e | e
      · rw [if_pos e] at hz; simp at hz; left; omega
      · rw [if_neg (by omega)] at hz; simp at hz; right; omega
def stable (far : List Nat) (rules : List GRule) : Prop := ∀ r ∈ rules, better far r = false
theorem Far.path {rules : List GRule} {n to : Nat} {far : List Nat} (h : Far rules n to far) : ∀ (v x : Nat), far[x]? = some v → 0 < v → Path rules x to := by
  intro v
  induction v using Nat.strongRecOn with
  | ind v ih =>
    intro x hx hv
    rcases h.sup x v hx hv with rfl | ⟨y, w, h1, h2, h3, h4⟩
    · exact .refl _
    · exact .step h1 (ih w h4 y h2 h3)
theorem stable_edge {rules : List GRule} {far : List Nat} (hs : stable far rules) {x y : Nat} (e : Edge rules x y) (hy : 0 < far.getD y 0) : 0 < far.getD x 0 ∧ far.getD x 0 ≤ far.getD y 0 + 1 := by
  obtain ⟨r, h1, h2, h3⟩ := e
  have := hs r h1
  unfold better at this
  rw [h3, h2] at this
  simp only [Int.toNat_natCast, Bool.and_eq_false_iff, Bool.or_eq_false_iff, decide_eq_false_iff_not] at this
  omega
theorem stable_path {rules : List GRule} {n to : Nat} {far : List Nat} (h : Far rules n to far) (hs : stable far rules) {x : Nat} (p : Path rules x to) : 0 < far.getD x 0 := by
  induction p with
  | refl x => rw [List.getD_eq_getElem?_getD, h.one]; simp
  | step e _ ih => exact (stable_edge hs e (ih h)).1
/-- Where it is settled, the next rule of a chain is there. -/
theorem next_rule {rules : List GRule} {n to : Nat} {far : List Nat} (h : Far rules n to far) (hs : stable far rules) {x : Nat} (hx : x ≠ to) (hp : 0 < far.getD x 0) : ∃ y, Edge rules x y ∧ far.getD y 0 + 1 = far.getD x 0 ∧ 0 < far.getD y 0 := by
  have gx : far[x]? = some (far.getD x 0) := by
    rw [List.getD_eq_getElem?_getD] at hp ⊢
    cases hg : far[x]? with
    | none => rw [hg] at hp; simp at hp
    | some v => rfl
  rcases h.sup x _ gx hp with e | ⟨y, w, h1, h2, h3, h4⟩
  · exact absurd e hx
  · have gy : far.getD y 0 = w := by rw [List.getD_eq_getElem?_getD, h2]; rfl
    have := stable_edge hs h1 (by rw [gy]; exact h3)
    exact ⟨y, h1, by omega, by omega⟩
end Go.Vm.Ch
/- Sets of what stands above, closed; the law of chains; no program in sight. -/
namespace Go.Vm.Ch
open Go.Vm
abbrev B64 := BitVec 64
structure Up (rules : List GRule) (n : Nat) (up : List B64) : Prop where
  len : up.length = n
  self : ∀ y, y < n → (up.getD y 0).getLsbD y = true
  path : ∀ x y, y < n → (up.getD y 0).getLsbD x = true → Path rules x y
def wider (up : List B64) (r : GRule) : Bool := match ren r with
  | some m => decide (up.getD r.left.toNat 0 &&& ~~~ up.getD m.toNat 0 ≠ 0)
  | none => false
def widen (up : List B64) (r : GRule) : List B64 := match ren r with
  | some m => up.set m.toNat (up.getD m.toNat 0 ||| up.getD r.left.toNat 0)
  | none => up
def room (up : List B64) : Nat := (up.map fun x => 2 ^ 64 - x.toNat).sum
theorem room_set {up : List B64} {l : Nat} {u v : B64} (hl : up[l]? = some u) : room (up.set l v) + (2 ^ 64 - u.toNat) = room up + (2 ^ 64 - v.toNat) := by
  unfold room
  induction up generalizing l with
  | nil => simp at hl
  | cons a up ih =>
    cases l with
    | zero =>
      simp only [List.getElem?_cons_zero, Option.some.injEq] at hl
      subst hl
      simp only [List.set_cons_zero, List.map_cons, List.sum_cons]
      omega
    | succ l =>
      simp only [List.getElem?_cons_succ] at hl
      simp only [List.set_cons_succ, List.map_cons, List.sum_cons]
      have := ih hl
      omega
theorem or_gt {a b : B64} (h : b &&& ~~~ a ≠ 0) : a.toNat < (a ||| b).toNat := by
  have h1 : a.toNat ≤ (a ||| b).toNat := by rw [BitVec.toNat_or]; exact Nat.left_le_or
  rcases Nat.lt_or_ge a.toNat (a ||| b).toNat with h2 | h2
  · exact h2
  · exfalso
    apply h
    have e : a ||| b = a := BitVec.eq_of_toNat_eq (by omega)
    have : (a ||| b) &&& ~~~ a = b &&& ~~~ a := by
      ext i hi
      simp only [BitVec.getElem_and, BitVec.getElem_or, BitVec.getElem_not]
      cases a[i] <;> cases b[i] <;> rfl
    rw [← this, e]
    ext i
    simp
theorem Up.widen {rules : List GRule} {n : Nat} {up : List B64} (h : Up rules n up) (hB : InB n rules) {r : GRule} (hr : r ∈ rules) (hb : wider up r = true) : Up rules n (widen up r) ∧ room (widen up r) < room up := by
  unfold wider at hb
  unfold Ch.widen
  cases hm : ren r with
  | none => rw [hm] at hb; cases hb
  | some m =>
    rw [hm] at hb
    dsimp only at hb ⊢
    obtain ⟨he, hl, hmn, hm0, hl0⟩ := ren_edge hB hr hm
    simp only [decide_eq_true_eq] at hb
    generalize r.left.toNat = l at *
    generalize m.toNat = k at *
    have gk : up[k]? = some (up.getD k 0) := by rw [List.getD_eq_getElem?_getD, List.getElem?_eq_getElem (by rw [h.len]; exact hmn)]; rfl
    have hset : ∀ y, (up.set k (up.getD k 0 ||| up.getD l 0)).getD y 0 = if k = y then up.getD k 0 ||| up.getD l 0 else up.getD y 0 := fun y => by
      rw [List.getD_eq_getElem?_getD, List.getElem?_set]
      by_cases e : k = y
      · subst e; simp [h.len, hmn]
      · simp [e, List.getD_eq_getElem?_getD]
    refine ⟨⟨by simp [h.len], fun y hy => ?_, fun x y hy hx => ?_⟩, ?_⟩
    · rw [hset]
      split
      · rename_i e; subst e; rw [BitVec.getLsbD_or, h.self k hy]; rfl
      · exact h.self y hy
    · rw [hset] at hx
      split at hx
      · rename_i e
        subst e
        rw [BitVec.getLsbD_or, Bool.or_eq_true] at hx
        rcases hx with hx | hx
        · exact h.path x k hy hx
        · exact (h.path x l hl hx).snoc he
      · exact h.path x y hy hx
    · have := room_set (v := up.getD k 0 ||| up.getD l 0) gk
      have h2 := or_gt hb
      have h3 : (up.getD k 0 ||| up.getD l 0).toNat < 2 ^ 64 := BitVec.isLt _
      omega
def closed (up : List B64) (rules : List GRule) : Prop := ∀ r ∈ rules, wider up r = false
theorem closed_bit {rules : List GRule} {up : List B64} (hc : closed up rules) {x y : Nat} (p : Path rules x y) : ∀ z, (up.getD x 0).getLsbD z = true → (up.getD y 0).getLsbD z = true := by
  induction p with
  | refl x => exact fun z h => h
  | @step x y z e _ ih =>
    intro i hi
    refine ih i ?_
    obtain ⟨r, h1, h2, h3⟩ := e
    have := hc r h1
    unfold wider at this
    rw [h3, h2] at this
    simp only [Int.toNat_natCast, decide_eq_false_iff_not, ne_eq, Decidable.not_not] at this
    have hi64 : i < 64 := by
      rcases Nat.lt_or_ge i 64 with h | h
      · exact h
      · rw [BitVec.getLsbD_of_ge _ _ h] at hi; cases hi
    have hb := congrArg (fun v : B64 => v.getLsbD i) this
    simp only [BitVec.getLsbD_and, BitVec.getLsbD_not, hi, hi64, decide_true, Bool.true_and] at hb
    simpa using hb
theorem Up.iff {rules : List GRule} {n : Nat} {up : List B64} (h : Up rules n up) (hc : closed up rules) {x y : Nat} (hx : x < n) (hy : y < n) : (up.getD y 0).getLsbD x = true ↔ Path rules x y :=
  ⟨h.path x y hy, fun p => closed_bit hc p x (h.self x hx)⟩
theorem Up.init (rules : List GRule) {n : Nat} (hn : n ≤ 64) : Up rules n ((List.range n).map fun i => (1 : B64) <<< i) := by
  have hg : ∀ y, y < n → ((List.range n).map fun i => (1 : B64) <<< i).getD y 0 = (1 : B64) <<< y := fun y hy => by
    rw [List.getD_eq_getElem?_getD, List.getElem?_map, List.getElem?_range hy]; rfl
  refine ⟨by simp, fun y hy => ?_, fun x y hy hx => ?_⟩
  · rw [hg y hy, BitVec.getLsbD_shiftLeft]
    simp
    omega
  · rw [hg y hy, BitVec.getLsbD_shiftLeft] at hx
    simp at hx
    have : x = y := by omega
    subst this
    exact .refl _

/-- Where a list of rules' numbers leads. -/
def leads (rules : List GRule) : Nat → List Int → Option Nat
  | x, [] => some x
  | x, i :: l => if 0 ≤ i then (match rules[i.toNat]? with
    | some r => if r.left = (x : Int) then (match ren r with | some m => leads rules m.toNat l | none => none) else none
    | none => none) else none
theorem leads_snoc {rules : List GRule} {i : Nat} {r : GRule} {y z : Nat} (hr : rules[i]? = some r) (hl : r.left = (y : Int)) (hm : ren r = some (z : Int)) : ∀ (l : List Int) (x : Nat), leads rules x l = some y → leads rules x (l ++ [(i : Int)]) = some z
  | [], x, h => by
    cases h
    simp [leads, hr, hl, hm]
  | j :: l, x, h => by
    rw [List.cons_append]
    unfold leads at h ⊢
    by_cases hj : 0 ≤ j
    · rw [if_pos hj] at h ⊢
      cases hr' : rules[j.toNat]? with
      | none => rw [hr'] at h; cases h
      | some r' =>
        rw [hr'] at h
        dsimp only at h ⊢
        by_cases hl' : r'.left = (x : Int)
        · rw [if_pos hl'] at h ⊢
          cases hm' : ren r' with
          | none => rw [hm'] at h; cases h
          | some m => rw [hm'] at h; exact leads_snoc hr hl hm l _ h
        · rw [if_neg hl'] at h; cases h
    · rw [if_neg hj] at h; cases h
end Go.Vm.Ch
/- The least of the shortest chains: chosen from place to place, and gone on with from ring to ring; no program in sight. -/
namespace Go.Vm.Ch
open Go.Vm
variable {rules : List GRule}
/-- The k-th rule leads from x to y. -/
def Rul (rules : List GRule) (x k y : Nat) : Prop := ∃ r, rules[k]? = some r ∧ r.left = (x : Int) ∧ ren r = some (y : Int)
theorem Rul.lt {x k y : Nat} (h : Rul rules x k y) : k < rules.length := by
  obtain ⟨r, h1, _⟩ := h
  exact (List.getElem?_eq_some_iff.1 h1).1
theorem Rul.edge {x k y : Nat} (h : Rul rules x k y) : Edge rules x y := by
  obtain ⟨r, h1, h2, h3⟩ := h
  exact ⟨r, List.mem_of_getElem? h1, h2, h3⟩
theorem Rul.det {x k y z : Nat} (h : Rul rules x k y) (h' : Rul rules x k z) : y = z := by
  obtain ⟨r, h1, _, h3⟩ := h
  obtain ⟨r', k1, _, k3⟩ := h'
  rw [h1] at k1
  cases k1
  rw [h3] at k3
  have := Option.some.inj k3
  omega
/-- A list of rules that lead from x to y. -/
def Chn (rules : List GRule) : Nat → List Nat → Nat → Prop
  | x, [], y => x = y
  | x, k :: l, y => ∃ z, Rul rules x k z ∧ Chn rules z l y
theorem Chn.app : ∀ {l m : List Nat} {x y : Nat}, Chn rules x (l ++ m) y ↔ ∃ z, Chn rules x l z ∧ Chn rules z m y
  | [], m, x, y => ⟨fun h => ⟨x, rfl, h⟩, fun ⟨z, h1, h2⟩ => by cases h1; exact h2⟩
  | k :: l, m, x, y => ⟨fun ⟨z, h1, h2⟩ => by
      obtain ⟨u, h3, h4⟩ := Chn.app.1 h2
      exact ⟨u, ⟨z, h1, h3⟩, h4⟩, fun ⟨u, ⟨z, h1, h3⟩, h4⟩ => ⟨z, h1, Chn.app.2 ⟨u, h3, h4⟩⟩⟩
theorem Chn.snoc {l : List Nat} {x y z k : Nat} (h : Chn rules x l y) (r : Rul rules y k z) : Chn rules x (l ++ [k]) z := Chn.app.2 ⟨y, h, z, r, rfl⟩
theorem Chn.unsnoc {l : List Nat} {x z k : Nat} (h : Chn rules x (l ++ [k]) z) : ∃ y, Chn rules x l y ∧ Rul rules y k z := by
  obtain ⟨y, h1, u, h2, h3⟩ := Chn.app.1 h
  cases h3
  exact ⟨y, h1, h2⟩
theorem Chn.det : ∀ {l : List Nat} {x y z : Nat}, Chn rules x l y → Chn rules x l z → y = z
  | [], x, y, z, h, h' => by cases h; exact h'
  | k :: l, x, y, z, ⟨u, h1, h2⟩, ⟨v, k1, k2⟩ => by
    obtain rfl := h1.det k1
    exact h2.det k2
theorem Chn.path : ∀ {l : List Nat} {x y : Nat}, Chn rules x l y → Path rules x y
  | [], x, y, h => by cases h; exact .refl _
  | k :: l, x, y, ⟨u, h1, h2⟩ => .step h1.edge h2.path
theorem Path.chn {x y : Nat} (p : Path rules x y) : ∃ l, Chn rules x l y := by
  induction p with
  | refl x => exact ⟨[], rfl⟩
  | step e _ ih =>
    obtain ⟨r, h1, h2, h3⟩ := e
    obtain ⟨k, hk⟩ := List.getElem?_of_mem h1
    obtain ⟨l, hl⟩ := ih
    exact ⟨k :: l, _, ⟨r, hk, h2, h3⟩, hl⟩
theorem Chn.lt : ∀ {l : List Nat} {x y : Nat}, Chn rules x l y → ∀ k ∈ l, k < rules.length
  | k :: l, x, y, ⟨u, h1, h2⟩, j, hj => by
    rcases List.mem_cons.1 hj with rfl | hj
    · exact h1.lt
    · exact h2.lt j hj
/-- Lists of one length, told in one number. -/
def val (B : Nat) (l : List Nat) : Nat := l.foldl (fun a k => a * B + k) 0
theorem val_snoc (B : Nat) (l : List Nat) (k : Nat) : val B (l ++ [k]) = val B l * B + k := by simp [val, List.foldl_append]
theorem val_lt {a b B k : Nat} (h : a < b) (hk : k < B) (j : Nat) : a * B + k < b * B + j := by
  have := Nat.mul_le_mul_right B (Nat.succ_le_of_lt h)
  rw [Nat.succ_mul] at this
  omega
theorem val_eq {a b B k j : Nat} (hk : k < B) (hj : j < B) (h : a * B + k = b * B + j) : a = b ∧ k = j := by
  rcases Nat.lt_trichotomy a b with h1 | h1 | h1
  · have := val_lt h1 hk j; omega
  · subst h1; exact ⟨rfl, by omega⟩
  · have := val_lt h1 hj k; omega
theorem val_inj {B : Nat} : ∀ (n : Nat) {l m : List Nat}, l.length = n → m.length = n → (∀ k ∈ l, k < B) → (∀ k ∈ m, k < B) → val B l = val B m → l = m
  | 0, l, m, h1, h2, _, _, _ => by rw [List.length_eq_zero_iff.1 h1, List.length_eq_zero_iff.1 h2]
  | n + 1, l, m, h1, h2, b1, b2, e => by
    rcases List.eq_nil_or_concat l with rfl | ⟨l', a, rfl⟩
    · simp at h1
    rcases List.eq_nil_or_concat m with rfl | ⟨m', b, rfl⟩
    · simp at h2
    rw [List.concat_eq_append] at *
    rw [List.concat_eq_append] at *
    rw [val_snoc, val_snoc] at e
    obtain ⟨e1, e2⟩ := val_eq (b1 a (by simp)) (b2 b (by simp)) e
    rw [val_inj n (by simpa using h1) (by simpa using h2) (fun k hk => b1 k (by simp [hk])) (fun k hk => b2 k (by simp [hk])) e1, e2]
/-- No other list of rules from x to y comes ahead. -/
structure Least (rules : List GRule) (x y : Nat) (l : List Nat) : Prop where
  chn : Chn rules x l y
  le : ∀ m, Chn rules x m y → l.length ≤ m.length ∧ (m.length = l.length → val rules.length l ≤ val rules.length m)
theorem Least.eq {x y : Nat} {l m : List Nat} (h : Least rules x y l) (h' : Least rules x y m) : l = m := by
  have h1 := h.le m h'.chn
  have h2 := h'.le l h.chn
  have e : m.length = l.length := by omega
  exact val_inj l.length rfl e h.chn.lt h'.chn.lt (Nat.le_antisymm (h1.2 e) (h2.2 e.symm))

/-! ### From place to place -/
structure Pre (rules : List GRule) (far : List Nat) (x0 y0 : Nat) (l : List Nat) (x : Nat) : Prop where
  chn : Chn rules x0 l x
  le : ∀ m, Chn rules x0 m y0 → m.length + 1 = far.getD x0 0 → val rules.length l ≤ val rules.length (m.take l.length)
theorem Pre.nil (far : List Nat) (x0 y0 : Nat) : Pre rules far x0 y0 [] x0 := ⟨rfl, fun m _ _ => by simp [val]⟩
theorem far_chn {far : List Nat} {y : Nat} (hs : stable far rules) (hy : far.getD y 0 = 1) : ∀ {l : List Nat} {x : Nat}, Chn rules x l y → 0 < far.getD x 0 ∧ far.getD x 0 ≤ l.length + 1
  | [], x, h => by cases h; rw [hy]; simp
  | k :: l, x, ⟨z, h1, h2⟩ => by
    obtain ⟨a, b⟩ := far_chn hs hy h2
    have := stable_edge hs h1.edge a
    simp only [List.length_cons]
    omega
theorem Pre.step {far : List Nat} {x0 y0 x z i : Nat} {l : List Nat} (p : Pre rules far x0 y0 l x) (hs : stable far rules) (hy : far.getD y0 0 = 1) (hl : l.length + far.getD x 0 = far.getD x0 0) (h2 : 2 ≤ far.getD x 0) (hr : Rul rules x i z)
    (hf : ∀ j y, Rul rules x j y → far.getD y 0 + 1 = far.getD x 0 → i ≤ j) : Pre rules far x0 y0 (l ++ [i]) z := by
  refine ⟨p.chn.snoc hr, fun m hm hlen => ?_⟩
  have hn : l.length < m.length := by omega
  have hk := p.le m hm hlen
  rw [List.length_append, List.length_singleton, List.take_succ_eq_append_getElem hn, val_snoc, val_snoc]
  rcases Nat.lt_or_eq_of_le hk with h | h
  · exact Nat.le_of_lt (val_lt h hr.lt _)
  · have hm2 : Chn rules x0 (m.take l.length ++ (m[l.length] :: m.drop (l.length + 1))) y0 := by
      rw [List.getElem_cons_drop, List.take_append_drop]; exact hm
    obtain ⟨u, k1, w, k2, k3⟩ := Chn.app.1 hm2
    have he : l = m.take l.length := val_inj l.length rfl (by simp; omega) p.chn.lt k1.lt h
    rw [← he] at k1
    obtain rfl := k1.det p.chn
    obtain ⟨q1, q2⟩ := far_chn hs hy k3
    have q3 := stable_edge hs k2.edge q1
    simp only [List.length_drop] at q2
    have := hf _ _ k2 (by omega)
    rw [← h]
    omega
theorem Pre.least {far : List Nat} {x0 y0 : Nat} {l : List Nat} (p : Pre rules far x0 y0 l y0) (hs : stable far rules) (hy : far.getD y0 0 = 1) (hl : l.length + far.getD y0 0 = far.getD x0 0) : Least rules x0 y0 l := by
  refine ⟨p.chn, fun m hm => ?_⟩
  obtain ⟨_, h1⟩ := far_chn hs hy hm
  refine ⟨by omega, fun e => ?_⟩
  have := p.le m hm (by omega)
  rwa [← e, List.take_length] at this

/-! ### From ring to ring -/
structure Ring (rules : List GRule) (n fr to d : Nat) (seen : List Bool) (at_ : List Nat) (ls : List (List Nat)) : Prop where
  len : ls.length = at_.length
  sl : seen.length = n
  mark : ∀ v, seen[v]? = some true ↔ ∃ l, Chn rules fr l v ∧ l.length ≤ d
  nd : at_.Nodup
  best : ∀ (i v : Nat) (l : List Nat), at_[i]? = some v → ls[i]? = some l → Chn rules fr l v ∧ l.length = d ∧ ∀ m, Chn rules fr m v → d ≤ m.length ∧ (m.length = d → val rules.length l ≤ val rules.length m)
  ex : ∀ v l, Chn rules fr l v → l.length = d → (∀ m, Chn rules fr m v → d ≤ m.length) → v ∈ at_
  ord : ∀ (i j : Nat) (l m : List Nat), i < j → ls[i]? = some l → ls[j]? = some m → val rules.length l < val rules.length m
  no : ∀ l, Chn rules fr l to → d ≤ l.length
structure Mid (rules : List GRule) (n fr d : Nat) (seen : List Bool) (at_ : List Nat) (ls : List (List Nat)) (i k : Nat) (seen' : List Bool) (nx : List Nat) (mo : List (List Nat)) : Prop where
  len : mo.length = nx.length
  sl : seen'.length = n
  mark : ∀ v, seen'[v]? = some true ↔ seen[v]? = some true ∨ v ∈ nx
  nd : nx.Nodup
  new : ∀ v ∈ nx, v < n ∧ seen[v]? ≠ some true
  is : ∀ (j v : Nat) (l : List Nat), nx[j]? = some v → mo[j]? = some l → Chn rules fr l v ∧ l.length = d + 1
  ub : ∀ (j : Nat) (l : List Nat), mo[j]? = some l → ∀ (p : List Nat), ls[i]? = some p → val rules.length l < val rules.length p * rules.length + k
  all : ∀ (p q u : Nat) (l : List Nat) (m : Nat), (p < i ∨ (p = i ∧ q < k)) → at_[p]? = some u → ls[p]? = some l → Rul rules u q m → seen[m]? ≠ some true → ∃ (j : Nat) (l' : List Nat), nx[j]? = some m ∧ mo[j]? = some l' ∧ val rules.length l' ≤ val rules.length l * rules.length + q
  ord : ∀ (i j : Nat) (l m : List Nat), i < j → mo[i]? = some l → mo[j]? = some m → val rules.length l < val rules.length m
  cnt : seen'.count false + nx.length = seen.count false
section
variable {n fr to d : Nat} {seen seen' : List Bool} {at_ nx : List Nat} {ls mo : List (List Nat)} {i k : Nat}
theorem Ring.init (hf : fr < n) : Ring rules n fr to 0 ((List.replicate n false).set fr true) [fr] [[]] := by
  refine ⟨rfl, by simp, fun v => ?_, by simp, fun i v l h1 h2 => ?_, fun v l h1 h2 _ => ?_, fun i j l m hij h1 h2 => ?_, fun l _ => Nat.zero_le _⟩
  · rw [List.getElem?_set]
    constructor
    · intro h
      split at h
      · rename_i e; subst e; exact ⟨[], rfl, Nat.le_refl _⟩
      · rw [List.getElem?_replicate] at h
        split at h <;> simp at h
    · rintro ⟨l, h1, h2⟩
      obtain rfl : l = [] := List.length_eq_zero_iff.1 (by omega)
      cases h1
      simp [hf]
  · match i, h1, h2 with
    | 0, h1, h2 =>
      cases h1
      cases h2
      exact ⟨rfl, rfl, fun m _ => ⟨Nat.zero_le _, fun _ => by simp [val]⟩⟩
    | i + 1, h1, _ => simp at h1
  · obtain rfl : l = [] := List.length_eq_zero_iff.1 h2
    cases h1
    simp
  · match j, hij, h2 with
    | j + 1, _, h2 => simp at h2
theorem Mid.init (r : Ring rules n fr to d seen at_ ls) : Mid rules n fr d seen at_ ls 0 0 seen [] [] :=
  ⟨rfl, r.sl, fun v => (by simp), (by simp), fun v h => (by cases h), fun j v l h => (by simp at h), fun j l h => (by simp at h), fun p q u l m h => (by omega), fun i j l m _ h => (by simp at h), (by simp)⟩
theorem Mid.row (s : Mid rules n fr d seen at_ ls i rules.length seen' nx mo) (r : Ring rules n fr to d seen at_ ls) : Mid rules n fr d seen at_ ls (i + 1) 0 seen' nx mo := by
  refine ⟨s.len, s.sl, s.mark, s.nd, s.new, s.is, fun j l h p hp => ?_, fun p q u l m h h1 h2 h3 h4 => ?_, s.ord, s.cnt⟩
  · have hi : i < ls.length := by have := (List.getElem?_eq_some_iff.1 hp).1; omega
    have h0 := List.getElem?_eq_getElem hi
    have h1 := s.ub j l h _ h0
    have h2 := r.ord i (i + 1) _ _ (Nat.lt_succ_self _) h0 hp
    have := Nat.mul_le_mul_right rules.length (Nat.succ_le_of_lt h2)
    rw [Nat.succ_mul] at this
    omega
  · exact s.all p q u l m (by have := h3.lt; omega) h1 h2 h3 h4
theorem Mid.skip (s : Mid rules n fr d seen at_ ls i k seen' nx mo) (hsk : ∀ u m, at_[i]? = some u → Rul rules u k m → seen'[m]? = some true) : Mid rules n fr d seen at_ ls i (k + 1) seen' nx mo := by
  refine ⟨s.len, s.sl, s.mark, s.nd, s.new, s.is, fun j l h p hp => ?_, fun p q u l m h h1 h2 h3 h4 => ?_, s.ord, s.cnt⟩
  · have := s.ub j l h p hp; omega
  · by_cases hq : p = i ∧ q = k
    · obtain ⟨rfl, rfl⟩ := hq
      rcases (s.mark m).1 (hsk u m h1 h3) with h5 | h5
      · exact absurd h5 h4
      · obtain ⟨j, hj⟩ := List.getElem?_of_mem h5
        have hjl : j < mo.length := by rw [s.len]; exact (List.getElem?_eq_some_iff.1 hj).1
        exact ⟨j, mo[j], hj, List.getElem?_eq_getElem hjl, Nat.le_of_lt (s.ub j _ (List.getElem?_eq_getElem hjl) l h2)⟩
    · exact s.all p q u l m (by omega) h1 h2 h3 h4
theorem count_set {l : List Bool} {m : Nat} (h : l[m]? = some false) : (l.set m true).count false + 1 = l.count false := by
  induction l generalizing m with
  | nil => simp at h
  | cons a l ih =>
    cases m with
    | zero =>
      simp only [List.getElem?_cons_zero, Option.some.injEq] at h
      subst h
      simp
    | succ m =>
      simp only [List.getElem?_cons_succ] at h
      have := ih h
      simp only [List.set_cons_succ, List.count_cons]
      omega
theorem at_snoc {α : Type} {l : List α} {x y : α} {j : Nat} (h : (l ++ [x])[j]? = some y) : l[j]? = some y ∨ (j = l.length ∧ y = x) := by
  rcases Nat.lt_trichotomy j l.length with h1 | h1 | h1
  · rw [List.getElem?_append_left h1] at h; exact .inl h
  · subst h1; simp at h; exact .inr ⟨rfl, h.symm⟩
  · rw [List.getElem?_append_right (by omega), List.getElem?_eq_none (by simp; omega)] at h; cases h
theorem Mid.take (s : Mid rules n fr d seen at_ ls i k seen' nx mo) (r : Ring rules n fr to d seen at_ ls) {u m : Nat} {l : List Nat} (h1 : at_[i]? = some u) (h2 : ls[i]? = some l) (h3 : Rul rules u k m) (hm : m < n) (h4 : seen'[m]? ≠ some true) :
    Mid rules n fr d seen at_ ls i (k + 1) (seen'.set m true) (nx ++ [m]) (mo ++ [l ++ [k]]) := by
  have hml : m < seen'.length := by rw [s.sl]; exact hm
  have h4' : seen'[m]? = some false := by
    rw [List.getElem?_eq_getElem hml] at h4 ⊢
    cases hb : seen'[m] with
    | true => rw [hb] at h4; exact absurd rfl h4
    | false => rfl
  have hnot : m ∉ nx := fun h => h4 ((s.mark m).2 (.inr h))
  have hnot2 : seen[m]? ≠ some true := fun h => h4 ((s.mark m).2 (.inl h))
  obtain ⟨b1, b2, _⟩ := r.best i u l h1 h2
  have key : ∀ j p, mo[j]? = some p → val rules.length p < val rules.length (l ++ [k]) := fun j p hp => by rw [val_snoc]; exact s.ub j p hp l h2
  refine ⟨by simp [s.len], by simp [s.sl], fun v => ?_, ?_, fun v hv => ?_, fun j v p e1 e2 => ?_, fun j p hp p' hp' => ?_, fun p q u' l' m' h e1 e2 e3 e4 => ?_, fun i' j' l' m' hij e1 e2 => ?_, ?_⟩
  · rw [List.getElem?_set, List.mem_append, List.mem_singleton]
    by_cases e : m = v
    · subst e; simp [hml]
    · rw [if_neg e, s.mark]
      constructor
      · rintro (h | h)
        · exact .inl h
        · exact .inr (.inl h)
      · rintro (h | h | h)
        · exact .inl h
        · exact .inr h
        · exact absurd h.symm e
  · rw [List.nodup_append]
    exact ⟨s.nd, by simp, fun a ha b hb => by rw [List.mem_singleton.1 hb]; exact fun e => hnot (e ▸ ha)⟩
  · rcases List.mem_append.1 hv with h | h
    · exact s.new v h
    · rw [List.mem_singleton.1 h]; exact ⟨hm, hnot2⟩
  · rcases at_snoc e2 with h | ⟨h, rfl⟩
    · have hj := (List.getElem?_eq_some_iff.1 h).1
      rcases at_snoc e1 with h' | ⟨h', _⟩
      · exact s.is j v p h' h
      · rw [s.len] at hj; omega
    · rcases at_snoc e1 with h' | ⟨_, rfl⟩
      · have hj := (List.getElem?_eq_some_iff.1 h').1
        rw [s.len] at h; omega
      · exact ⟨b1.snoc h3, by simp [b2]⟩
  · obtain rfl : l = p' := by rw [h2] at hp'; exact Option.some.inj hp'
    rcases at_snoc hp with h | ⟨_, rfl⟩
    · have := s.ub j p h l h2; omega
    · rw [val_snoc]; omega
  · by_cases hq : p = i ∧ q = k
    · obtain ⟨rfl, rfl⟩ := hq
      obtain rfl : u = u' := by rw [h1] at e1; exact Option.some.inj e1
      obtain rfl : l = l' := by rw [h2] at e2; exact Option.some.inj e2
      obtain rfl := h3.det e3
      exact ⟨nx.length, l ++ [q], by simp, by rw [← s.len]; simp, by rw [val_snoc]; exact Nat.le_refl _⟩
    · obtain ⟨j, l2, f1, f2, f3⟩ := s.all p q u' l' m' (by omega) e1 e2 e3 e4
      exact ⟨j, l2, by rw [List.getElem?_append_left (List.getElem?_eq_some_iff.1 f1).1]; exact f1, by rw [List.getElem?_append_left (List.getElem?_eq_some_iff.1 f2).1]; exact f2, f3⟩
  · rcases at_snoc e2 with h | ⟨h, rfl⟩
    · rcases at_snoc e1 with h' | ⟨h', _⟩
      · exact s.ord i' j' l' m' hij h' h
      · have := (List.getElem?_eq_some_iff.1 h).1; omega
    · rcases at_snoc e1 with h' | ⟨h', _⟩
      · exact key _ _ h'
      · omega
  · have := count_set h4'
    have := s.cnt
    simp only [List.length_append, List.length_singleton]
    omega
theorem Ring.next (r : Ring rules n fr to d seen at_ ls) (s : Mid rules n fr d seen at_ ls at_.length 0 seen' nx mo) (hto : to ∉ at_) : Ring rules n fr to (d + 1) seen' nx mo := by
  have far1 : ∀ v ∈ nx, ∀ m, Chn rules fr m v → d + 1 ≤ m.length := fun v hv m hm => by
    rcases Nat.lt_or_ge d m.length with h | h
    · exact h
    · exact absurd ((r.mark v).2 ⟨m, hm, h⟩) (s.new v hv).2
  have find : ∀ v l, Chn rules fr l v → l.length = d + 1 → (∀ m, Chn rules fr m v → d + 1 ≤ m.length) → ∃ j l', nx[j]? = some v ∧ mo[j]? = some l' ∧ val rules.length l' ≤ val rules.length l := fun v l hl hlen hmin => by
    rcases List.eq_nil_or_concat l with rfl | ⟨l', k, rfl⟩
    · simp at hlen
    rw [List.concat_eq_append] at *
    obtain ⟨u, c1, c2⟩ := hl.unsnoc
    have hlen' : l'.length = d := by simpa using hlen
    have hu : u ∈ at_ := r.ex u l' c1 hlen' fun m hm => by
      have := hmin _ (hm.snoc c2)
      simp at this
      exact this
    obtain ⟨p, hp⟩ := List.getElem?_of_mem hu
    have hpl := (List.getElem?_eq_some_iff.1 hp).1
    have hp2 : ls[p]? = some (ls[p]'(by rw [r.len]; exact hpl)) := List.getElem?_eq_getElem _
    obtain ⟨_, _, c3⟩ := r.best p u _ hp hp2
    have c4 := (c3 l' c1).2 hlen'
    obtain ⟨j, l2, f1, f2, f3⟩ := s.all p k u _ v (.inl hpl) hp hp2 c2 fun h => by
      obtain ⟨m, m1, m2⟩ := (r.mark v).1 h
      have := hmin m m1
      omega
    refine ⟨j, l2, f1, f2, Nat.le_trans f3 ?_⟩
    rw [val_snoc]
    exact Nat.add_le_add_right (Nat.mul_le_mul_right _ c4) _
  refine ⟨s.len, s.sl, fun v => ?_, s.nd, fun j v l h1 h2 => ?_, fun v l h1 h2 h3 => ?_, s.ord, fun l hl => ?_⟩
  · rw [s.mark, r.mark]
    constructor
    · rintro (⟨l, h1, h2⟩ | h)
      · exact ⟨l, h1, by omega⟩
      · obtain ⟨j, hj⟩ := List.getElem?_of_mem h
        have hjl : j < mo.length := by rw [s.len]; exact (List.getElem?_eq_some_iff.1 hj).1
        obtain ⟨c1, c2⟩ := s.is j v _ hj (List.getElem?_eq_getElem hjl)
        exact ⟨_, c1, by omega⟩
    · rintro ⟨l, h1, h2⟩
      by_cases hd : ∃ m, Chn rules fr m v ∧ m.length ≤ d
      · exact .inl hd
      · have hmin : ∀ m, Chn rules fr m v → d + 1 ≤ m.length := fun m hm => by
          rcases Nat.lt_or_ge d m.length with h | h
          · exact h
          · exact absurd ⟨m, hm, h⟩ hd
        obtain ⟨j, l', f1, _, _⟩ := find v l h1 (by have := hmin l h1; omega) hmin
        exact .inr (List.mem_of_getElem? f1)
  · obtain ⟨c1, c2⟩ := s.is j v l h1 h2
    have hv := List.mem_of_getElem? h1
    refine ⟨c1, c2, fun m hm => ⟨far1 v hv m hm, fun hml => ?_⟩⟩
    obtain ⟨j', l', f1, f2, f3⟩ := find v m hm hml (far1 v hv)
    have hj := (List.getElem?_eq_some_iff.1 h1).1
    have : j = j' := by
      apply (List.getElem?_inj hj s.nd).1
      rw [h1, f1]
    subst this
    obtain rfl : l = l' := by rw [h2] at f2; exact Option.some.inj f2
    exact f3
  · obtain ⟨j, l', f1, _, _⟩ := find v l h1 h2 h3
    exact List.mem_of_getElem? f1
  · have h0 := r.no l hl
    rcases Nat.lt_or_eq_of_le h0 with h | h
    · exact h
    · exact absurd (r.ex to l hl h.symm r.no) hto
theorem Ring.found (r : Ring rules n fr to d seen at_ ls) {l : List Nat} (h1 : at_[i]? = some to) (h2 : ls[i]? = some l) : Least rules fr to l := by
  obtain ⟨c1, c2, c3⟩ := r.best i to l h1 h2
  exact ⟨c1, fun m hm => by rw [c2]; exact c3 m hm⟩
theorem Ring.none (r : Ring rules n fr to d seen [] []) : ∀ l, ¬ Chn rules fr l to := by
  have key : ∀ (k : Nat) l, l.length = k → ¬ Chn rules fr l to := fun k => by
    induction k using Nat.strongRecOn with
    | ind k ih =>
      intro l hk hl
      have h0 := r.no l hl
      have hl2 := hl
      rw [← List.take_append_drop d l] at hl2
      obtain ⟨u, c1, c2⟩ := Chn.app.1 hl2
      by_cases hd : ∃ m, Chn rules fr m u ∧ m.length < d
      · obtain ⟨m, m1, m2⟩ := hd
        refine ih (m ++ l.drop d).length ?_ _ rfl (Chn.app.2 ⟨u, m1, c2⟩)
        simp only [List.length_append, List.length_drop]
        omega
      · have := r.ex u (l.take d) c1 (by simp; omega) fun m hm => by
          rcases Nat.lt_or_ge m.length d with h | h
          · exact absurd ⟨m, hm, h⟩ hd
          · exact h
        cases this
  exact fun l => key _ l rfl
end
end Go.Vm.Ch
