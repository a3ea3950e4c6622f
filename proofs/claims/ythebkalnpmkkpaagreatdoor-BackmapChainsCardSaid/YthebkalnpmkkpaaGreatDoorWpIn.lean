/- A grammar that is handed in. -/
import Derived.Test.YthebkalnpmkkpaaGreatDoorVmIn
set_option linter.unusedVariables false
set_option linter.unusedSimpArgs false
namespace Go.Vm
open Go.RowKit
variable {P : Program} {h : Hp}
theorem rows_str {n : Nat} {e : TypeId} (he : P.underlying e = some .string) : ∀ {rows : List (List V)}, (∀ r ∈ rows, TyR P h (n + 1) e r) → ∃ l : List (List UInt8), rows = l.map fun s => [V.str s]
  | [], _ => ⟨[], rfl⟩
  | r :: rows, hr => by
    obtain ⟨l, hl⟩ := rows_str he (rows := rows) fun x hx => hr x (List.mem_cons_of_mem _ hx)
    have h1 := hr r (List.mem_cons_self ..)
    unfold TyR at h1
    rw [he] at h1
    obtain ⟨s, h1, _⟩ := h1
    exact ⟨s :: l, by rw [h1, hl]; rfl⟩
theorem rows_int {n : Nat} {e : TypeId} (he : P.underlying e = some (.int .i64)) : ∀ {rows : List (List V)}, (∀ r ∈ rows, TyR P h (n + 1) e r) → ∃ l : List Int, rows = l.map fun s => [iv s]
  | [], _ => ⟨[], rfl⟩
  | r :: rows, hr => by
    obtain ⟨l, hl⟩ := rows_int he (rows := rows) fun x hx => hr x (List.mem_cons_of_mem _ hx)
    have h1 := hr r (List.mem_cons_self ..)
    unfold TyR at h1
    rw [he] at h1
    obtain ⟨s, h1, _⟩ := h1
    exact ⟨s :: l, by rw [h1, hl]; rfl⟩
/-- The types of a grammar. -/
structure GramTy (P : Program) (tG tSs tStr tI tRs tR tIs : TypeId) : Prop where
  gram : ∃ fs, P.underlying tG = some (.struct fs) ∧ (fs.toList.map fun f => (f.type, f.offset)) = [(tSs, 0), (tSs, 1), (tI, 2), (tRs, 3)]
  rule : ∃ fs, P.underlying tR = some (.struct fs) ∧ (fs.toList.map fun f => (f.type, f.offset)) = [(tI, 0), (tIs, 1)]
  strs : P.underlying tSs = some (.slice tStr)
  str : P.underlying tStr = some .string
  int : P.underlying tI = some (.int .i64)
  ints : P.underlying tIs = some (.slice tI)
  rules : P.underlying tRs = some (.slice tR)
  cells : P.cellsOf tG = 4 ∧ P.cellsOf tSs = 1 ∧ P.cellsOf tStr = 1 ∧ P.cellsOf tI = 1 ∧ P.cellsOf tRs = 1 ∧ P.cellsOf tR = 2 ∧ P.cellsOf tIs = 1
theorem in_map {fs : List Field} {l : List (TypeId × Nat)} (h : (fs.map fun f => (f.type, f.offset)) = l) {t : TypeId} {o : Nat} (hm : (t, o) ∈ l) : ∃ f ∈ fs, f.type = t ∧ f.offset = o := by
  subst h
  obtain ⟨f, hf, e⟩ := List.mem_map.1 hm
  simp only [Prod.mk.injEq] at e
  exact ⟨f, hf, e.1, e.2⟩
theorem tyr_fs {n : Nat} {t : TypeId} {vs : List V} {fs : Array Field} {l : List (TypeId × Nat)} (ht : P.underlying t = some (.struct fs)) (hl : (fs.toList.map fun f => (f.type, f.offset)) = l) (k : TyR P h (n + 1) t vs) :
    vs.length = P.cellsOf t ∧ ∀ u o, (u, o) ∈ l → TyR P h n u ((vs.drop o).take (P.cellsOf u)) := by
  unfold TyR at k
  rw [ht] at k
  refine ⟨k.1, fun u o hm => ?_⟩
  obtain ⟨f, hf, rfl, rfl⟩ := in_map hl hm
  exact k.2 f hf
theorem tyr_strs {n : Nat} {t e : TypeId} {vs : List V} (ht : P.underlying t = some (.slice e)) (he : P.underlying e = some .string) (hc : P.cellsOf e = 1) (k : TyR P h (n + 2) t vs) : ∃ a c l, vs = [.slice a l.length c] ∧ Strs h a l ∧ l.length ≤ maxLen ∧ l.length * P.bytesOf e ≤ reachBytes := by
  unfold TyR at k
  rw [ht] at k
  obtain ⟨a, c, rows, rfl, k2, k3, k4, k5⟩ := k
  obtain ⟨l, rfl⟩ := rows_str he k5
  rw [hc] at k4
  simp only [List.length_map] at k2
  exact ⟨a, .ex c, l, by simp, k4, by omega, Nat.le_trans (Nat.mul_le_mul_right _ k2) k3.2⟩
theorem tyr_ints {n : Nat} {t e : TypeId} {vs : List V} (ht : P.underlying t = some (.slice e)) (he : P.underlying e = some (.int .i64)) (hc : P.cellsOf e = 1) (k : TyR P h (n + 2) t vs) : ∃ a c l, vs = [.slice a l.length c] ∧ Ints h a l ∧ l.length ≤ maxLen ∧ l.length * P.bytesOf e ≤ reachBytes := by
  unfold TyR at k
  rw [ht] at k
  obtain ⟨a, c, rows, rfl, k2, k3, k4, k5⟩ := k
  obtain ⟨l, rfl⟩ := rows_int he k5
  rw [hc] at k4
  simp only [List.length_map] at k2
  exact ⟨a, .ex c, l, by simp, k4, by omega, Nat.le_trans (Nat.mul_le_mul_right _ k2) k3.2⟩
theorem tyr_int {n : Nat} {t : TypeId} {vs : List V} (ht : P.underlying t = some (.int .i64)) (k : TyR P h (n + 1) t vs) : ∃ x, vs = [iv x] := by
  unfold TyR at k
  rw [ht] at k
  obtain ⟨x, h1, _⟩ := k
  exact ⟨x, h1⟩
variable {tG tSs tStr tI tRs tR tIs : TypeId}
theorem tyr_rule (T : GramTy P tG tSs tStr tI tRs tR tIs) {n : Nat} {vs : List V} (k : TyR P h (n + 3) tR vs) : ∃ r, RuleC h vs r ∧ r.right.length ≤ maxLen ∧ r.right.length * P.bytesOf tI ≤ reachBytes := by
  obtain ⟨fs, h1, h2⟩ := T.rule
  obtain ⟨_, _, _, cI, _, cR, cIs⟩ := T.cells
  obtain ⟨k1, k2⟩ := tyr_fs h1 h2 k
  obtain ⟨x, e1⟩ := tyr_int T.int (k2 tI 0 (by simp))
  obtain ⟨a, c, l, e2, e3, e4⟩ := tyr_ints T.ints T.int cI (k2 tIs 1 (by simp))
  rw [cR] at k1
  rw [cI, List.drop_zero] at e1
  rw [cIs] at e2
  obtain ⟨v0, v1, rfl⟩ : ∃ v0 v1, vs = [v0, v1] := by
    match vs, k1 with
    | [v0, v1], _ => exact ⟨v0, v1, rfl⟩
  simp at e1 e2
  subst e1 e2
  exact ⟨⟨x, l⟩, ⟨a, c, rfl, e3⟩, e4⟩
theorem rows_rule (T : GramTy P tG tSs tStr tI tRs tR tIs) {n : Nat} : ∀ {rows : List (List V)}, (∀ r ∈ rows, TyR P h (n + 3) tR r) → ∃ l : List GRule, rows.length = l.length ∧ (∀ (i : Nat) (row : List V) (r : GRule), rows[i]? = some row → l[i]? = some r → RuleC h row r) ∧ ∀ r ∈ l, r.right.length ≤ maxLen ∧ r.right.length * P.bytesOf tI ≤ reachBytes
  | [], _ => ⟨[], rfl, fun i row r h => by simp at h, fun r hr => by cases hr⟩
  | x :: rows, hr => by
    obtain ⟨l, q1, q2, q3⟩ := rows_rule T (rows := rows) fun x hx => hr x (List.mem_cons_of_mem _ hx)
    obtain ⟨r, h1, h2⟩ := tyr_rule T (hr x (List.mem_cons_self ..))
    refine ⟨r :: l, by simp [q1], fun i row r' e1 e2 => ?_, fun r' hr' => ?_⟩
    · cases i with
      | zero => simp at e1 e2; subst e1; subst e2; exact h1
      | succ i => simp at e1 e2; exact q2 i row r' e1 e2
    · rcases List.mem_cons.1 hr' with rfl | hr'
      · exact h2
      · exact q3 r' hr'
theorem tyr_rules (T : GramTy P tG tSs tStr tI tRs tR tIs) {n : Nat} {vs : List V} (k : TyR P h (n + 4) tRs vs) : ∃ a c l, vs = [.slice a l.length c] ∧ Rules h a l ∧ (l.length ≤ maxLen ∧ l.length * P.bytesOf tR ≤ reachBytes) ∧ ∀ r ∈ l, r.right.length ≤ maxLen ∧ r.right.length * P.bytesOf tI ≤ reachBytes := by
  unfold TyR at k
  rw [T.rules] at k
  obtain ⟨a, c, rows, rfl, k2, k3, k4, k5⟩ := k
  obtain ⟨l, q1, q2, q3⟩ := rows_rule T k5
  obtain ⟨_, _, _, _, _, cR, _⟩ := T.cells
  rw [cR] at k4
  exact ⟨a, .ex c, l, by rw [q1], ⟨rows, k4, q1, q2⟩, ⟨by omega, Nat.le_trans (Nat.mul_le_mul_right _ (by omega)) k3.2⟩, q3⟩
/-- The grammar. -/
theorem tyr_gram (T : GramTy P tG tSs tStr tI tRs tR tIs) {n : Nat} {vs : List V} (k : TyR P h (n + 5) tG vs) : ∃ g, GramC h vs g ∧ (g.terms.length ≤ maxLen ∧ g.terms.length * P.bytesOf tStr ≤ reachBytes) ∧ (g.nonterms.length ≤ maxLen ∧ g.nonterms.length * P.bytesOf tStr ≤ reachBytes) ∧ (g.rules.length ≤ maxLen ∧ g.rules.length * P.bytesOf tR ≤ reachBytes) ∧ ∀ r ∈ g.rules, r.right.length ≤ maxLen ∧ r.right.length * P.bytesOf tI ≤ reachBytes := by
  obtain ⟨fs, h1, h2⟩ := T.gram
  obtain ⟨cG, cSs, cS, cI, cRs, cR, cIs⟩ := T.cells
  obtain ⟨k1, k2⟩ := tyr_fs h1 h2 k
  obtain ⟨ta, tc, tl, e1, f1, b1⟩ := tyr_strs T.strs T.str cS (k2 tSs 0 (by simp))
  obtain ⟨na, nc, nl, e2, f2, b2⟩ := tyr_strs T.strs T.str cS (k2 tSs 1 (by simp))
  obtain ⟨x, e3⟩ := tyr_int T.int (k2 tI 2 (by simp))
  obtain ⟨ra, rc, rl, e4, f4, b4, b5⟩ := tyr_rules T (k2 tRs 3 (by simp))
  rw [cG] at k1
  rw [cSs] at e1 e2
  rw [cI] at e3
  rw [cRs] at e4
  obtain ⟨v0, v1, v2, v3, rfl⟩ : ∃ v0 v1 v2 v3, vs = [v0, v1, v2, v3] := by
    match vs, k1 with
    | [v0, v1, v2, v3], _ => exact ⟨v0, v1, v2, v3, rfl⟩
  simp at e1 e2 e3 e4
  subst e1 e2 e3 e4
  exact ⟨⟨tl, nl, x, rl⟩, ⟨⟨ta, tc, na, nc, ra, rc, rfl, f1, f2, f4⟩⟩, b1, b2, b4, b5⟩
/-- A grammar's lists are not too long. -/
theorem gram_fits {g : Gram} (ha : P.bytesOf tStr = 16) (hb : P.bytesOf tR = 32) (hc : P.bytesOf tI = 8) (h1 : g.terms.length ≤ maxLen ∧ g.terms.length * P.bytesOf tStr ≤ reachBytes) (h2 : g.nonterms.length ≤ maxLen ∧ g.nonterms.length * P.bytesOf tStr ≤ reachBytes) (h3 : g.rules.length ≤ maxLen ∧ g.rules.length * P.bytesOf tR ≤ reachBytes) (h4 : ∀ r ∈ g.rules, r.right.length ≤ maxLen ∧ r.right.length * P.bytesOf tI ≤ reachBytes) :
    2 * (g.terms.length + 1) * 16 ≤ 281474976710656 ∧ 2 * (g.nonterms.length + 1) * 16 ≤ 281474976710656 ∧ 2 * (g.rules.length + 1) * 32 ≤ 281474976710656 ∧ ∀ r ∈ g.rules, 2 * (r.right.length + 1) * 8 ≤ 281474976710656 := by
  rw [ha] at h1 h2
  rw [hb] at h3
  unfold reachBytes at h1 h2 h3
  refine ⟨by omega, by omega, by omega, fun r hr => ?_⟩
  have := (h4 r hr).2
  rw [hc] at this
  unfold reachBytes at this
  omega
theorem vr_agg {μ : PM} {vs : List V} {v : Value} (hv : VRs μ vs v.cells.toList) (hl : vs.length ≠ 1) : VR μ (.agg vs) v := by
  have h1 := hv.length
  cases v with
  | agg cs =>
    have := VR.agg hv
    simpa [Value.cells] using this
  | _ => simp [Value.cells] at h1; exact absurd h1 hl
theorem vr_int {μ : PM} {k : IntKind} {n : Int} {x : V} {vs : List V} (hv : VRs μ vs (Value.int k n).cells.toList) (hx : vs = [x]) : VR μ x (.int k n) := by
  subst hx
  cases hv with
  | cons h t => exact h
end Go.Vm
