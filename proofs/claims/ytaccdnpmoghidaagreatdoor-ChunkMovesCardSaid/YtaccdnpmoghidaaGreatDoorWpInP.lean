/- A piece that is handed in; how long its lists may be. -/
import Derived.Test.YtaccdnpmoghidaaGreatDoorWpIn
import Derived.Test.YtaccdnpmoghidaaGreatDoorWpK4
set_option linter.unusedVariables false
set_option linter.unusedSimpArgs false
namespace Go.Vm
open Go.RowKit
variable {P : Program} {h : Hp}
theorem lit_i64 {x : Int} (h : (Lit.int .i64 x).wf = true) : -9223372036854775808 ≤ x ∧ x ≤ 9223372036854775807 := by
  simp only [Lit.wf, Bool.and_eq_true, decide_eq_true_eq] at h
  have e1 : IntKind.i64.min = -9223372036854775808 := rfl
  have e2 : IntKind.i64.max = 9223372036854775807 := rfl
  omega
theorem tyr_intR {n : Nat} {t : TypeId} {vs : List V} (ht : P.underlying t = some (.int .i64)) (k : TyR P h (n + 1) t vs) : ∃ x, vs = [iv x] ∧ -9223372036854775808 ≤ x ∧ x ≤ 9223372036854775807 := by
  unfold TyR at k
  rw [ht] at k
  obtain ⟨x, h1, h2⟩ := k
  exact ⟨x, h1, lit_i64 h2⟩
/-- A struct of ints: its cells. -/
theorem tyr_row {n k : Nat} {t tI : TypeId} (hI : P.underlying tI = some (.int .i64)) (cI : P.cellsOf tI = 1) (ck : P.cellsOf t = k) (ht : ∃ fs, P.underlying t = some (.struct fs) ∧ (fs.toList.map fun f => (f.type, f.offset)) = (List.range k).map fun i => (tI, i)) {vs : List V} (q : TyR P h (n + 2) t vs) : ∃ r : List Int, vs = rv r ∧ r.length = k := by
  obtain ⟨fs, h1, h2⟩ := ht
  obtain ⟨k1, k2⟩ := tyr_fs h1 h2 q
  rw [ck] at k1
  have each : ∀ i, i < k → ∃ x, vs[i]? = some (iv x) := fun i hi => by
    obtain ⟨x, hx⟩ := tyr_int hI (k2 tI i (List.mem_map.2 ⟨i, List.mem_range.2 hi, rfl⟩))
    rw [cI] at hx
    have := congrArg (fun l => l[0]?) hx
    simp only [List.getElem?_take, List.getElem?_drop, Nat.add_zero] at this
    simp at this
    exact ⟨x, this⟩
  clear k2 q h1 h2 ck
  induction vs generalizing k with
  | nil => exact ⟨[], rfl, k1⟩
  | cons v vs ih =>
    cases k with
    | zero => simp at k1
    | succ k =>
      obtain ⟨x, hx⟩ := each 0 (by omega)
      obtain ⟨r, hr, hk⟩ := ih (by simpa using k1) fun i hi => by
        obtain ⟨y, hy⟩ := each (i + 1) (by omega)
        exact ⟨y, by simpa using hy⟩
      simp at hx
      refine ⟨x :: r, by rw [hx, hr]; rfl, by simp [hk]⟩
theorem rows_rows {n k : Nat} {t tI : TypeId} (hI : P.underlying tI = some (.int .i64)) (cI : P.cellsOf tI = 1) (ck : P.cellsOf t = k) (ht : ∃ fs, P.underlying t = some (.struct fs) ∧ (fs.toList.map fun f => (f.type, f.offset)) = (List.range k).map fun i => (tI, i)) : ∀ {rows : List (List V)}, (∀ r ∈ rows, TyR P h (n + 2) t r) → ∃ l : List (List Int), rows = l.map rv ∧ ∀ r ∈ l, r.length = k
  | [], _ => ⟨[], rfl, fun _ h => by cases h⟩
  | x :: rows, hr => by
    obtain ⟨l, q1, q2⟩ := rows_rows hI cI ck ht (rows := rows) fun x hx => hr x (List.mem_cons_of_mem _ hx)
    obtain ⟨r, h1, h2⟩ := tyr_row hI cI ck ht (hr x (List.mem_cons_self ..))
    refine ⟨r :: l, by rw [h1, q1]; rfl, fun y hy => ?_⟩
    rcases List.mem_cons.1 hy with rfl | hy
    · exact h2
    · exact q2 y hy
theorem tyr_rows {n k : Nat} {ts t tI : TypeId} (hs : P.underlying ts = some (.slice t)) (hI : P.underlying tI = some (.int .i64)) (cI : P.cellsOf tI = 1) (ck : P.cellsOf t = k) (ht : ∃ fs, P.underlying t = some (.struct fs) ∧ (fs.toList.map fun f => (f.type, f.offset)) = (List.range k).map fun i => (tI, i)) {vs : List V} (q : TyR P h (n + 3) ts vs) :
    ∃ a c l, vs = [.slice a l.length c] ∧ Rw h k a l := by
  unfold TyR at q
  rw [hs] at q
  obtain ⟨a, c, rows, rfl, k2, k3, k4, k5⟩ := q
  obtain ⟨l, rfl, q2⟩ := rows_rows hI cI ck ht k5
  rw [ck] at k4
  exact ⟨a, .ex c, l, by simp, k4⟩
structure PieceTy (P : Program) (tP tI tIs tIt tSs tSt : TypeId) : Prop where
  piece : ∃ fs, P.underlying tP = some (.struct fs) ∧ (fs.toList.map fun f => (f.type, f.offset)) = [(tI, 0), (tI, 1), (tIs, 2), (tSs, 3)]
  item : ∃ fs, P.underlying tIt = some (.struct fs) ∧ (fs.toList.map fun f => (f.type, f.offset)) = (List.range 4).map fun i => (tI, i)
  step : ∃ fs, P.underlying tSt = some (.struct fs) ∧ (fs.toList.map fun f => (f.type, f.offset)) = (List.range 3).map fun i => (tI, i)
  int : P.underlying tI = some (.int .i64)
  items : P.underlying tIs = some (.slice tIt)
  steps : P.underlying tSs = some (.slice tSt)
  cells : P.cellsOf tP = 4 ∧ P.cellsOf tI = 1 ∧ P.cellsOf tIs = 1 ∧ P.cellsOf tSs = 1 ∧ P.cellsOf tIt = 4 ∧ P.cellsOf tSt = 3
  bytes : P.bytesOf tIt = 32 ∧ P.bytesOf tSt = 24
theorem tyr_piece {tP tI tIs tIt tSs tSt : TypeId} (T : PieceTy P tP tI tIs tIt tSs tSt) {n : Nat} {vs : List V} (k : TyR P h (n + 4) tP vs) : ∃ p, PcC h vs p := by
  obtain ⟨fs, h1, h2⟩ := T.piece
  obtain ⟨cP, cI, cIs, cSs, cIt, cSt⟩ := T.cells
  obtain ⟨k1, k2⟩ := tyr_fs h1 h2 k
  obtain ⟨x, e1⟩ := tyr_int T.int (k2 tI 0 (by simp))
  obtain ⟨y, e2⟩ := tyr_int T.int (k2 tI 1 (by simp))
  obtain ⟨ia, ic, il, e3, f3⟩ := tyr_rows T.items T.int cI cIt T.item (k2 tIs 2 (by simp))
  obtain ⟨sa, sc, sl, e4, f4⟩ := tyr_rows T.steps T.int cI cSt T.step (k2 tSs 3 (by simp))
  rw [cP] at k1
  rw [cI] at e1 e2
  rw [cIs] at e3
  rw [cSs] at e4
  obtain ⟨v0, v1, v2, v3, rfl⟩ : ∃ v0 v1 v2 v3, vs = [v0, v1, v2, v3] := by
    match vs, k1 with
    | [v0, v1, v2, v3], _ => exact ⟨v0, v1, v2, v3, rfl⟩
  simp at e1 e2 e3 e4
  subst e1 e2 e3 e4
  exact ⟨⟨x, y, il, sl⟩, ⟨ia, ic, sa, sc, rfl, f3, f4⟩⟩
variable {H : Type} {enc : TypeId × Value → H} {w : World} {base : Nat} {spare : Nat → Bool} {held : Bool}
/-- How much a slice weighs. -/
theorem weight_slice {fuel : Nat} {t e : TypeId} {a : Option Addr} {len cap : Nat} {d : DataW H} {pl : List MemPlace} (hu : P.underlying t = some (.slice e)) (hx : DataW.trod enc P w base spare held fuel t [.slice a len cap] = some (d, pl)) (hw : ∀ n ∈ d.weights P t, n ≤ reachBytes) : len * P.bytesOf e ≤ reachBytes := by
  cases fuel with
  | zero => unfold DataW.trod at hx; cases hx
  | succ fuel =>
    unfold DataW.trod at hx
    rw [hu] at hx
    cases a with
    | none =>
      cases len with
      | zero => rw [Nat.zero_mul]; exact Nat.zero_le _
      | succ n => simp at hx
    | some a =>
      dsimp only at hx
      split at hx
      · simp only [Option.bind_eq_some_iff, Option.map_eq_some_iff, Prod.mk.injEq] at hx
        obtain ⟨elems, h1, rest, h2, rfl, _⟩ := hx
        have hl := (mapM_get _ h1).1
        simp only [List.length_range] at hl
        have := hw ((elems.length + rest.length) * P.bytesOf e) (by
          unfold DataW.weights
          rw [hu]
          simp)
        refine Nat.le_trans (Nat.mul_le_mul_right _ ?_) this
        omega
      · cases hx
theorem weights_each : ∀ {ts : List TypeId} {ds : List (DataW H)} {i : Nat} {t : TypeId} {d : DataW H} {n : Nat}, ts[i]? = some t → ds[i]? = some d → n ∈ d.weights P t → n ∈ DataW.weightsEach P ts ds
  | [], _, i, t, d, n, h1, _, _ => by simp at h1
  | _ :: _, [], i, t, d, n, _, h2, _ => by simp at h2
  | t0 :: ts, d0 :: ds, 0, t, d, n, h1, h2, h3 => by
    simp at h1 h2
    subst h1 h2
    unfold DataW.weightsEach
    exact List.mem_append_left _ h3
  | t0 :: ts, d0 :: ds, i + 1, t, d, n, h1, h2, h3 => by
    unfold DataW.weightsEach
    exact List.mem_append_right _ (weights_each (i := i) (by simpa using h1) (by simpa using h2) h3)
theorem weight_field {fuel : Nat} {t e : TypeId} {fs : Array Field} {f : Field} {i : Nat} {cs : List Value} {a : Option Addr} {len cap : Nat} {d : DataW H} {pl : List MemPlace} (ht : P.underlying t = some (.struct fs)) (hf : fs.toList[i]? = some f) (hs : P.underlying f.type = some (.slice e))
    (hc : (cs.drop f.offset).take (P.cellsOf f.type) = [.slice a len cap]) (hx : DataW.trod enc P w base spare held fuel t cs = some (d, pl)) (hw : ∀ n ∈ d.weights P t, n ≤ reachBytes) : len * P.bytesOf e ≤ reachBytes := by
  cases fuel with
  | zero => unfold DataW.trod at hx; cases hx
  | succ fuel =>
    unfold DataW.trod at hx
    rw [ht] at hx
    have hx' : (if cs.length = P.cellsOf t then (fs.toList.mapM fun f => DataW.trod enc P w base spare held fuel f.type ((cs.drop f.offset).take (P.cellsOf f.type))).map fun xs => ((.agg (xs.map (·.1)), xs.flatMap (·.2)) : DataW H × List MemPlace) else none) = some (d, pl) := by
      rw [← hx]
    split at hx'
    · simp only [Option.map_eq_some_iff, Prod.mk.injEq] at hx'
      obtain ⟨xs, h1, rfl, _⟩ := hx'
      obtain ⟨y, h2, h3⟩ := (mapM_get _ h1).2 i f hf
      rw [hc] at h3
      refine weight_slice hs h3 fun n hn => hw n ?_
      unfold DataW.weights
      rw [ht]
      exact weights_each (i := i) (by rw [List.getElem?_map, hf]; rfl) (by rw [List.getElem?_map, h2]; rfl) hn
    · cases hx'
/-- A piece's lists are not too long. -/
theorem piece_weights {tP tI tIs tIt tSs tSt : TypeId} (T : PieceTy P tP tI tIs tIt tSs tSt) {fuel : Nat} {v : Value} {d : DataW H} {pl : List MemPlace} (hx : DataW.trod enc P w base spare held fuel tP v.cells.toList = some (d, pl)) (hw : ∀ n ∈ d.weights P tP, n ≤ reachBytes) {μ : PM} {vs : List V} (hv : VRs μ vs v.cells.toList) {p : Pc} (hp : PcC h vs p) :
    2 * (p.items.length + 30) * 32 ≤ 281474976710656 ∧ 2 * (p.steps.length + 30) * 24 ≤ 281474976710656 := by
  obtain ⟨ia, ic, sa, sc, rfl, _, _⟩ := hp
  obtain ⟨fs, h1, h2⟩ := T.piece
  obtain ⟨cP, cI, cIs, cSs, cIt, cSt⟩ := T.cells
  obtain ⟨y1, y2⟩ := T.bytes
  have hfs : ∀ i : Nat, (fs.toList.map fun f => (f.type, f.offset))[i]? = ([(tI, 0), (tI, 1), (tIs, 2), (tSs, 3)] : List (TypeId × Nat))[i]? := fun i => by rw [h2]
  obtain ⟨f2, k2, e2⟩ : ∃ f, fs.toList[2]? = some f ∧ (f.type, f.offset) = (tIs, 2) := by
    have := hfs 2
    rw [List.getElem?_map] at this
    cases hq : fs.toList[2]? with
    | none => rw [hq] at this; cases this
    | some f => rw [hq] at this; exact ⟨f, rfl, Option.some.inj this⟩
  obtain ⟨f3, k3, e3⟩ : ∃ f, fs.toList[3]? = some f ∧ (f.type, f.offset) = (tSs, 3) := by
    have := hfs 3
    rw [List.getElem?_map] at this
    cases hq : fs.toList[3]? with
    | none => rw [hq] at this; cases this
    | some f => rw [hq] at this; exact ⟨f, rfl, Option.some.inj this⟩
  simp only [Prod.mk.injEq] at e2 e3
  generalize hcs : v.cells.toList = cs at hx hv
  cases hv with | cons q0 hv =>
  cases hv with | cons q1 hv =>
  cases hv with | cons q2 hv =>
  cases hv with | cons q3 hv =>
  cases hv
  have len : ∀ {a : Option (Nat × Nat)} {n : Nat} {c : Cap} {r : Value}, VR μ (.slice a n c) r → ∃ a' cap, r = .slice a' n cap := fun {a n c r} hr => by
    cases hr with
    | sliceN => exact ⟨_, _, rfl⟩
    | slice => exact ⟨_, _, rfl⟩
  obtain ⟨a2, c2, rfl⟩ := len q2
  obtain ⟨a3, c3, rfl⟩ := len q3
  have w2 := weight_field h1 k2 (by rw [e2.1]; exact T.items) (by rw [e2.1, e2.2, cIs]; rfl) hx hw
  have w3 := weight_field h1 k3 (by rw [e3.1]; exact T.steps) (by rw [e3.1, e3.2, cSs]; rfl) hx hw
  rw [y1] at w2
  rw [y2] at w3
  unfold reachBytes at w2 w3
  omega
end Go.Vm
