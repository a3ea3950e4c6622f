/- StoreSums' answer is 'true' for all parts that are together below 2^40 bytes, and fewer than 2^40. -/
import Derived.Test.YtmopdelkepkacaaSumsB
namespace Go.Proofs.Ytmopdelkepkacaa.SumsC
open Go.RowKit Go.Proofs.YtmopdelkepkacaaW.PrintWords Go.Proofs.YtmopdelkepkacaaW.PrintLast Go.Proofs.Ytmopdelkepkacaa.PStoreSums SumsA SumsB

def mix (h b : Int) : Int := IntKind.u64.wrap ((Go.bits .xor .u64 h (IntKind.u64.wrap b)) * 1099511628211)

theorem wrap_up {i : Nat} (h : i < 1099511627776) : wrap64 ((i : Int) + 1) = ((i + 1 : Nat) : Int) := by
  unfold wrap64
  omega
theorem rd_at {xs : List Int} {i : Nat} (h : i < xs.length) : rd xs (i : Int) = xs[i] := by simp [rd, h]
theorem row_at {xs : List (List Int)} {i : Nat} (h : i < xs.length) : rd_L1 xs (i : Int) = xs[i] := by simp [rd_L1, h]

theorem ref_from (xs : List Int) (hn : xs.length < 1099511627776) : ∀ (d i : Nat) (h : Int), i + d = xs.length → Ev (fun k => dovetailref27_Sum.l0 k xs h (i : Int)) ((xs.drop i).foldl mix h)
  | 0, i, h, e => by
    rw [List.drop_eq_nil_of_le (by omega)]
    exact Ev.step (f := fun _ => some h) (fun k => by simp only [dovetailref27_Sum.l0]; rw [if_neg (by omega)]) (Ev.now h)
  | d + 1, i, h, e => by
    have hi : i < xs.length := by omega
    rw [List.drop_eq_getElem_cons hi, List.foldl_cons]
    refine Ev.step (f := fun k => dovetailref27_Sum.l0 k xs (mix h xs[i]) ((i + 1 : Nat) : Int)) (fun k => ?_) (ref_from xs hn d (i + 1) _ (by omega))
    simp only [dovetailref27_Sum.l0]
    rw [if_pos (by omega), if_pos (by omega), wrap_up (by omega), rd_at hi]
    rfl
theorem ref_tells (xs : List Int) (hn : xs.length < 1099511627776) : Ev (fun k => dovetailref27_Sum.f k xs) (xs.foldl mix 14695981039346656037) :=
  ref_from xs hn xs.length 0 _ (by omega)

theorem part_from (ps : List (List Int)) (n p : Int) (row : List Int) (r : Int) (hn : row.length < 1099511627776) : ∀ (d j : Nat) (h : Int), j + d = row.length →
    Ev (fun k => store_Sum.l0 k ((row.drop j).foldl mix h) ps n (wrap64 (p + 1))) r → Ev (fun k => store_Sum.l1 k h ps n p row (row.length : Int) (j : Int)) r
  | 0, j, h, e, H => by
    rw [List.drop_eq_nil_of_le (by omega)] at H
    exact Ev.step (fun k => by simp only [store_Sum.l1]; rw [if_neg (by omega)]; rfl) H
  | d + 1, j, h, e, H => by
    have hj : j < row.length := by omega
    rw [List.drop_eq_getElem_cons hj, List.foldl_cons] at H
    refine Ev.step (f := fun k => store_Sum.l1 k (mix h row[j]) ps n p row (row.length : Int) ((j + 1 : Nat) : Int)) (fun k => ?_) (part_from ps n p row r hn d (j + 1) _ (by omega) H)
    simp only [store_Sum.l1]
    rw [if_pos (by omega), if_pos (by omega), if_pos (by omega), wrap_up (by omega), rd_at hj]
    rfl

theorem sum_from (ps : List (List Int)) (hn : ps.length < 1099511627776) (hl : ∀ p ∈ ps, p.length < 1099511627776) : ∀ (d i : Nat) (h : Int), i + d = ps.length →
    Ev (fun k => store_Sum.l0 k h ps (ps.length : Int) (i : Int)) ((ps.drop i).flatten.foldl mix h)
  | 0, i, h, e => by
    rw [List.drop_eq_nil_of_le (by omega)]
    exact Ev.step (f := fun _ => some h) (fun k => by simp only [store_Sum.l0]; rw [if_neg (by omega)]) (Ev.now h)
  | d + 1, i, h, e => by
    have hi : i < ps.length := by omega
    rw [List.drop_eq_getElem_cons hi, List.flatten_cons, List.foldl_append]
    refine Ev.step (f := fun k => store_Sum.l1 k h ps (ps.length : Int) (i : Int) ps[i] (ps[i].length : Int) ((0 : Nat) : Int)) (fun k => ?_)
      (part_from ps _ _ ps[i] _ (hl _ (List.getElem_mem hi)) ps[i].length 0 h (by omega) ?_)
    · simp only [store_Sum.l0]
      rw [if_pos (by omega), if_pos (by omega), if_pos (by omega), row_at hi]
      rfl
    · rw [wrap_up (by omega), List.drop_zero]
      exact sum_from ps hn hl d (i + 1) _ (by omega)
theorem sum_tells (ps : List (List Int)) (hn : ps.length < 1099511627776) (hl : ∀ p ∈ ps, p.length < 1099511627776) : Ev (fun k => store_Sum.f k ps) (ps.flatten.foldl mix 14695981039346656037) :=
  sum_from ps hn hl ps.length 0 _ (by omega)

theorem same_from (xs : List Int) (hn : xs.length < 1099511627776) : ∀ (d i : Nat), i + d = xs.length → Ev (fun k => dovetailkit_Bytes.l0 k xs xs (i : Int)) true
  | 0, i, e => Ev.step (f := fun _ => some true) (fun k => by simp only [dovetailkit_Bytes.l0]; rw [if_neg (by omega)]) (Ev.now true)
  | d + 1, i, e => by
    refine Ev.step (f := fun k => dovetailkit_Bytes.l0 k xs xs ((i + 1 : Nat) : Int)) (fun k => ?_) (same_from xs hn d (i + 1) (by omega))
    simp only [dovetailkit_Bytes.l0]
    rw [if_pos (by omega), if_pos (by omega), if_pos (by omega), if_pos trivial, wrap_up (by omega)]
theorem same_tells (xs : List Int) (hn : xs.length < 1099511627776) : Ev (fun k => keptB k xs xs) true := by
  refine Ev.congr (f := fun k => dovetailkit_Bytes.l0 k xs xs ((0 : Nat) : Int)) (fun k => ?_) (same_from xs hn xs.length 0 (by omega))
  unfold keptB dovetailkit_Bytes.f
  rw [if_pos rfl]
  rfl

theorem kept_from (ps : List (List Int)) (hn : ps.length < 1099511627776) (hl : ∀ p ∈ ps, p.length < 1099511627776) : ∀ (d i : Nat), i + d = ps.length → Ev (fun k => sums.l1 k ps ps (i : Int)) true
  | 0, i, e => Ev.step (f := fun _ => some true) (fun k => by simp only [sums.l1]; rw [if_neg (by omega)]) (Ev.now true)
  | d + 1, i, e => by
    have hi : i < ps.length := by omega
    refine Ev.step (f := fun k => (keptB k ps[i] ps[i]).bind fun t133 => (if t133 = true then (sums.l1 k ps ps ((i + 1 : Nat) : Int)) else (some false))) (fun k => ?_)
      (Ev.bind (same_tells ps[i] (hl _ (List.getElem_mem hi))) (Ev.congr (fun k => if_pos rfl) (kept_from ps hn hl d (i + 1) (by omega))))
    simp only [sums.l1]
    rw [if_pos (by omega), if_pos (by omega), if_pos (by omega), wrap_up (by omega), row_at hi]

theorem law_from (ps : List (List Int)) (hn : ps.length < 1099511627776) (hl : ps.flatten.length < 1099511627776) (hp : ∀ p ∈ ps, p.length < 1099511627776) : ∀ (d i : Nat), i + d = ps.length →
    Ev (fun k => sums.l0 k ps (ps.take i) (ps.take i).flatten (i : Int)) true
  | 0, i, e => by
    rw [List.take_of_length_le (by omega)]
    refine Ev.step (f := fun k => (store_Sum.f k ps).bind fun t129 => ((dovetailref27_Sum.f k ps.flatten).bind fun t130 => (if t129 = t130 then (sums.l1 k ps ps ((0 : Nat) : Int)) else (some false)))) (fun k => ?_)
      (Ev.bind (sum_tells ps hn hp) (Ev.bind (ref_tells ps.flatten hl) (Ev.congr (fun k => if_pos rfl) (kept_from ps hn hp ps.length 0 (by omega)))))
    simp only [sums.l0]
    rw [if_neg (by omega)]
    rfl
  | d + 1, i, e => by
    have hi : i < ps.length := by omega
    have h1 : ps.take (i + 1) = ps.take i ++ [ps[i]] := by rw [List.take_add_one, List.getElem?_eq_getElem hi]; rfl
    have h2 : (ps.take (i + 1)).flatten.length ≤ ps.flatten.length := by
      conv => rhs; rw [← List.take_append_drop (i + 1) ps, List.flatten_append, List.length_append]
      omega
    have h3 : (ps.take (i + 1)).flatten = (ps.take i).flatten ++ ps[i] := by rw [h1, List.flatten_append]; simp
    have h4 := hp _ (List.getElem_mem hi)
    refine Ev.step (f := fun k => sums.l0 k ps (ps.take (i + 1)) (ps.take (i + 1)).flatten ((i + 1 : Nat) : Int)) (fun k => ?_) (law_from ps hn hl hp d (i + 1) (by omega))
    simp only [sums.l0]
    rw [h3, List.length_append] at h2
    rw [if_pos (by omega), if_pos (by omega), row_at hi, show lentB ps[i] = some ps[i] from if_pos (by omega)]
    simp only [Option.bind_some]
    rw [if_pos (by rw [List.length_take]; omega), if_pos (by omega), wrap_up (by omega), ← h1, ← h3]
theorem law (ps : List (List Int)) (hn : ps.length < 1099511627776) (hl : ps.flatten.length < 1099511627776) (hp : ∀ p ∈ ps, p.length < 1099511627776) : ∃ k, sums.f k ps = some true :=
  Ev.rounds (law_from ps hn hl hp ps.length 0 (by omega))
end Go.Proofs.Ytmopdelkepkacaa.SumsC
