/- Numbers put elsewhere: the program's and the document's answer are the same; pieces lent, compared, still as they were. -/
import Derived.Test.YtaccdnpmoghidaaGreatDoorWpK2
set_option linter.unusedVariables false
set_option linter.unusedSimpArgs false
namespace Go.Vm
variable {P : Program} {Y : Fns} {I : Ids}
def wr (n : Int) : Int := IntKind.i64.wrap n
theorem wr_eq (n : Int) : IntKind.i64.wrap n = wr n := id rfl
theorem wr_spec (n : Int) : ∃ j : Int, wr n = n - 18446744073709551616 * j ∧ -9223372036854775808 ≤ wr n ∧ wr n ≤ 9223372036854775807 := by
  unfold wr IntKind.wrap
  simp only [IntKind.bits, IntKind.signed, Bool.true_and, decide_eq_true_eq, show ((2 : Int) ^ (64 - 1 : Nat)) = 9223372036854775808 from rfl, show ((2 : Int) ^ (64 : Nat)) = 18446744073709551616 from rfl]
  split
  · exact ⟨n / 18446744073709551616 + 1, by omega, by omega, by omega⟩
  · exact ⟨n / 18446744073709551616, by omega, by omega, by omega⟩
/-- Is a number, put by so much, none? The program's way. -/
def pb (a b c d e : Bool) : Bool := (!(a == b) && !c) || d || e
def putB (by' x : Int) : Bool := pb (decide (by' > 0)) (decide (wr (x + by') > x)) (by' == 0) (decide (wr (x + by') < 0)) (decide (wr (x + by') > 65536))
/-- The document's way. -/
def po (a b c d : Bool) : Bool := (a && b) || (c && d)
def putO (by' x : Int) : Bool := po (decide (by' > 0)) (decide (x > wr (9223372036854775807 - by'))) (decide (by' < 0)) (decide (x < wr (-9223372036854775808 - by')))
def putR (by' x : Int) : Int × Bool := if putO by' x then (0, false) else (wr (x + by'), decide (wr (x + by') ≥ 0) && decide (wr (x + by') ≤ 65536))
theorem put_same {by' : Int} (h1 : -9223372036854775808 ≤ by') (h2 : by' ≤ 9223372036854775807) (x : Int) : (putR by' x).2 = !putB by' x ∧ (putB by' x = false → (putR by' x).1 = wr (x + by')) := by
  obtain ⟨j, e1, e2, e3⟩ := wr_spec (x + by')
  obtain ⟨j2, f1, f2, f3⟩ := wr_spec (9223372036854775807 - by')
  obtain ⟨j3, k1, k2, k3⟩ := wr_spec (-9223372036854775808 - by')
  have hO : putO by' x = true ↔ (by' > 0 ∧ x > wr (9223372036854775807 - by')) ∨ (by' < 0 ∧ x < wr (-9223372036854775808 - by')) := by
    unfold putO po
    simp
  have hB : putB by' x = true ↔ (¬ (by' > 0 ↔ wr (x + by') > x) ∧ by' ≠ 0) ∨ wr (x + by') < 0 ∨ wr (x + by') > 65536 := by
    unfold putB pb
    by_cases a : by' > 0 <;> by_cases b : wr (x + by') > x <;> by_cases c : by' = 0 <;> by_cases d : wr (x + by') < 0 <;> by_cases e : wr (x + by') > 65536 <;> simp [a, b, c, d, e]
  have key : putO by' x = true ∨ ¬ (0 ≤ wr (x + by') ∧ wr (x + by') ≤ 65536) ↔ putB by' x = true := by
    rw [hO, hB]
    rcases Int.lt_trichotomy by' 0 with hb | hb | hb
    · have : wr (-9223372036854775808 - by') = -9223372036854775808 - by' := by omega
      have a1 : ¬ by' > 0 := by omega
      have a2 : by' ≠ 0 := by omega
      simp only [a1, a2, hb, false_and, true_and, false_or, false_iff, Decidable.not_not, ne_eq, not_false_eq_true, and_true]
      omega
    · subst hb
      simp
      omega
    · have : wr (9223372036854775807 - by') = 9223372036854775807 - by' := by omega
      have a1 : ¬ by' < 0 := by omega
      have a2 : by' ≠ 0 := by omega
      simp only [a1, a2, hb, false_and, true_and, or_false, true_iff, ne_eq, not_false_eq_true, and_true]
      omega
  unfold putR
  cases ho : putO by' x with
  | true =>
    have : putB by' x = true := key.1 (.inl ho)
    simp [this]
  | false =>
    cases hb : putB by' x with
    | true =>
      have h3 := key.2 hb
      rw [ho] at h3
      simp only [Bool.false_eq_true, false_or] at h3
      simp
      omega
    | false =>
      have h3 : ¬ (¬ (0 ≤ wr (x + by') ∧ wr (x + by') ≤ 65536)) := fun h => by have := key.1 (.inr h); rw [hb] at this; cases this
      simp
      omega
set_option maxHeartbeats 2000000 in
theorem refPut_ok (H : FnIs P Y (I.f 394) 35 [.tmp 4, .tmp 5] (c394 I)) {h : Hp} (x by' : Int) :
    CW P Y (I.f 394) [.int .i64 x, .int .i64 by'] none h (fun q => q = .ret (.tuple [.int .i64 (putR by' x).1, .bool (putR by' x).2]) none h) := by
  refine CW_ic H (Nat.le_of_ble_eq_true rfl) ?_
  unfold c394
  have hp : putR by' x = if po (decide (by' > 0)) (decide (x > wr (9223372036854775807 - by'))) (decide (by' < 0)) (decide (x < wr (-9223372036854775808 - by'))) then (0, false) else (wr (x + by'), decide (wr (x + by') ≥ 0) && decide (wr (x + by') ≤ 65536)) := rfl
  rw [hp]
  cases h1 : decide (by' > 0) with
  | true =>
    have h3 : decide (by' < 0) = false := by simp at h1 ⊢; omega
    cases h2 : decide (x > wr (9223372036854775807 - by')) with
    | true => simp only [zaa, zac, zae, zah, zai, zaj, zak, zal, zam, zan, zao, zaq, zax, zay, zaz, zbi, zbk, zbl, zbm, Nat.reduceEqDiff, Nat.reduceAdd, zci, zcm, Bool.and_self, Nat.zero_add, zdb, zdc, zdf, zdg, r_2, Bool.true_or, a_t, a_v, zdo, zdp, zdq, zdr, zdt, if_true, if_false, w_und, wr_eq, po, h1, h2]
    | false => cases h5 : decide (wr (x + by') ≥ 0) <;> simp only [zaa, zab, zac, zae, zah, zai, zaj, zak, zal, zam, zan, zap, zaq, zax, zay, zbi, zbk, zbl, zbm, Nat.reduceEqDiff, Nat.reduceAdd, zch, zci, zck, zcl, zcm, zcn, Nat.zero_add, zdb, zdc, zdd, zde, zdg, r_2, Bool.false_eq_true, Bool.true_and, Bool.or_false, Bool.and_false, Bool.false_and, a_t, a_v, zdo, zdp, zdq, zdr, zds, zdt, if_true, if_false, wr_eq, po, h1, h2, h3, h5]
  | false =>
    cases h3 : decide (by' < 0) with
    | true =>
      cases h4 : decide (x < wr (-9223372036854775808 - by')) with
      | true => simp only [zaa, zac, zae, zah, zai, zaj, zak, zal, zam, zan, zao, zaq, zax, zay, zaz, zbi, zbk, zbl, zbm, Nat.reduceEqDiff, Nat.reduceAdd, zci, zck, zcm, Bool.and_self, Nat.zero_add, zdb, zdc, zdd, zde, zdg, r_2, Bool.or_true, Bool.false_and, a_t, a_v, zdo, zdp, zdq, zdr, zds, zdt, if_true, if_false, wr_eq, po, h1, h3, h4]
      | false => cases h5 : decide (wr (x + by') ≥ 0) <;> simp only [zaa, zab, zac, zae, zah, zai, zaj, zak, zal, zam, zan, zap, zaq, zax, zay, zbi, zbk, zbl, zbm, Nat.reduceEqDiff, Nat.reduceAdd, zch, zci, zck, zcl, zcm, zcn, Nat.zero_add, zdb, zdc, zdd, zde, zdg, r_2, Bool.false_eq_true, Bool.true_and, Bool.or_false, Bool.and_false, Bool.false_and, a_t, a_v, zdo, zdp, zdq, zdr, zds, zdt, if_true, if_false, wr_eq, po, h1, h3, h4, h5]
    | false => cases h5 : decide (wr (x + by') ≥ 0) <;> simp only [zaa, zab, zac, zae, zah, zai, zaj, zak, zal, zam, zan, zap, zaq, zax, zay, zbi, zbk, zbl, zbm, Nat.reduceEqDiff, Nat.reduceAdd, zch, zck, zcl, zcm, zcn, Nat.zero_add, zdb, zdc, zdd, zde, zdg, r_2, Bool.false_eq_true, Bool.true_and, Bool.or_false, Bool.false_and, a_t, a_v, zdo, zdp, zdq, zdr, zds, zdt, if_true, if_false, wr_eq, po, h1, h3, h5]
set_option maxHeartbeats 4000000 in
theorem put_ok (H : FnIs P Y (I.f 390) 45 [] (c390 I)) {h : Hp} {bm em b e : Nat} {ex bad : Bool} {L : List V} {by' x : Int} {j : Nat} (om : Own h bm [.int .i64 by', .bool bad] em) (ob : OwnX ex h b L e) (hj : L[j]? = some (.int .i64 x)) (hne : b ≠ bm) :
    CW P Y (I.f 390) [.ptr (some (bm, 0)), .ptr (some (b, j))] none h (fun q => q = .ret (.tuple []) none (if putB by' x then h.put bm (newBlk [.int .i64 by', .bool true] em) else h.put b (obX ex (L.set j (.int .i64 (wr (x + by')))) e))) := by
  refine CW_ic H (Nat.le_of_ble_eq_true rfl) ?_
  unfold c390
  have hjl : j < L.length := (List.getElem?_eq_some_iff.1 hj).1
  have s1 := om.storeL 1 [.bool true] (by simp) (by simp) rfl
  have s2 := ob.storeL j [.int .i64 (wr (x + by'))] (by simp) (by simp; omega) rfl
  rw [splice_one hjl] at s2
  rw [show splice [V.int .i64 by', V.bool bad] 1 [.bool true] = [.int .i64 by', .bool true] from rfl] at s1
  have hp : putB by' x = pb (decide (by' > 0)) (decide (wr (x + by') > x)) (by' == 0) (decide (wr (x + by') < 0)) (decide (wr (x + by') > 65536)) := rfl
  rw [hp]
  cases h4 : decide (wr (x + by') < 0) <;> cases h5 : decide (wr (x + by') > 65536) <;> cases h1 : decide (by' > 0) <;> cases h2 : decide (wr (x + by') > x) <;> cases h3 : (by' == 0) <;>
    simp only [zaa, zab, zac, zad, zae, zah, zai, zaj, zak, zal, zam, zan, zao, zap, zaq, zar, zax, zay, zaz, zbg, zbi, zbj, zbk, zbl, zbm, Nat.reduceEqDiff, Option.map_some, Nat.reduceAdd, zbp, zbq, zch, zck, zcm, zcq, zcr, zct, Bool.and_true, Bool.and_self, Bool.not_true, Bool.not_false, List.getElem?_cons_zero, Nat.zero_add, Nat.add_zero, zdb, zdc, zdd, zde, zdf, zdg, r_0, n_0, Bool.false_eq_true, Bool.or_true, Bool.or_false, Bool.and_false, a_t, a_v, zdo, zdp, zdq, zdr, zds, zdt, zdu, zeb, zec, zef, zeg, zej, zek, zel, if_true, if_false, List.length_cons, List.length_nil, zgl, zgm, wr_eq, om.load1, ob.load1, hj, s1, s2, pb, h1, h2, h3, h4, h5]
end Go.Vm
