/- Sets of numbers, as the virtual machine reckons them. -/
import Derived.Test.YthebkalnpmkkpaaGreatDoorWpUtil
import Derived.Test.YthebkalnpmkkpaaGreatDoorLeastPure
import Derived.Test.YthebkalnpmkkpaaGreatDoorWpF1
set_option linter.unusedVariables false
set_option linter.unusedSimpArgs false
namespace Go.Vm
open Ch
variable {P : Program}
end Go.Vm
/- What small functions come to: renamings, names, places in lists. -/
namespace Go.Vm
open Ch
variable {P : Program} {Y : Fns} {I : Ids}
theorem ren_ok (H : FnIs P Y (I.f 142) 20 [.tmp 2, .tmp 3] (c142 I)) {h : Hp} {row : List V} {r : GRule} (hr : RuleC h row r) (hB : ∀ s ∈ r.right, -9223372036854775808 ≤ s) :
    Gives P Y (I.f 142) [.agg row] h (.tuple [iv ((ren r).getD 0), .bool (ren r).isSome]) := by
  refine CW_ic H (Nat.le_of_ble_eq_true rfl) ?_
  obtain ⟨a, c, rfl, ha⟩ := hr
  unfold c142
  by_cases h1 : r.right.length = 1
  · have h1' : ((r.right.length : Int) == 1) = true := by simp [h1]
    obtain ⟨s, hs⟩ : ∃ s, r.right = [s] := List.length_eq_one_iff.1 h1
    obtain ⟨b, o, rfl, hl, hb⟩ := (ha.grow (Grow.new h (newBlk [iv r.left, V.slice a r.right.length c] (I.t 101)))).get (i := 0) (by omega)
    have hv : r.right[0] = s := by simp [hs]
    rw [hv, Nat.add_zero] at hl
    simp only [zbn] at hl
    have h2 : decide ((0 : Int) < r.right.length) = true := by simp; omega
    by_cases hneg : s < 0
    · have h3 : decide (s ≥ 0) = false := by simp; omega
      have hr : ren r = some (-1 - s) := by unfold ren; rw [hs]; simp [hneg]
      have hsb := hB s (by rw [hs]; simp)
      simp only [zaa, zab, zac, zae, zah, zai, zaj, zak, zal, zam, zap, zaq, zax, zay, zbi, zbk, zbl, zbm, Nat.reduceEqDiff, Option.map_some, zbn, zbo, zby, zcc, zci, zcn, zcq, zct, zcz, List.all_cons, List.all_nil, Bool.and_self, Bool.not_true, List.getElem?_cons_zero, List.getElem?_cons_succ, Nat.zero_add, Nat.add_zero, zdb, zdc, zdd, r_2, Nat.mul_one, Int.toNat_zero, zdi, Option.getD_some, Option.isSome_some, a_t, a_v, zdo, zdp, zdq, zds, zdt, zdu, zeb, zec, zed, zee, zef, zeg, zen, zeo, zep, if_true, if_false, h1', h2, hl, h3, hr]
      rw [wrap_i64 (by omega) (by omega)]
      exact ⟨_, Grow.new _ _, rfl⟩
    · have h3 : decide (s ≥ 0) = true := by simp; omega
      have hr : ren r = none := by unfold ren; rw [hs]; simp [hneg]
      simp only [zaa, zac, zae, zah, zai, zaj, zak, zal, zam, zao, zaq, zax, zay, zaz, zbi, zbk, zbl, zbm, Nat.reduceEqDiff, Option.map_some, zbn, zbo, zby, zcc, zcn, zcq, zct, zcz, List.all_cons, List.all_nil, Bool.and_self, Bool.not_true, List.getElem?_cons_zero, List.getElem?_cons_succ, Nat.zero_add, Nat.add_zero, zdb, zdc, zdd, r_2, Nat.mul_one, Int.toNat_zero, zdi, Option.getD_none, Option.isSome_none, a_t, a_v, zdo, zdp, zdq, zds, zdt, zdu, zeb, zec, zed, zee, zef, zeg, zen, zeo, zep, if_true, if_false, h1', h2, hl, h3, hr]
      exact ⟨_, Grow.new _ _, rfl⟩
  · have h1' : ((r.right.length : Int) == 1) = false := by simp; omega
    have hn : ren r = none := by unfold ren; split <;> simp_all
    simp only [zaa, zac, zae, zah, zai, zaj, zak, zal, zam, zan, zao, zaq, zax, zay, zaz, zbi, zbk, zbl, zbm, Nat.reduceEqDiff, Option.map_some, zbn, zbo, zby, zcc, zcq, zct, zcz, List.all_cons, List.all_nil, Bool.and_self, Bool.not_false, List.getElem?_cons_zero, List.getElem?_cons_succ, Nat.zero_add, zdb, zdc, zdf, r_2, Option.getD_none, Option.isSome_none, a_t, a_v, zdo, zdp, zdq, zdr, zdu, zeb, zec, zef, zeg, zen, zeo, zep, if_true, if_false, h1', hn]
    exact ⟨_, Grow.new _ _, rfl⟩
theorem idxS_ok (H : FnIs P Y (I.f 696) 19 [.tmp 4] (c696 I)) {h : Hp} {a : Option (Nat × Nat)} {c : Cap} {l : List (List UInt8)} (hl : Strs h a l) {n : Nat} (hn : n = l.length) (hb : n ≤ 9223372036854775807) (s : List UInt8) :
    CW P Y (I.f 696) [.slice a n c, .str s] none h (fun q => ∃ n : Int, (0 ≤ n ↔ s ∈ l) ∧ q = .ret (iv n) none h) := by
  subst hn
  refine CW_ic H (Nat.le_of_ble_eq_true rfl) ?_
  unfold c696
  simp only [zaa, zac, zaf, zai, zaj, zak, zal, zam, zaq, zax, zay, zbi, zbk, zbl, zbm, Nat.reduceEqDiff, Nat.reduceAdd, zbn, Nat.zero_add, a_t, a_v, zdp, zeo, zep, if_true, if_false]
  refine s_loop (fun k st => ∃ (i : Nat) (F : Frm), k + i = l.length ∧ st = ⟨F, [], none, h⟩ ∧ gt F 0 = .slice a l.length c ∧ gt F 1 = .str s ∧ gt F 7 = .int .i64 l.length ∧ gt F 8 = .int .i64 i ∧ ∀ (j : Nat), j < i → l[j]? ≠ some s) l.length
    ⟨0, _, rfl, rfl, by simp only [zbk, Nat.reduceEqDiff, if_true, if_false], by simp only [zbk, Nat.reduceEqDiff, if_true, if_false], by simp only [zbk, Nat.reduceEqDiff, if_true, if_false], by simp only [zbk, Nat.reduceEqDiff, if_true, if_false]; rfl, fun j hj => by omega⟩ ?_
  rintro k _ ⟨i, F, hk, rfl, g0, g1, g7, g8, hn⟩
  by_cases hi : i < l.length
  · have e1 : decide ((i : Int) < (l.length : Int)) = true := by simp; omega
    obtain ⟨b, o, rfl, hld, hlow⟩ := hl.get hi
    by_cases he : l[i] = s
    · have e3 : (s == l[i]) = true := by simp [he]
      simp only [zaa, zab, zac, zae, zaf, zah, zai, zaj, zak, zal, zam, zao, zaq, zax, zay, zaz, zbd, zbi, zbk, Nat.reduceEqDiff, Option.map_some, zck, zcs, zcu, Bool.and_self, r_1, Nat.mul_one, Int.toNat_natCast, zdh, a_t, zdo, zdp, zdt, zdu, zed, zee, zef, zeg, if_true, if_false, g0, g1, g7, g8, e1, hld, e3]
      refine ⟨i, ⟨fun _ => he ▸ List.getElem_mem hi, fun _ => by omega⟩, rfl⟩
    · have e3 : (s == l[i]) = false := by simp; exact fun h => he h.symm
      simp only [zaa, zab, zac, zae, zaf, zai, zaj, zak, zal, zam, zao, zap, zaq, zax, zay, zbc, zbi, zbk, Nat.reduceEqDiff, Option.map_some, zch, zck, zcs, zcu, Bool.and_self, Nat.mul_one, Int.toNat_natCast, zdh, a_t, a_v, zdo, zdp, zdt, zdu, zed, zee, zef, zeg, if_true, if_false, g0, g1, g7, g8, e1, hld, e3]
      refine ⟨k - 1, by omega, i + 1, _, by omega, rfl, by simp only [zbk, Nat.reduceEqDiff, if_false, g0], by simp only [zbk, Nat.reduceEqDiff, if_false, g1], by simp only [zbk, Nat.reduceEqDiff, if_false, g7], ?_, fun j hj => ?_⟩
      · simp only [zbk, Nat.reduceEqDiff, if_true, if_false, g8]
        rw [wrap_i64 (by omega) (by omega)]
        rfl
      · rcases Nat.lt_or_ge j i with h | h
        · exact hn j h
        · obtain rfl : j = i := by omega
          rw [List.getElem?_eq_getElem hi]
          exact fun h => he (Option.some.inj h)
  · have e1 : decide ((i : Int) < (l.length : Int)) = false := by simp; omega
    simp only [zaa, zac, zae, zag, zah, zai, zaj, zak, zal, zam, zap, zaq, zax, zay, zba, zbe, zbi, zbk, Nat.reduceEqDiff, zck, r_1, a_t, a_v, zdo, zdp, zdt, if_true, if_false, g7, g8, e1]
    refine ⟨-1, ⟨fun h => by omega, fun h => ?_⟩, rfl⟩
    obtain ⟨j, hj, e⟩ := List.getElem_of_mem h
    exact absurd (by rw [List.getElem?_eq_getElem hj, e]) (hn j (by omega))
theorem contS_ok (H : FnIs P Y (I.f 764) 9 [.tmp 4] (c764 I)) (H1 : FnIs P Y (I.f 696) 19 [.tmp 4] (c696 I)) {h : Hp} {a : Option (Nat × Nat)} {c : Cap} {l : List (List UInt8)} (hl : Strs h a l) {n : Nat} (hn : n = l.length) (hb : n ≤ 9223372036854775807) (s : List UInt8) :
    CW P Y (I.f 764) [.slice a n c, .str s] none h (fun q => q = .ret (.bool (decide (s ∈ l))) none h) := by
  subst hn
  refine CW_ic H (Nat.le_of_ble_eq_true rfl) ?_
  unfold c764
  simp only [zaa, zac, zai, zaj, zak, zal, zam, zaq, zas, zax, zay, zbi, zbk, List.map_cons, List.map_nil, zbl, zbm, Nat.reduceEqDiff, Nat.reduceAdd, Nat.zero_add, a_t, a_v, zdp, zes, if_true, if_false]
  refine (idxS_ok H1 hl rfl hb s).mono ?_
  rintro _ ⟨n, hn, rfl⟩
  simp only [zah, zai, zaj, zak, zal, zam, zaq, zav, zax, zay, zbi, zbk, Nat.reduceEqDiff, zbn, zcn, r_1, a_t, a_v, zdo, zdp, zdt, if_true, if_false]
  congr 2
  simp only [ge_iff_le, hn]
/-- Is a name wrong? -/
def faultB (l : List (List UInt8)) (i : Nat) : Bool := match l[i]? with
  | some s => s.length == 0 || decide (32 < s.length) || decide (s ∈ l.take i)
  | none => true
theorem fault_ok (H : FnIs P Y (I.f 649) 26 [.tmp 4] (c649 I)) (H1 : FnIs P Y (I.f 764) 9 [.tmp 4] (c764 I)) (H2 : FnIs P Y (I.f 696) 19 [.tmp 4] (c696 I)) {h : Hp} {a : Option (Nat × Nat)} {c : Cap} {l : List (List UInt8)} (hl : Strs h a l) {n : Nat} (hn : n = l.length)
    (hb : n ≤ 9223372036854775807) {i : Nat} (hi : i < n) : CW P Y (I.f 649) [.slice a n c, .int .i64 i] none h (fun q => q = .ret (.bool (faultB l i)) none h) := by
  subst hn
  refine CW_ic H (Nat.le_of_ble_eq_true rfl) ?_
  unfold c649
  obtain ⟨b, o, rfl, hld, hlow⟩ := hl.get hi
  have e1 : decide ((i : Int) < (l.length : Int)) = true := by simp; omega
  have hf : faultB l i = (l[i].length == 0 || decide (32 < l[i].length) || decide (l[i] ∈ l.take i)) := by unfold faultB; rw [List.getElem?_eq_getElem hi]
  by_cases h0 : l[i].length = 0
  · have e2 : ((l[i].length : Int) == 0) = true := by simp [h0]
    simp only [zaa, zac, zae, zaf, zag, zah, zai, zaj, zak, zal, zam, zao, zaq, zax, zay, zaz, zba, zbc, zbd, zbe, zbi, zbk, zbl, zbm, Nat.reduceEqDiff, Option.map_some, Nat.reduceAdd, zcq, zcu, Bool.and_self, Nat.zero_add, r_1, Nat.mul_one, Int.toNat_natCast, zdh, a_t, a_v, zdo, zdp, zdu, zed, zee, zef, zeg, zeq, zer, if_true, if_false, e1, hld, e2]
    rw [hf]; simp [h0]
  · have e2 : ((l[i].length : Int) == 0) = false := bq_ne (by omega)
    by_cases h32 : 32 < l[i].length
    · have e3 : decide ((l[i].length : Int) > 32) = true := by simp; omega
      simp only [zaa, zab, zac, zae, zaf, zag, zah, zai, zaj, zak, zal, zam, zao, zap, zaq, zax, zay, zaz, zba, zbc, zbd, zbe, zbi, zbk, zbl, zbm, Nat.reduceEqDiff, Option.map_some, Nat.reduceAdd, zcm, zcq, zcu, Bool.and_self, Nat.zero_add, r_1, Nat.mul_one, Int.toNat_natCast, zdh, a_t, a_v, zdo, zdp, zdt, zdu, zed, zee, zef, zeg, zeq, zer, if_true, if_false, e1, hld, e2, e3]
      rw [hf]; simp [h32]
    · have e3 : decide ((l[i].length : Int) > 32) = false := by simp; omega
      have e4 : i ≤ l.length := by omega
      simp only [zaa, zab, zac, zad, zae, zaf, zai, zaj, zak, zal, zam, zap, zaq, zas, zax, zay, zbi, zbk, List.map_cons, List.map_nil, zbl, zbm, Nat.reduceEqDiff, Option.map_some, Nat.reduceAdd, zcm, zcq, zcu, Bool.and_self, Nat.zero_add, Nat.add_zero, Nat.mul_one, Int.toNat_natCast, zdh, Bool.true_and, zdj, zdm, Option.getD_none, Option.getD_some, Nat.zero_le, decide_true, Nat.sub_zero, Option.isSome_some, Bool.true_or, a_t, a_v, zdo, zdp, zdt, zdu, zed, zee, zef, zeg, zeq, zer, zes, zez, zfa, zfc, zfd, if_true, if_false, e1, hld, e2, e3, e4]
      have hs := hl.sub 0 i (Nat.zero_le _) e4
      simp only [Option.map_some, Nat.add_zero, Nat.sub_zero, List.drop_zero, List.drop_zero] at hs
      refine (contS_ok (n := i) H1 H2 hs (by rw [List.length_take]; omega) (by omega) l[i]).mono ?_
      rintro _ rfl
      by_cases hm : l[i] ∈ l.take i
      · have e5 : decide (l[i] ∈ l.take i) = true := by simp [hm]
        simp only [zaa, zac, zae, zag, zah, zai, zaj, zak, zal, zam, zao, zaq, zav, zax, zay, zaz, zba, zbc, zbd, zbe, zbg, zbi, zbk, Nat.reduceEqDiff, r_1, a_t, a_v, zdp, if_true, if_false, e5]
        rw [hf]; simp [hm]
      · have e5 : decide (l[i] ∈ l.take i) = false := by simp [hm]
        simp only [zaa, zab, zac, zae, zag, zah, zai, zaj, zak, zal, zam, zap, zaq, zav, zax, zay, zaz, zba, zbc, zbd, zbe, zbg, zbi, zbk, Nat.reduceEqDiff, r_1, a_t, a_v, zdp, if_true, if_false, e5]
        rw [hf]; simp [h32, hm]; intro e; rw [e] at h0; simp at h0
/-- Are all names right? -/
def namesB (l : List (List UInt8)) : Bool := decide (∀ i, i < l.length → faultB l i = false)
theorem names_ok (H : FnIs P Y (I.f 502) 13 [.tmp 2] (c502 I)) (H0 : FnIs P Y (I.f 649) 26 [.tmp 4] (c649 I)) (H1 : FnIs P Y (I.f 764) 9 [.tmp 4] (c764 I)) (H2 : FnIs P Y (I.f 696) 19 [.tmp 4] (c696 I)) {h : Hp} {a : Option (Nat × Nat)} {c : Cap} {l : List (List UInt8)} (hl : Strs h a l) {n : Nat} (hn : n = l.length)
    (hb : n ≤ 9223372036854775807) : CW P Y (I.f 502) [.slice a n c] none h (fun q => q = .ret (.bool (namesB l)) none h) := by
  subst hn
  refine CW_ic H (Nat.le_of_ble_eq_true rfl) ?_
  unfold c502
  simp only [zaa, zac, zaf, zai, zaj, zak, zal, zam, zaq, zax, zay, zbi, zbk, zbl, zbm, Nat.reduceEqDiff, Nat.zero_add, a_t, a_v, zdp, zeo, zep, if_true, if_false]
  refine s_loop (fun k st => ∃ (i : Nat) (F : Frm), k + i = l.length ∧ st = ⟨F, [], none, h⟩ ∧ gt F 0 = .slice a l.length c ∧ gt F 5 = .int .i64 l.length ∧ gt F 6 = .int .i64 i ∧ ∀ (j : Nat), j < i → faultB l j = false) l.length
    ⟨0, _, rfl, rfl, by simp only [zbk, Nat.reduceEqDiff, if_true, if_false], by simp only [zbk, Nat.reduceEqDiff, if_true, if_false], by simp only [zbk, Nat.reduceEqDiff, if_true, if_false]; rfl, fun j hj => by omega⟩ ?_
  rintro k _ ⟨i, F, hk, rfl, g0, g5, g6, hn⟩
  by_cases hi : i < l.length
  · have e1 : decide ((i : Int) < (l.length : Int)) = true := by simp; omega
    simp only [zaa, zab, zac, zae, zaf, zai, zaj, zak, zal, zam, zao, zaq, zas, zax, zay, zbi, zbk, List.map_cons, List.map_nil, Nat.reduceEqDiff, zck, a_t, zdo, zdp, zdt, zes, if_true, if_false, g0, g5, g6, e1]
    refine (fault_ok H0 H1 H2 hl rfl hb hi).mono ?_
    rintro _ rfl
    cases he : faultB l i with
    | true =>
      simp only [zaa, zac, zae, zah, zai, zaj, zak, zal, zam, zao, zaq, zav, zax, zay, zaz, zbd, zbi, zbk, Nat.reduceEqDiff, r_1, a_t, a_v, zdp, if_true, if_false]
      have : namesB l = false := by unfold namesB; simp; exact ⟨i, hi, he⟩
      rw [this]
    | false =>
      simp only [zab, zac, zae, zai, zaj, zak, zal, zam, zap, zaq, zav, zax, zay, zbc, zbi, zbk, Nat.reduceEqDiff, zch, a_t, a_v, zdo, zdp, zdt, if_true, if_false, g6]
      refine ⟨k - 1, by omega, i + 1, _, by omega, rfl, by simp only [zbk, Nat.reduceEqDiff, if_false, g0], by simp only [zbk, Nat.reduceEqDiff, if_false, g5], ?_, fun j hj => ?_⟩
      · simp only [zbk, Nat.reduceEqDiff, if_true, if_false]
        rw [wrap_i64 (by omega) (by omega)]
        rfl
      · rcases Nat.lt_or_ge j i with h | h
        · exact hn j h
        · obtain rfl : j = i := by omega
          exact he
  · have e1 : decide ((i : Int) < (l.length : Int)) = false := by simp; omega
    simp only [zaa, zac, zae, zag, zah, zai, zaj, zak, zal, zam, zap, zaq, zax, zay, zba, zbe, zbi, zbk, Nat.reduceEqDiff, zck, r_1, a_t, a_v, zdo, zdp, zdt, if_true, if_false, g5, g6, e1]
    have : namesB l = true := by unfold namesB; simp; exact fun j hj => hn j (by omega)
    rw [this]
end Go.Vm
/- What gram.Check comes to, and what it calls. -/
namespace Go.Vm
open Ch
variable {P : Program} {Y : Fns} {I : Ids}
/-! ### Errors -/
inductive Err where
  | sent (k : Nat)
  | rule (i : Int) (k : Nat)
  deriving DecidableEq
def ErrV (I : Ids) (h : Hp) (v : V) : Option Err → Prop
  | none => v = .nilIface
  | some (.sent k) => v = sentV I k
  | some (.rule i k) => ∃ b, v = .iface (I.t 383) (.ptr (some (b, 0))) ∧ Own h b [.int .i64 i, sentV I k] (I.t 386)
theorem ErrV.grow {h h' : Hp} {v : V} {e : Option Err} (k : ErrV I h v e) (g : Grow h h') : ErrV I h' v e := by
  match e, k with
  | none, k => exact k
  | some (.sent _), k => exact k
  | some (.rule _ _), ⟨b, h1, h2⟩ => exact ⟨b, h1, h2.grow g⟩
theorem ErrV.isNil {h : Hp} {v : V} {e : Option Err} (k : ErrV I h v e) : isNilV 1 v = some e.isNone := by
  match e, k with
  | none, k => rw [show v = _ from k]; rfl
  | some (.sent _), k => rw [show v = _ from k]; rfl
  | some (.rule _ _), ⟨b, h1, h2⟩ => rw [h1]; rfl

/-! ### Places of what meets a condition -/
/-- A function value that answers p, whatever was made since. -/
structure Answers (P : Program) (Y : Fns) (h : Hp) (f : FuncId) (first caps : List V) (x : V) (b : Bool) : Prop where
  is : ∀ h' , Grow h h' → CW P Y f (first ++ [x] ++ caps) none h' fun q => ∃ h2, Grow h' h2 ∧ q = .ret (.bool b) none h2
/-- The first place. -/
def FirstAt {α : Type} (p : α → Bool) (l : List α) (m : Int) : Prop := (m = -1 ∧ ∀ x ∈ l, p x = false) ∨ ∃ (i : Nat) (x : α), m = i ∧ l[i]? = some x ∧ p x = true ∧ ∀ (j : Nat) (y : α), j < i → l[j]? = some y → p y = false
theorem FirstAt.any {α : Type} {p : α → Bool} {l : List α} {m : Int} (h : FirstAt p l m) : decide (m ≥ 0) = l.any p := by
  rcases h with ⟨rfl, h⟩ | ⟨i, x, rfl, h1, h2, _⟩
  · have : l.any p = false := by rw [List.any_eq_false]; intro x hx; simp [h x hx]
    rw [this]; rfl
  · have : l.any p = true := List.any_eq_true.2 ⟨x, List.mem_of_getElem? h1, h2⟩
    rw [this]; simp
theorem idxI_ok (H : FnIs P Y (I.f 527) 19 [.tmp 4] (c527 I)) {h : Hp} {a : Option (Nat × Nat)} {c : Cap} {l : List Int} (hl : Ints h a l) {n : Nat} (hn : n = l.length) (hb : n ≤ 9223372036854775807) {f : FuncId} {first caps : List V} {p : Int → Bool}
    (hc : ∀ h args, callV P h f args = .enter f args) (hp : ∀ x ∈ l, Answers P Y h f first caps (.int .i64 x) (p x)) :
    CW P Y (I.f 527) [.slice a n c, .func f first caps] none h (fun q => ∃ m h', FirstAt p l m ∧ Grow h h' ∧ q = .ret (.int .i64 m) none h') := by
  subst hn
  refine CW_ic H (Nat.le_of_ble_eq_true rfl) ?_
  unfold c527
  simp only [zaa, zac, zaf, zai, zaj, zak, zal, zam, zaq, zax, zay, zbi, zbk, zbl, zbm, Nat.reduceEqDiff, Nat.reduceAdd, Nat.zero_add, a_t, a_v, zdp, zeo, zep, if_true, if_false]
  refine s_loop (fun k st => ∃ (i : Nat) (F : Frm) (h' : Hp), k + i = l.length ∧ st = ⟨F, [], none, h'⟩ ∧ Grow h h' ∧ gt F 0 = .slice a l.length c ∧ gt F 1 = .func f first caps ∧ gt F 7 = .int .i64 l.length ∧ gt F 8 = .int .i64 i ∧ ∀ (j : Nat) (y : Int), j < i → l[j]? = some y → p y = false) l.length
    ⟨0, _, _, rfl, rfl, .refl _, by simp only [zbk, Nat.reduceEqDiff, if_true, if_false], by simp only [zbk, Nat.reduceEqDiff, if_true, if_false], by simp only [zbk, Nat.reduceEqDiff, if_true, if_false], by simp only [zbk, Nat.reduceEqDiff, if_true, if_false]; rfl, fun j y hj => by omega⟩ ?_
  rintro k _ ⟨i, F, h', hk, rfl, hg, g0, g1, g7, g8, hn⟩
  by_cases hi : i < l.length
  · have e1 : decide ((i : Int) < (l.length : Int)) = true := by simp; omega
    obtain ⟨b, o, rfl, hld, hlow⟩ := (hl.grow hg).get hi
    simp only [zbn] at hld
    simp only [zaa, zab, zac, zae, zaf, zai, zaj, zak, zal, zam, zao, zaq, zas, zax, zay, zbi, zbk, List.map_cons, List.map_nil, Nat.reduceEqDiff, zck, Bool.and_self, Nat.mul_one, Int.toNat_natCast, zdh, a_t, zdo, zdp, zdt, zed, zee, zef, zeg, zet, zeu, if_true, if_false, g0, g1, g7, g8, e1, hld, hc]
    refine ((hp _ (List.getElem_mem hi)).is h' hg).mono ?_
    rintro _ ⟨h2, hg2, rfl⟩
    cases he : p l[i] with
    | true =>
      simp only [zaa, zac, zae, zah, zai, zaj, zak, zal, zam, zao, zaq, zav, zax, zay, zaz, zbd, zbi, zbk, Nat.reduceEqDiff, r_1, a_t, zdp, if_true, if_false]
      exact ⟨i, h2, .inr ⟨i, l[i], rfl, List.getElem?_eq_getElem hi, he, hn⟩, hg.trans hg2, rfl⟩
    | false =>
      simp only [zab, zac, zae, zai, zaj, zak, zal, zam, zap, zaq, zav, zax, zay, zbc, zbi, zbk, Nat.reduceEqDiff, zch, a_t, a_v, zdo, zdp, zdt, if_true, if_false, g8]
      refine ⟨k - 1, by omega, i + 1, _, h2, by omega, rfl, hg.trans hg2, by simp only [zbk, Nat.reduceEqDiff, if_false, g0], by simp only [zbk, Nat.reduceEqDiff, if_false, g1], by simp only [zbk, Nat.reduceEqDiff, if_false, g7], ?_, fun j y hj hy => ?_⟩
      · simp only [zbk, Nat.reduceEqDiff, if_true, if_false]
        rw [wrap_i64 (by omega) (by omega)]
        rfl
      · rcases Nat.lt_or_ge j i with h | h
        · exact hn j y h hy
        · obtain rfl : j = i := by omega
          rw [List.getElem?_eq_getElem hi] at hy
          cases hy
          exact he
  · have e1 : decide ((i : Int) < (l.length : Int)) = false := by simp; omega
    simp only [zaa, zac, zae, zag, zah, zai, zaj, zak, zal, zam, zap, zaq, zax, zay, zba, zbe, zbi, zbk, Nat.reduceEqDiff, zck, r_1, a_t, a_v, zdo, zdp, zdt, if_true, if_false, g7, g8, e1]
    refine ⟨-1, h', .inl ⟨rfl, fun x hx => ?_⟩, hg, rfl⟩
    obtain ⟨j, hj, e⟩ := List.getElem_of_mem hx
    exact hn j x (by omega) (by rw [List.getElem?_eq_getElem hj, e])
theorem idxR_ok (H : FnIs P Y (I.f 372) 19 [.tmp 4] (c372 I)) {h : Hp} {a : Option (Nat × Nat)} {c : Cap} {l : List GRule} (hl : Rules h a l) {n : Nat} (hn : n = l.length) (hb : n ≤ 9223372036854775807) {f : FuncId} {first caps : List V} {p : GRule → Bool}
    (hc : ∀ h args, callV P h f args = .enter f args) (hp : ∀ r ∈ l, ∀ h' row, Grow h h' → RuleC h' row r → Answers P Y h' f first caps (.agg row) (p r)) :
    CW P Y (I.f 372) [.slice a n c, .func f first caps] none h (fun q => ∃ m h', FirstAt p l m ∧ Grow h h' ∧ q = .ret (.int .i64 m) none h') := by
  subst hn
  refine CW_ic H (Nat.le_of_ble_eq_true rfl) ?_
  unfold c372
  simp only [zaa, zac, zaf, zai, zaj, zak, zal, zam, zaq, zax, zay, zbi, zbk, zbl, zbm, Nat.reduceEqDiff, Nat.reduceAdd, Nat.zero_add, a_t, a_v, zdp, zeo, zep, if_true, if_false]
  refine s_loop (fun k st => ∃ (i : Nat) (F : Frm) (h' : Hp), k + i = l.length ∧ st = ⟨F, [], none, h'⟩ ∧ Grow h h' ∧ gt F 0 = .slice a l.length c ∧ gt F 1 = .func f first caps ∧ gt F 7 = .int .i64 l.length ∧ gt F 8 = .int .i64 i ∧ ∀ (j : Nat) (y : GRule), j < i → l[j]? = some y → p y = false) l.length
    ⟨0, _, _, rfl, rfl, .refl _, by simp only [zbk, Nat.reduceEqDiff, if_true, if_false], by simp only [zbk, Nat.reduceEqDiff, if_true, if_false], by simp only [zbk, Nat.reduceEqDiff, if_true, if_false], by simp only [zbk, Nat.reduceEqDiff, if_true, if_false]; rfl, fun j y hj => by omega⟩ ?_
  rintro k _ ⟨i, F, h', hk, rfl, hg, g0, g1, g7, g8, hn⟩
  by_cases hi : i < l.length
  · have e1 : decide ((i : Int) < (l.length : Int)) = true := by simp; omega
    obtain ⟨b, o, a', c', rfl, hat, hin⟩ := (hl.grow hg).get hi
    have hld := hat.loadL
    simp only [List.length_cons, List.length_nil, Nat.zero_add, Nat.reduceAdd, zbn] at hld
    simp only [zaa, zab, zac, zae, zaf, zai, zaj, zak, zal, zam, zao, zaq, zas, zax, zay, zbi, zbk, List.map_cons, List.map_nil, Nat.reduceEqDiff, Option.map_some, zck, Bool.and_self, Int.toNat_natCast, zdh, a_t, zdo, zdp, zdt, zed, zee, zeh, zei, zet, zeu, if_true, if_false, g0, g1, g7, g8, e1, hld, hc]
    refine ((hp _ (List.getElem_mem hi) h' _ hg ⟨a', c', rfl, hin⟩).is h' (.refl _)).mono ?_
    rintro _ ⟨h2, hg2, rfl⟩
    cases he : p l[i] with
    | true =>
      simp only [zaa, zac, zae, zah, zai, zaj, zak, zal, zam, zao, zaq, zav, zax, zay, zaz, zbd, zbi, zbk, Nat.reduceEqDiff, r_1, a_t, zdp, if_true, if_false]
      exact ⟨i, h2, .inr ⟨i, l[i], rfl, List.getElem?_eq_getElem hi, he, hn⟩, hg.trans hg2, rfl⟩
    | false =>
      simp only [zab, zac, zae, zai, zaj, zak, zal, zam, zap, zaq, zav, zax, zay, zbc, zbi, zbk, Nat.reduceEqDiff, zch, a_t, a_v, zdo, zdp, zdt, if_true, if_false, g8]
      refine ⟨k - 1, by omega, i + 1, _, h2, by omega, rfl, hg.trans hg2, by simp only [zbk, Nat.reduceEqDiff, if_false, g0], by simp only [zbk, Nat.reduceEqDiff, if_false, g1], by simp only [zbk, Nat.reduceEqDiff, if_false, g7], ?_, fun j y hj hy => ?_⟩
      · simp only [zbk, Nat.reduceEqDiff, if_true, if_false]
        rw [wrap_i64 (by omega) (by omega)]
        rfl
      · rcases Nat.lt_or_ge j i with h | h
        · exact hn j y h hy
        · obtain rfl : j = i := by omega
          rw [List.getElem?_eq_getElem hi] at hy
          cases hy
          exact he
  · have e1 : decide ((i : Int) < (l.length : Int)) = false := by simp; omega
    simp only [zaa, zac, zae, zag, zah, zai, zaj, zak, zal, zam, zap, zaq, zax, zay, zba, zbe, zbi, zbk, Nat.reduceEqDiff, zck, r_1, a_t, a_v, zdo, zdp, zdt, if_true, if_false, g7, g8, e1]
    refine ⟨-1, h', .inl ⟨rfl, fun x hx => ?_⟩, hg, rfl⟩
    obtain ⟨j, hj, e⟩ := List.getElem_of_mem hx
    exact hn j x (by omega) (by rw [List.getElem?_eq_getElem hj, e])
theorem contI_ok (H : FnIs P Y (I.f 363) 9 [.tmp 4] (c363 I)) (H1 : FnIs P Y (I.f 527) 19 [.tmp 4] (c527 I)) {h : Hp} {a : Option (Nat × Nat)} {c : Cap} {l : List Int} (hl : Ints h a l) {n : Nat} (hn : n = l.length) (hb : n ≤ 9223372036854775807) {f : FuncId} {first caps : List V} {p : Int → Bool}
    (hc : ∀ h args, callV P h f args = .enter f args) (hp : ∀ x ∈ l, Answers P Y h f first caps (.int .i64 x) (p x)) : Gives P Y (I.f 363) [.slice a n c, .func f first caps] h (.bool (l.any p)) := by
  refine CW_ic H (Nat.le_of_ble_eq_true rfl) ?_
  unfold c363
  simp only [zaa, zac, zai, zaj, zak, zal, zam, zaq, zas, zax, zay, zbi, zbk, List.map_cons, List.map_nil, zbl, zbm, Nat.reduceEqDiff, Nat.reduceAdd, Nat.zero_add, a_t, a_v, zdp, zes, if_true, if_false]
  refine (idxI_ok H1 hl hn hb hc hp).mono ?_
  rintro _ ⟨m, h', hf, hg, rfl⟩
  simp only [zah, zai, zaj, zak, zal, zam, zaq, zav, zax, zay, zbi, zbk, Nat.reduceEqDiff, zcn, r_1, a_t, a_v, zdo, zdp, zdt, if_true, if_false, hf.any]
  exact ⟨h', hg, rfl⟩
end Go.Vm
