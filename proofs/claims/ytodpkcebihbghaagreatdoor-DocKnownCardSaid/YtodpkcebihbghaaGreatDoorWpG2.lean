/- What small functions come to: renamings, names, places in lists. -/
import Derived.Test.YtodpkcebihbghaaGreatDoorWpF1
import Derived.Test.YtodpkcebihbghaaGreatDoorWpUtil
import Derived.Test.YtodpkcebihbghaaGreatDoorChainPure
set_option linter.unusedVariables false
set_option linter.unusedSimpArgs false
namespace Go.Vm
open Ch
variable {P : Program} {Y : Fns} {I : Ids}
end Go.Vm
/- What gram.Check comes to, and what it calls. -/
namespace Go.Vm
open Ch
variable {P : Program} {Y : Fns} {I : Ids}
/-! ### Errors -/
inductive Err where
  | sent (k : Nat)
  | rule (i : Int) (k : Nat)
  deriving DecidableEq
def ErrV (I : Ids) (h : Hp) (v : V) : Option Err → Prop
  | none => v = .nilIface
  | some (.sent k) => v = sentV I k
  | some (.rule i k) => ∃ b, v = .iface (I.t 383) (.ptr (some (b, 0))) ∧ Own h b [.int .i64 i, sentV I k] (I.t 386)
theorem ErrV.grow {h h' : Hp} {v : V} {e : Option Err} (k : ErrV I h v e) (g : Grow h h') : ErrV I h' v e := by
  match e, k with
  | none, k => exact k
  | some (.sent _), k => exact k
  | some (.rule _ _), ⟨b, h1, h2⟩ => exact ⟨b, h1, h2.grow g⟩
theorem ErrV.isNil {h : Hp} {v : V} {e : Option Err} (k : ErrV I h v e) : isNilV 1 v = some e.isNone := by
  match e, k with
  | none, k => rw [show v = _ from k]; rfl
  | some (.sent _), k => rw [show v = _ from k]; rfl
  | some (.rule _ _), ⟨b, h1, h2⟩ => rw [h1]; rfl

/-! ### Places of what meets a condition -/
/-- A function value that answers p, whatever was made since. -/
structure Answers (P : Program) (Y : Fns) (h : Hp) (f : FuncId) (first caps : List V) (x : V) (b : Bool) : Prop where
  is : ∀ h' , Grow h h' → CW P Y f (first ++ [x] ++ caps) none h' fun q => ∃ h2, Grow h' h2 ∧ q = .ret (.bool b) none h2
/-- The first place. -/
def FirstAt {α : Type} (p : α → Bool) (l : List α) (m : Int) : Prop := (m = -1 ∧ ∀ x ∈ l, p x = false) ∨ ∃ (i : Nat) (x : α), m = i ∧ l[i]? = some x ∧ p x = true ∧ ∀ (j : Nat) (y : α), j < i → l[j]? = some y → p y = false
theorem FirstAt.any {α : Type} {p : α → Bool} {l : List α} {m : Int} (h : FirstAt p l m) : decide (m ≥ 0) = l.any p := by
  rcases h with ⟨rfl, h⟩ | ⟨i, x, rfl, h1, h2, _⟩
  · have : l.any p = false := by rw [List.any_eq_false]; intro x hx; simp [h x hx]
    rw [this]; rfl
  · have : l.any p = true := List.any_eq_true.2 ⟨x, List.mem_of_getElem? h1, h2⟩
    rw [this]; simp
theorem idxI_ok (H : FnIs P Y (I.f 527) 19 [.tmp 4] (c527 I)) {h : Hp} {a : Option (Nat × Nat)} {c : Cap} {l : List Int} (hl : Ints h a l) {n : Nat} (hn : n = l.length) (hb : n ≤ 9223372036854775807) {f : FuncId} {first caps : List V} {p : Int → Bool}
    (hc : ∀ h args, callV P h f args = .enter f args) (hp : ∀ x ∈ l, Answers P Y h f first caps (.int .i64 x) (p x)) :
    CW P Y (I.f 527) [.slice a n c, .func f first caps] none h (fun q => ∃ m h', FirstAt p l m ∧ Grow h h' ∧ q = .ret (.int .i64 m) none h') := by
  subst hn
  refine CW_ic H (Nat.le_of_ble_eq_true rfl) ?_
  unfold c527
  simp only [zaa, zac, zaf, zai, zaj, zak, zal, zam, zaq, zax, zay, zbi, zbk, zbl, zbm, Nat.reduceEqDiff, Nat.reduceAdd, Nat.zero_add, a_t, a_v, zdp, zeo, zep, if_true, if_false]
  refine s_loop (fun k st => ∃ (i : Nat) (F : Frm) (h' : Hp), k + i = l.length ∧ st = ⟨F, [], none, h'⟩ ∧ Grow h h' ∧ gt F 0 = .slice a l.length c ∧ gt F 1 = .func f first caps ∧ gt F 7 = .int .i64 l.length ∧ gt F 8 = .int .i64 i ∧ ∀ (j : Nat) (y : Int), j < i → l[j]? = some y → p y = false) l.length
    ⟨0, _, _, rfl, rfl, .refl _, by simp only [zbk, Nat.reduceEqDiff, if_true, if_false], by simp only [zbk, Nat.reduceEqDiff, if_true, if_false], by simp only [zbk, Nat.reduceEqDiff, if_true, if_false], by simp only [zbk, Nat.reduceEqDiff, if_true, if_false]; rfl, fun j y hj => by omega⟩ ?_
  rintro k _ ⟨i, F, h', hk, rfl, hg, g0, g1, g7, g8, hn⟩
  by_cases hi : i < l.length
  · have e1 : decide ((i : Int) < (l.length : Int)) = true := by simp; omega
    obtain ⟨b, o, rfl, hld, hlow⟩ := (hl.grow hg).get hi
    simp only [zbn] at hld
    simp only [zaa, zab, zac, zae, zaf, zai, zaj, zak, zal, zam, zao, zaq, zas, zax, zay, zbi, zbk, List.map_cons, List.map_nil, Nat.reduceEqDiff, zck, Bool.and_self, Nat.mul_one, Int.toNat_natCast, zdh, a_t, zdo, zdp, zdt, zed, zee, zef, zeg, zeu, zev, if_true, if_false, g0, g1, g7, g8, e1, hld, hc]
    refine ((hp _ (List.getElem_mem hi)).is h' hg).mono ?_
    rintro _ ⟨h2, hg2, rfl⟩
    cases he : p l[i] with
    | true =>
      simp only [zaa, zac, zae, zah, zai, zaj, zak, zal, zam, zao, zaq, zav, zax, zay, zaz, zbd, zbi, zbk, Nat.reduceEqDiff, r_1, a_t, zdp, if_true, if_false]
      exact ⟨i, h2, .inr ⟨i, l[i], rfl, List.getElem?_eq_getElem hi, he, hn⟩, hg.trans hg2, rfl⟩
    | false =>
      simp only [zab, zac, zae, zai, zaj, zak, zal, zam, zap, zaq, zav, zax, zay, zbc, zbi, zbk, Nat.reduceEqDiff, zch, a_t, a_v, zdo, zdp, zdt, if_true, if_false, g8]
      refine ⟨k - 1, by omega, i + 1, _, h2, by omega, rfl, hg.trans hg2, by simp only [zbk, Nat.reduceEqDiff, if_false, g0], by simp only [zbk, Nat.reduceEqDiff, if_false, g1], by simp only [zbk, Nat.reduceEqDiff, if_false, g7], ?_, fun j y hj hy => ?_⟩
      · simp only [zbk, Nat.reduceEqDiff, if_true, if_false]
        rw [wrap_i64 (by omega) (by omega)]
        rfl
      · rcases Nat.lt_or_ge j i with h | h
        · exact hn j y h hy
        · obtain rfl : j = i := by omega
          rw [List.getElem?_eq_getElem hi] at hy
          cases hy
          exact he
  · have e1 : decide ((i : Int) < (l.length : Int)) = false := by simp; omega
    simp only [zaa, zac, zae, zag, zah, zai, zaj, zak, zal, zam, zap, zaq, zax, zay, zba, zbe, zbi, zbk, Nat.reduceEqDiff, zck, r_1, a_t, a_v, zdo, zdp, zdt, if_true, if_false, g7, g8, e1]
    refine ⟨-1, h', .inl ⟨rfl, fun x hx => ?_⟩, hg, rfl⟩
    obtain ⟨j, hj, e⟩ := List.getElem_of_mem hx
    exact hn j x (by omega) (by rw [List.getElem?_eq_getElem hj, e])
theorem contI_ok (H : FnIs P Y (I.f 363) 9 [.tmp 4] (c363 I)) (H1 : FnIs P Y (I.f 527) 19 [.tmp 4] (c527 I)) {h : Hp} {a : Option (Nat × Nat)} {c : Cap} {l : List Int} (hl : Ints h a l) {n : Nat} (hn : n = l.length) (hb : n ≤ 9223372036854775807) {f : FuncId} {first caps : List V} {p : Int → Bool}
    (hc : ∀ h args, callV P h f args = .enter f args) (hp : ∀ x ∈ l, Answers P Y h f first caps (.int .i64 x) (p x)) : Gives P Y (I.f 363) [.slice a n c, .func f first caps] h (.bool (l.any p)) := by
  refine CW_ic H (Nat.le_of_ble_eq_true rfl) ?_
  unfold c363
  simp only [zaa, zac, zai, zaj, zak, zal, zam, zaq, zas, zax, zay, zbi, zbk, List.map_cons, List.map_nil, zbl, zbm, Nat.reduceEqDiff, Nat.reduceAdd, Nat.zero_add, a_t, a_v, zdp, zet, if_true, if_false]
  refine (idxI_ok H1 hl hn hb hc hp).mono ?_
  rintro _ ⟨m, h', hf, hg, rfl⟩
  simp only [zah, zai, zaj, zak, zal, zam, zaq, zav, zax, zay, zbi, zbk, Nat.reduceEqDiff, zcn, r_1, a_t, a_v, zdo, zdp, zdt, if_true, if_false, hf.any]
  exact ⟨h', hg, rfl⟩
end Go.Vm
