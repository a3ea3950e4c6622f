/- The statement StoreSumsUptoSaid: the sum of any parts is the sum of all their bytes in one, and the parts stay; where the parts and their bytes, spare places too, count at most 1,048,576. -/
import Derived.Test.YtmopdelkepkacaaRows
import Derived.Test.YtmopdelkepkacaaSumsC
import Derived.WalkKit
import Derived.ProofKit
import Derived.OpenShut
import Derived.ShutString
import Derived.ChangeOld
import Derived.Below
import Derived.JoinedCond
import Derived.Deep.Matrix
namespace Go.Proofs.Ytmopdelkepkacaa.SumsD
open Go.ChangeShapes Go.WideShapes Go.ChangeAt Go.RowKit Go.Proofs.YtmopdelkepkacaaW.PrintWords
set_option linter.unusedVariables false

theorem own : ownKnob Try.prog.godebug = none := by kernel_rfl
theorem laidOut : laidOutB Try.prog = true := by kernel_rfl

theorem one_le {H : Type} (d : DataW H) : 1 ≤ Rows.uptoBulk d := by
  cases d with
  | lit l => cases l <;> simp [Rows.uptoBulk]
  | nil => simp [Rows.uptoBulk]
  | ptr d => simp [Rows.uptoBulk]
  | slice elems spare => simp [Rows.uptoBulk]
  | agg parts => simp [Rows.uptoBulk]
  | iface t d => simp [Rows.uptoBulk]
  | map entries => simp [Rows.uptoBulk]
  | held h => simp [Rows.uptoBulk]
theorem length_le {H : Type} (l : List (DataW H)) : l.length ≤ Rows.uptoBulkAll l := by
  induction l with
  | nil => simp [Rows.uptoBulkAll]
  | cons x r ih => have := one_le x; simp only [Rows.uptoBulkAll, List.length_cons]; omega
theorem lists_le {H : Type} (f : Nat → DataW H) (g : Nat → List Int) : ∀ rs : List Nat, (∀ r ∈ rs, (g r).length ≤ Rows.uptoBulk (f r)) →
    (rs.map g).flatten.length ≤ Rows.uptoBulkAll (rs.map f) ∧ ∀ p ∈ rs.map g, p.length ≤ Rows.uptoBulkAll (rs.map f)
  | [], _ => by simp
  | r :: rs, h => by
    obtain ⟨h1, h2⟩ := lists_le f g rs (fun x hx => h x (List.mem_cons_of_mem _ hx))
    have h0 := h r List.mem_cons_self
    simp only [List.map_cons, List.flatten_cons, List.length_append, Rows.uptoBulkAll]
    refine ⟨by omega, fun p hp => ?_⟩
    rcases List.mem_cons.1 hp with rfl | hp
    · omega
    · have := h2 p hp; omega

/-- An argument's rows, and what the bound says of them. -/
theorem opened {H : Type} {enc : TypeId × Value → H} {W : World} {a : Option Addr} {len cap : Nat} {d : DataW H} {p : List MemPlace}
    (h : DataW.Trod enc Try.prog W 0 (fun _ => true) true 22 (.slice a len cap) d p) (hk : Rows.uptoBulkAll [d] ≤ 1048576) :
    ∃ l : List (List Int), len = l.length ∧ l.length ≤ cap ∧ Kd.C (Kd.slice 5 (Kd.int .u8)) W a l.length l ∧ l.length ≤ 1048576 ∧ l.flatten.length ≤ 1048576 ∧ ∀ q ∈ l, q.length ≤ 1048576 := by
  obtain ⟨fuel, hf⟩ := h
  rcases Go.Deep.open_int_rows Try.underlying22 Try.underlying23 Try.underlying5 (by kernel_rfl) (by kernel_rfl) hf with ⟨hcs, _⟩ | ⟨ad, n, c, A, L, C, Z, hcs, _, hl, hm, hx, hr⟩
  · simp [Value.cells] at hcs
    obtain ⟨rfl, rfl, rfl⟩ := hcs
    exact ⟨[], rfl, Nat.le_refl _, Kd.C_nil _ _, by simp, by simp, by simp⟩
  · simp [Value.cells] at hcs
    obtain ⟨rfl, rfl, rfl⟩ := hcs
    obtain ⟨rfl, rfl⟩ := Prod.mk.inj hx
    simp only [Rows.uptoBulkAll, Rows.uptoBulk] at hk
    have hll : ((List.range len).map fun r => (Z r).take (L r)).length = len := by simp
    have hrow : ∀ r ∈ List.range len, ((Z r).take (L r)).length ≤ Rows.uptoBulk (Go.Deep.intRow (H := H) .u8 (A r) (L r) (Z r)) := fun r hr' => by
      obtain ⟨_, h1, h2, h3, _, h5, _⟩ := hr r (by have := List.mem_range.1 hr'; omega)
      unfold Go.Deep.intRow
      cases hA : A r with
      | none => have := h5 hA; simp only [List.length_take]; omega
      | some x =>
        have := length_le (lits (H := H) .u8 ((Z r).take (L r)))
        have hlen : (lits (H := H) .u8 ((Z r).take (L r))).length = ((Z r).take (L r)).length := by simp [lits]
        simp only [Rows.uptoBulk]
        omega
    obtain ⟨b1, b2⟩ := lists_le (fun r => Go.Deep.intRow (H := H) .u8 (A r) (L r) (Z r)) (fun r => (Z r).take (L r)) (List.range len) hrow
    have b3 := length_le ((List.range len).map fun r => Go.Deep.intRow (H := H) .u8 (A r) (L r) (Z r))
    rw [List.length_map, List.length_range] at b3
    refine ⟨(List.range len).map fun r => (Z r).take (L r), hll.symm, by omega, ?_, by omega, by omega, fun q hq => by have := b2 q hq; omega⟩
    rw [hll]
    unfold maxLen at hm
    refine ⟨hll, by omega, fun _ => ⟨ad, rfl, fun j q hj => ?_⟩⟩
    have hjl : j < len := by have := (List.getElem?_eq_some_iff.1 hj).1; omega
    rw [List.getElem?_map, List.getElem?_range hjl] at hj
    have hj2 : (Z j).take (L j) = q := Option.some.inj hj
    subst hj2
    obtain ⟨h0, h1, h2, h3, _, h5, h6⟩ := hr j (by omega)
    unfold maxLen at h2
    have hlj : ((Z j).take (L j)).length = L j := by rw [List.length_take]; omega
    refine ⟨[.slice (A j) (L j) (C j)], rfl, ⟨A j, C j, by rw [hlj], by omega, ?_⟩, fun i u hu => ?_⟩
    · rw [hlj]
      refine ⟨hlj, by omega, fun hpos => ?_⟩
      cases hA : A j with
      | none => have := h5 hA; omega
      | some x =>
        refine ⟨x, rfl, fun i q hq => ⟨[.int .u8 q], rfl, rfl, fun i' u hu => ?_⟩⟩
        have hil : i < L j := by have := (List.getElem?_eq_some_iff.1 hq).1; omega
        have hi' : i' = 0 := by have := (List.getElem?_eq_some_iff.1 hu).1; simpa using this
        subst hi'
        obtain rfl : Value.int .u8 q = u := by simpa using hu
        rw [List.getElem?_take] at hq
        rw [if_pos hil] at hq
        have := (h6 x hA).2 i (by omega)
        rw [List.getD_eq_getElem?_getD, hq] at this
        show W.cell? (x.add (i * 1 + 0)) = _
        rw [Nat.mul_one, Nat.add_zero]
        exact this
    · have hi : i = 0 := by have := (List.getElem?_eq_some_iff.1 hu).1; simpa using this
      subst hi
      obtain rfl : Value.slice (A j) (L j) (C j) = u := by simpa using hu
      show W.cell? (ad.add (j * 1 + 0)) = _
      rw [Nat.mul_one, Nat.add_zero]
      exact h0

theorem contract (H : Type) (enc : TypeId × Value → H) (W : World) (base : Nat) (args : Array Value) (ds gs : List (DataW H)) (before : List MemPlace)
    (hval : ∀ (j : Nat) t v, Try.f3.params[j]? = some t → args[j]? = some v → Value.okWide Try.prog W .any base t v)
    (hW : DataW.Whole enc Try.prog Try.f3.params.toList Rows.storeSumsSpec.vars false W args.toList ds gs before) (hk : Rows.uptoSmall H (ds ++ gs) = true) :
    Calls Try.prog 3 args W fun e W' => ∃ v, e = .returned v ∧ Rows.storeSumsSpec.post enc Try.prog Try.f3 false true false false W args v W' := by
  have hW' := hW
  obtain ⟨p, q, hA0, hV, rfl, hfz, hnd⟩ := hW
  have hA : DataW.TrodAll enc Try.prog W 0 (fun _ => true) true Try.f3.params.toList args.toList ds p := hA0
  rw [Try.params3] at hA hval
  obtain ⟨v0, vs0, d0, ds0, p0, q0, hargs, rfl, rfl, h0, r0⟩ := trodAll_cons hA
  obtain ⟨rfl, rfl, rfl⟩ := trodAll_nil r0
  obtain rfl : args = #[v0] := by cases args; simp_all
  obtain ⟨rfl, rfl⟩ := trodVars_none hV
  obtain ⟨a0, len0, cap0, rfl⟩ := okWide_slice Try.underlying22 (hval 0 22 v0 rfl rfl)
  have lt0 : ∀ x ∈ p0, x.block < W.heap.size := by obtain ⟨m, hm⟩ := h0; exact DataW.trod_lt m _ _ _ hm
  have k0 := h0
  have hk' : Rows.uptoBulkAll [d0] ≤ 1048576 := by
    have h : Rows.uptoBulkAll ([d0] ++ []) ≤ 1048576 := of_decide_eq_true hk
    exact h
  obtain ⟨l, rfl, hc, hC, b1, b2, b3⟩ := opened h0 hk'
  obtain ⟨k, hs⟩ := SumsC.law l (by omega) (by omega) (fun x hx => by have := b3 x hx; omega)
  clear hA0
  refine (SumsB.sums.calls k a0 cap0 l true W hC hc hs).mono fun e W' ⟨he, bel⟩ => ?_
  subst he
  exact ⟨_, rfl, _, _, _, [], _, [], hW', trodAll_mk1 (shut_bool Try.underlying4 _), trodAll_cons_mk (Below.trod laidOut (by kernel_rfl) (of_decide_eq_true (by kernel_rfl)) k0 bel lt0) trodAll_mk0, rfl, bel.frame _, fun h => by cases h⟩

set_option maxRecDepth 100000 in
theorem lifted (os : Os) (started : os.Started) (H : Type) (enc : TypeId × Value → H) (F : Stop.Interp) :
    ReturnsInHanded {} Try.checked os 3 .any ((Rows.OpenSpec.upto Rows.storeSumsSpec).pre6 enc Try.prog Try.f3 Rows.storeSumsUptoRow.domain false) (((Rows.OpenSpec.upto Rows.storeSumsSpec).at F).post enc Try.prog Try.f3 false true false false) := by
  refine returnsInHanded_of_cond (C := Try.checked) (s := Rows.OpenSpec.upto Rows.storeSumsSpec) (k := Rows.uptoSmall) rfl own started (by kernel_rfl) Try.func3
    (OpenSpec.witness (enc := enc) (C := Try.checked) (s := Rows.OpenSpec.upto Rows.storeSumsSpec) (k := Rows.uptoSmall) rfl false ⟨#[], #[.slice none 0 0], []⟩ 8 (by kernel_rfl) (by kernel_rfl) (by kernel_rfl)
      (x := ([.nil], [], [])) (by kernel_rfl) rfl (by kernel_rfl)) ?_
  intro W base args ds gs before hval hW _ hk _
  exact contract H enc W base args ds gs before hval hW hk

theorem proved : Rows.StoreSumsUptoSaid :=
  OpenClaim.holds_of_cond 3 Try.f3 rfl rfl rfl rfl rfl rfl rfl ⟨rfl, rfl, rfl, rfl, rfl⟩ rfl rfl rfl rfl rfl (by kernel_rfl) Try.func3 (by kernel_rfl)
    (of_decide_eq_true (by kernel_rfl)) (by unfold Func.isWrapper; first | (rw [if_pos (by decide +kernel)]; kernel_rfl) | (rw [if_neg (by decide +kernel)]; exact ⟨rfl, rfl⟩))
    (fun os started H enc _ F => lifted os started H enc F)
#print axioms proved
end Go.Proofs.Ytmopdelkepkacaa.SumsD
namespace Go.Proofs.Ytmopdelkepkacaa
theorem storeSums_upto_holds : Rows.StoreSumsUptoSaid := SumsD.proved
end Go.Proofs.Ytmopdelkepkacaa
