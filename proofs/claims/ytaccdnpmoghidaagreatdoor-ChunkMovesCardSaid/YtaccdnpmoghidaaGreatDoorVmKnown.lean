/- What is known of calls already: functions that turn nothing and return a value without blocks, run once from the start with the arguments that are named. -/
import Derived.Test.YtaccdnpmoghidaaGreatDoorVmSum
set_option linter.unusedVariables false
set_option linter.unusedSimpArgs false
namespace Go.Vm
open Go.RowKit
variable {P : Program} {μ : PM} {h : Hp} {w : World}
theorem VR.scalar {ν : PM} {v : V} {r : Value} (h : VR μ v r) (hs : scalarV v = true) : VR ν v r := by
  cases h <;> first | exact VR.bool _ | exact VR.int _ _ | exact VR.str _ | exact VR.ptrN | exact VR.mapN | exact VR.nilFunc | exact VR.nilIface | (rename_i h; exact VR.sliceN h) | cases hs
abbrev KnE := FuncId × List V × V
def knownOf (L : List KnE) (hl : List (Nat × Ob)) : FuncId → List V → Option Md → Hp → Option CR := fun g args md h =>
  match L.find? fun e => Nat.beq g e.1 && V.beqs args e.2.1 with
  | some e => if md.isNone && startHas hl h then some (.ret e.2.2 none h) else none
  | none => none
/-- One entry: its run. -/
def KnOk (P : Program) (hl : List (Nat × Ob)) (nx : Nat) (e : KnE) : Prop := ∃ fn c, P.funcs[e.1]? = some fn ∧ fn.body = some c ∧ e.2.1.length ≤ fn.ntmps ∧ V.kepts (startKeys (mkT hl)) e.2.1 = true ∧ scalarV e.2.2 = true ∧
  GoesC P e.1 e.2.2 { st := [], f := e.1, nt := fn.ntmps, k := [.code c], s := { F := setArgs e.2.1 0 .nil, ds := [], md := none, h := { t := mkT hl, next := nx } } }
theorem VRs.keepAll {K : Nat → Bool} : ∀ {l : List V} {m : List Value}, VRs μ l m → V.kepts K l = true → VRs (μ.keep K) l m
  | [], _, h, _ => by cases h; exact .nil
  | v :: l, _, h, hk => by
    cases h with
    | cons h t =>
      simp only [V.kepts, Bool.and_eq_true] at hk
      exact .cons (h.keep hk.1) (VRs.keepAll t hk.2)
theorem knownOf_ok {L : List KnE} {hl : List (Nat × Ob)} {nx : Nat} (hok : startFit P.globals.size hl nx = true) (hL : ∀ e ∈ L, KnOk P hl nx e)
    (g : FuncId) (args : List V) (md : Option Md) (h : Hp) (r : CR) (hr : knownOf L hl g args md h = some r) (rs : List Value) (kind : CallKind) (μ : PM) (w : World) (c0 cs : List Frame)
    (R : Rel P μ h w) (ha : VRs μ args rs) (hc : Cal μ kind c0 md cs) : COk P g kind c0 (lone (Frame.enter P g rs.toArray kind) cs w) μ h w r := by
  unfold knownOf at hr
  split at hr
  · rename_i e he
    have hm := List.mem_of_find?_eq_some he
    have hp := List.find?_some he
    simp only [Bool.and_eq_true] at hp
    obtain ⟨hp1, hp2⟩ := hp
    obtain ⟨f, l, v⟩ := e
    obtain rfl : g = f := Nat.eq_of_beq_eq_true hp1
    obtain rfl : args = l := V.beqs_eq _ _ hp2
    obtain ⟨fn, c, hf, hb, hlen, hkp, hsc, hg⟩ := hL _ hm
    split at hr
    · rename_i hh
      simp only [Bool.and_eq_true, Option.isNone_iff_eq_none] at hh
      obtain ⟨rfl, hhas⟩ := hh
      cases hr
      cases hc with | none hk =>
      subst hk
      obtain ⟨R0, hu⟩ := start_cut hok hhas R
      let b : Frame := { (default : Frame) with fn := g, kind := .normal, roundOf := none }
      have henter : Frame.enter P g rs.toArray .normal = b.atR { tmps := rs.toArray ++ Array.replicate (fn.ntmps - rs.toArray.size) undef, defers := [] } [.code c] := by
        simp [Frame.enter, Frame.atR, hf, hb, b]
      have hfr := enter_fr (ha.keepAll hkp) (n := fn.ntmps) hlen
      obtain ⟨w', fr, μ', r, h1, h2, h3, h4, h5⟩ := hg w _ c0 _ w ⟨b, { tmps := rs.toArray ++ Array.replicate (fn.ntmps - rs.toArray.size) undef, defers := [] }, c0, rfl, rfl, rfl, rfl, ⟨R0, hfr, trivial, .none rfl⟩, rfl, rfl⟩ ⟨rfl, rfl, rfl, Nat.le_refl _, fun r _ => ⟨rfl, hu r⟩⟩
      obtain ⟨q1, q2⟩ := R.same0 h1
      obtain ⟨g1, g2, g3, fn', g4, g5⟩ := h5
      refine ⟨μ, w', c0, _, fr, q2, q1, h2.scalar hsc, .none rfl, ?_, h4, g3, g1, g2, fn', g4, g5⟩
      rw [henter]
      exact h3
    · cases hr
  · cases hr
end Go.Vm
