/- From what holds of a run of the virtual machine to the model's calls. -/
import Derived.Test.YthebkalnpmkkpaaGreatDoorWpUtil
import Derived.Test.YthebkalnpmkkpaaGreatDoorVmKnown
set_option linter.unusedVariables false
set_option linter.unusedSimpArgs false
namespace Go.Vm
open Go.RowKit
variable {P : Program} {Y : Fns}
theorem calls_of_CW (H : VmHyp P Y) {f : FuncId} {args : List V} {rs : List Value} {h0 : Hp} {w : World} {μ : PM} {bo : Bool} (R : Rel P μ h0 w) (hu : ∀ r, r < w.heap.size → Unw true μ h0 r) (ha : VRs μ args rs)
    (hc : CW P Y f args none h0 (fun r => ∃ h', r = .ret (.bool bo) none h')) : Calls P f rs.toArray w fun e w' => e = .returned (.bool bo) ∧ Same0 w w' := by
  intro cs
  obtain ⟨n, r, h1, h2, h', rfl⟩ := hc
  have := (H.evm n).call f args rs none .normal μ h0 w cs cs R ha (.none rfl)
  rw [h1] at this
  obtain ⟨μ', w', cs', r, fr, k1, k2, k3, k4, k5, k6, k7, k8⟩ := this
  obtain rfl := k4.normal_inv rfl
  cases k3
  exact ⟨_, w', fr, ⟨rfl, k1.os, k1.tape, k1.output, k1.size, fun r hr => (k1.frame true r hr (hu r hr)).1⟩, k5.steps, k6, going_leaving k7 k8⟩
/-- The blocks of the start are where they were. -/
theorem startHas_grow {hl : List (Nat × Ob)} {h h' : Hp} (hh : startHas hl h = true) (g : Grow h h') (hb : ∀ e ∈ hl, e.1 < h.next) : startHas hl h' = true := by
  unfold startHas at hh ⊢
  rw [List.all_eq_true] at hh ⊢
  intro e he
  rw [g.get e.1 (hb e he)]
  exact hh e he
theorem CW_known {fa : FuncId} {hl : List (Nat × Ob)} {h : Hp} {Q : CR → Prop} (hY : Y.sum = sumOf fa true hl) (hh : startHas hl h = true) (q : Q (.ret (.bool true) none h)) : CW P Y fa [] none h Q := by
  refine CW_sum (r := .ret (.bool true) none h) ?_ (fun w hw => by cases hw) q
  rw [hY]
  unfold sumOf
  simp [hh]
end Go.Vm
