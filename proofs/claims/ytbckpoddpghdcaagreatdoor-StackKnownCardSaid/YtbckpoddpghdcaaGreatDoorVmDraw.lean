/- For regions whose order is drawn: holes. -/
import Derived.Test.YtbckpoddpghdcaaGreatDoorVmMain
namespace Go.Vm
open Go.RowKit
set_option linter.unusedSimpArgs false
set_option linter.unusedVariables false

variable {P : Program} {μ : PM} {h : Hp} {w : World} {F : Frm} {a : Act}

def PM.below (μ : PM) (N : Nat) : PM := fun b => if b < N then μ b else none
theorem PM.below_some {μ : PM} {N b : Nat} {l : Loc} (h : μ b = some l) (hb : b < N) : μ.below N b = some l := by unfold PM.below; rw [if_pos hb]; exact h
theorem PM.below_inv {μ : PM} {N b : Nat} {l : Loc} (h : μ.below N b = some l) : b < N ∧ μ b = some l := by
  unfold PM.below at h
  split at h
  · rename_i hb; exact ⟨hb, h⟩
  · cases h
theorem PM.below_le (μ : PM) (N : Nat) : (μ.below N).le μ := fun b l h => (PM.below_inv h).2
theorem lows_iff (N : Nat) : ∀ l : List V, V.lows N l = l.all (V.low N)
  | [] => rfl
  | x :: l => by simp [V.lows, lows_iff N l]
theorem VR.restrict {N : Nat} {v : V} {r : Value} (h : VR μ v r) (hs : V.low N v = true) : VR (μ.below N) v r := by
  refine VR.rec (μ := μ) (motive_1 := fun v r _ => V.low N v = true → VR (μ.below N) v r) (motive_2 := fun l m _ => V.lows N l = true → VRs (μ.below N) l m)
    ?_ ?_ ?_ ?_ ?_ ?_ ?_ ?_ ?_ ?_ ?_ ?_ ?_ ?_ ?_ ?_ ?_ ?_ h hs
  · intro b _; exact .bool b
  · intro k n _; exact .int k n
  · intro s _; exact .str s
  · intro _; exact .ptrN
  · intro b o l h hs; exact .ptr (PM.below_some h (by simpa [V.low] using hs))
  · intro n c h _; exact .sliceN h
  · intro b o len cap c l a h hc hl ha hs; exact .slice (PM.below_some h (by simpa [V.low] using hs)) hc hl ha
  · intro _; exact .mapN
  · intro b l h hs; exact .map (PM.below_some h (by simpa [V.low] using hs))
  · intro f fs cs fs' cs' _ _ h1 h2 hs
    simp only [V.low, Bool.and_eq_true] at hs
    exact .func (h1 hs.1) (h2 hs.2)
  · intro b l h hs; exact .yield (PM.below_some h (by simpa [V.low] using hs))
  · intro _; exact .nilFunc
  · intro t v v' _ h1 hs; exact .iface (h1 (by simpa [V.low] using hs))
  · intro _; exact .nilIface
  · intro l l' _ h1 hs; exact .agg (h1 (by simpa [V.low] using hs))
  · intro l l' _ h1 hs; exact .tuple (h1 (by simpa [V.low] using hs))
  · intro _; exact .nil
  · intro v l v' l' _ _ h1 h2 hs
    simp only [V.lows, Bool.and_eq_true] at hs
    exact .cons (h1 hs.1) (h2 hs.2)

/-! ### Holes -/
theorem PM.le_addHole {μ : PM} {n : Nat} (l : Loc) (hn : μ n = none) : μ.le (μ.add n l) := fun b l' h => by
  rw [PM.add_ne _ _ (fun e => by subst e; rw [hn] at h; cases h)]; exact h
/-- The heap may be another one where the map says nothing. -/
theorem Rel.reheap (R : Rel P μ h w) {h' : Hp} (hg : ∀ b l, μ b = some l → h'.get b = h.get b) (hn : h.next ≤ h'.next) : Rel P μ h' w :=
  ⟨fun b l hb => by obtain ⟨o, h1, h2⟩ := R.ob b l hb; exact ⟨o, (hg b l hb).trans h1, h2⟩, fun b l hb => Nat.lt_of_lt_of_le (R.dom b l hb) hn,
   fun b1 l1 b2 l2 h1 h2 hne hr => by rw [hg b1 l1 h1, hg b2 l2 h2]; exact R.sep b1 l1 b2 l2 h1 h2 hne hr, R.glob, R.low⟩
/-- A hole is filled by a block that has just been made. -/
theorem hole_sound (R : Rel P μ h w) {n : Nat} {ob : Ob} {w' : World} (hn : μ n = none) (hlt : n < h.next) (hg : h.get n = some ob) (cap : Nat) (hsize : w'.heap.size = w.heap.size + 1) (hold : ∀ r, r < w.heap.size → w'.heap[r]? = w.heap[r]?)
    (hob : ObR P (μ.add n ⟨w.heap.size, 0, cap⟩) w' ⟨w.heap.size, 0, cap⟩ ob) : Rel P (μ.add n ⟨w.heap.size, 0, cap⟩) h w' := by
  have hle := PM.le_addHole ⟨w.heap.size, 0, cap⟩ hn
  refine ⟨fun b l hb => ?_, fun b l hb => ?_, fun b1 l1 b2 l2 h1 h2 hne hr => ?_, fun g hg' => hle _ _ (R.glob g hg'), fun b l hb => ?_⟩
  · rcases PM.add_inv hb with ⟨rfl, rfl⟩ | ⟨hne, hb⟩
    · exact ⟨ob, hg, hob⟩
    · obtain ⟨o2, h1, h2⟩ := R.ob b l hb
      exact ⟨o2, h1, h2.frame hle (hold _ (R.low b l hb))⟩
  · rcases PM.add_inv hb with ⟨rfl, rfl⟩ | ⟨hne, hb⟩
    · exact hlt
    · exact R.dom b l hb
  · rcases PM.add_inv h1 with ⟨rfl, rfl⟩ | ⟨hne1, h1'⟩
    · rcases PM.add_inv h2 with ⟨rfl, rfl⟩ | ⟨hne2, h2⟩
      · exact (hne rfl).elim
      · have := R.low b2 l2 h2; simp at hr; omega
    · rcases PM.add_inv h2 with ⟨rfl, rfl⟩ | ⟨hne2, h2⟩
      · have := R.low b1 l1 h1'; simp at hr; omega
      · exact R.sep b1 l1 b2 l2 h1' h2 hne hr
  · rw [hsize]
    rcases PM.add_inv hb with ⟨rfl, rfl⟩ | ⟨hne, hb⟩
    · simp
    · have := R.low b l hb; omega
/-- A block made before its time moves into the base. -/
theorem early_sound (R : Rel P μ h w) {n : Nat} {ob : Ob} {l : Loc} {ν : PM} (hn : μ n = none) (hlt : n < h.next) (hg : h.get n = some ob) (hl : l.r < w.heap.size) (hu : Unw false μ h l.r)
    (hν : ν.le μ) (hob : ObR P ν w l ob) : Rel P (μ.add n l) h w := by
  have hle := PM.le_addHole l hn
  refine ⟨fun b l' hb => ?_, fun b l' hb => ?_, fun b1 l1 b2 l2 h1 h2 hne hr => ?_, fun g hg' => hle _ _ (R.glob g hg'), fun b l' hb => ?_⟩
  · rcases PM.add_inv hb with ⟨rfl, rfl⟩ | ⟨hne, hb⟩
    · exact ⟨ob, hg, hob.frame (hν.trans hle) rfl⟩
    · obtain ⟨o2, h1, h2⟩ := R.ob b l' hb
      exact ⟨o2, h1, h2.frame hle rfl⟩
  · rcases PM.add_inv hb with ⟨rfl, rfl⟩ | ⟨hne, hb⟩
    · exact hlt
    · exact R.dom b l' hb
  · rcases PM.add_inv h1 with ⟨rfl, rfl⟩ | ⟨hne1, h1'⟩
    · rcases PM.add_inv h2 with ⟨rfl, rfl⟩ | ⟨hne2, h2⟩
      · exact (hne rfl).elim
      · exact .inr (.inl (hu.dead h2 hr.symm))
    · rcases PM.add_inv h2 with ⟨rfl, rfl⟩ | ⟨hne2, h2⟩
      · exact .inl (hu.dead h1' hr)
      · exact R.sep b1 l1 b2 l2 h1' h2 hne hr
  · rcases PM.add_inv hb with ⟨rfl, rfl⟩ | ⟨hne, hb⟩
    · exact hl
    · exact R.low b l' hb

/-! ### Two maps in one -/
def PM.or (μ η : PM) : PM := fun b => match μ b with | some l => some l | none => η b
theorem PM.le_or (μ η : PM) : μ.le (μ.or η) := fun b l h => by unfold PM.or; rw [h]
theorem PM.or_inv {μ η : PM} {b : Nat} {l : Loc} (h : μ.or η b = some l) : μ b = some l ∨ η b = some l := by
  unfold PM.or at h
  cases hm : μ b with
  | none => rw [hm] at h; exact .inr h
  | some l' => rw [hm] at h; exact .inl h
theorem PM.or_right {μ η : PM} {b : Nat} {l : Loc} (h0 : μ b = none) (h : η b = some l) : μ.or η b = some l := by unfold PM.or; rw [h0]; exact h
theorem VR.belowOr {μ η : PM} {N : Nat} {v : V} {r : Value} (h : VR (μ.or η) v r) (hη : ∀ b l, η b = some l → N ≤ b) (hs : V.low N v = true) : VR μ v r := by
  refine (h.restrict hs).mono fun b l hb => ?_
  obtain ⟨h1, h2⟩ := PM.below_inv hb
  rcases PM.or_inv h2 with h3 | h3
  · exact h3
  · have := hη b l h3; omega
theorem scalar_any {μ ν : PM} {v : V} {r : Value} (h : VR μ v r) (hs : scalarV v = true) : VR ν v r := by
  cases h <;> first
    | (constructor; done)
    | (constructor; assumption)
    | (exfalso; simp [scalarV] at hs; done)
theorem closed_any {μ ν : PM} {w : World} {l : Loc} {ob : Ob} (h : ObR P μ w l ob) (hc : closedOb ob = true) : ObR P ν w l ob := by
  cases ob with
  | cells x =>
    obtain ⟨c, e, fz, h1, h2, h3⟩ := h
    refine ⟨c, e, fz, h1, fun i v hv => ?_, h3⟩
    obtain ⟨r, k1, k2⟩ := h2 i v hv
    exact ⟨r, k1, scalar_any k2 (List.all_eq_true.1 hc v (List.mem_of_getElem? hv))⟩
  | map es k =>
    cases es with
    | nil => obtain ⟨a, h1, h2⟩ := h; exact ⟨a, h1, by cases hl : a.toList with | nil => trivial | cons x xs => rw [hl] at h2; exact h2.elim⟩
    | cons _ _ => cases hc
  | _ => cases hc
end Go.Vm
