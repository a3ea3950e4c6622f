/- slices.Insert of one int, by the shelf's contracts. -/
import Derived.Test.YtodpkcebihbghaaGreatDoorVmMain
import Derived.Shelf.Spec.SlicesInsertGrow
set_option linter.unusedVariables false
set_option linter.unusedSimpArgs false
namespace Go.Vm
open Go.RowKit Go.Proofs Go.Shelf
variable {P : Program} {μ : PM} {h : Hp} {w : World}

/-- A block's number changes: the elder one dies, the new one stands on the same real block. -/
theorem moved_sound (R : Rel P μ h w) {b : Nat} {l : Loc} (hb : μ b = some l) (hwr : writable (h.get b)) {w' : World} (a1 : w'.os = w.os) (a2 : w'.tape = w.tape) (a3 : w'.output = w.output) (a4 : w'.heap.size = w.heap.size)
    (a6 : ∀ r, r ≠ l.r → w'.heap[r]? = w.heap[r]?) (ob : Ob) (off cap : Nat) (hob : ObR P (μ.add h.next ⟨l.r, off, cap⟩) w' ⟨l.r, off, cap⟩ ob) :
    Ext μ h w (μ.add h.next ⟨l.r, off, cap⟩) ((h.put b .dead).new ob) w' ∧ Rel P (μ.add h.next ⟨l.r, off, cap⟩) ((h.put b .dead).new ob) w' := by
  have hle := PM.le_add ⟨l.r, off, cap⟩ R.dom
  have hbn : b ≠ h.next := Nat.ne_of_lt (R.dom b l hb)
  have hoth : ∀ b2 l2, μ b2 = some l2 → b2 ≠ b → l2.r = l.r → h.get b2 = some .dead := fun b2 l2 h2 hne2 hrr => (R.sep b l b2 l2 hb h2 (Ne.symm hne2) hrr.symm).writable hwr
  have hnx : (h.put b .dead).next = h.next := rfl
  have getO : ∀ b2, b2 ≠ h.next → b2 ≠ b → ((h.put b .dead).new ob).get b2 = h.get b2 := fun b2 h1 h2 => by
    rw [Hp.get_new_ne _ (by rw [hnx]; exact Ne.symm h1), Hp.get_put_ne _ (Ne.symm h2)]
  have getB : ((h.put b .dead).new ob).get b = some .dead := by
    rw [Hp.get_new_ne _ (by rw [hnx]; exact Ne.symm hbn), Hp.get_put_same]
  refine ⟨⟨hle, by rw [Hp.next_new, hnx]; omega, fun b2 l2 h2 => ?_, a1, a2, a3, Nat.le_of_eq a4.symm, fun ro r hr2 hu => ?_⟩, fun b2 l2 h2 => ?_, fun b2 l2 h2 => ?_, fun b1 l1 b2 l2 h1 h2 hne2 hrr => ?_, fun g hg => hle _ _ (R.glob g hg), fun b2 l2 h2 => ?_⟩
  · rcases PM.add_inv h2 with ⟨rfl, rfl⟩ | ⟨hne, h2⟩
    · exact .inr (Nat.le_refl _)
    · exact .inl h2
  · have hrl : r ≠ l.r := fun he => hu.not hb hwr he.symm
    refine ⟨a6 r hrl, fun b2 l2 h2 h3 => ?_⟩
    rcases PM.add_inv h2 with ⟨rfl, rfl⟩ | ⟨hne, h2⟩
    · exact (hrl h3.symm).elim
    · have hbb : b2 ≠ b := fun he => by subst he; rw [hb] at h2; cases h2; exact hrl h3.symm
      rw [getO b2 hne hbb]
      exact hu b2 l2 h2 h3
  · rcases PM.add_inv h2 with ⟨rfl, rfl⟩ | ⟨hne, h2⟩
    · exact ⟨_, Hp.get_new_same (h.put b .dead) _, hob⟩
    · by_cases hbb : b2 = b
      · subst hbb; exact ⟨_, getB, trivial⟩
      · obtain ⟨o2, h3, h4⟩ := R.ob b2 l2 h2
        refine ⟨o2, by rw [getO b2 hne hbb]; exact h3, ?_⟩
        by_cases hrr : l2.r = l.r
        · have h5 := hoth b2 l2 h2 hbb hrr
          rw [h3] at h5; cases h5; trivial
        · exact h4.frame hle (a6 _ hrr)
  · rw [Hp.next_new, hnx]
    rcases PM.add_inv h2 with ⟨rfl, rfl⟩ | ⟨hne, h2⟩
    · omega
    · have := R.dom b2 l2 h2; omega
  · have dead_of : ∀ b3 l3, μ b3 = some l3 → b3 ≠ h.next → l3.r = l.r → ((h.put b .dead).new ob).get b3 = some .dead := fun b3 l3 h3 hn3 hr3 => by
      by_cases hb3 : b3 = b
      · subst hb3; exact getB
      · rw [getO b3 hn3 hb3]; exact hoth b3 l3 h3 hb3 hr3
    rcases PM.add_inv h1 with ⟨rfl, rfl⟩ | ⟨hne1, h1⟩
    · rcases PM.add_inv h2 with ⟨rfl, rfl⟩ | ⟨hne3, h2⟩
      · exact (hne2 rfl).elim
      · exact .inr (.inl (dead_of b2 l2 h2 hne3 hrr.symm))
    · rcases PM.add_inv h2 with ⟨rfl, rfl⟩ | ⟨hne3, h2⟩
      · exact .inl (dead_of b1 l1 h1 hne1 hrr)
      · by_cases hb1 : b1 = b
        · subst hb1; exact .inl getB
        · by_cases hb2 : b2 = b
          · subst hb2; exact .inr (.inl getB)
          · rw [getO b1 hne1 hb1, getO b2 hne3 hb2]; exact R.sep b1 l1 b2 l2 h1 h2 hne2 hrr
  · rw [a4]
    rcases PM.add_inv h2 with ⟨rfl, rfl⟩ | ⟨hne, h2⟩
    · exact R.low b l hb
    · exact R.low b2 l2 h2

theorem cok_of_calls {f : FuncId} {rs : List Value} {cs : List Frame} {v : V} {h' : Hp} (hc : Calls P f rs.toArray w fun e w' => ∃ r μ', e = .returned r ∧ Ext μ h w μ' h' w' ∧ Rel P μ' h' w' ∧ VR μ' v r) :
    COk P f .normal cs (lone (Frame.enter P f rs.toArray .normal) cs w) μ h w (.ret v none h') := by
  obtain ⟨e, w', fr, ⟨r, μ', rfl, h1, h2, h3⟩, hs, hf, hl⟩ := hc cs
  obtain ⟨k1, k2, k3, k4⟩ := hl
  exact ⟨μ', w', cs, r, fr, h1, h2, h3, .none rfl, .of_steps hs, hf, k3, k1, k2, k4⟩

theorem ins_list {α : Type} {l : List α} {n i k : Nat} {v u : α} (hl : l.length = n) (hi : i ≤ n) (hk : (l.take i ++ v :: l.drop i)[k]? = some u) :
    (k < i ∧ l[k]? = some u) ∨ (k = i ∧ u = v) ∨ (i < k ∧ k < n + 1 ∧ l[k - 1]? = some u) := by
  have ht : (l.take i).length = i := by rw [List.length_take]; omega
  rcases Nat.lt_trichotomy k i with h | h | h
  · rw [List.getElem?_append_left (by omega), List.getElem?_take, if_pos h] at hk
    exact .inl ⟨h, hk⟩
  · subst h
    rw [List.getElem?_append_right (by omega), ht, Nat.sub_self] at hk
    simp at hk
    exact .inr (.inl ⟨rfl, hk.symm⟩)
  · rw [List.getElem?_append_right (by omega), ht, show k - i = (k - i - 1) + 1 by omega, List.getElem?_cons_succ, List.getElem?_drop, show i + (k - i - 1) = k - 1 by omega] at hk
    have := (List.getElem?_eq_some_iff.1 hk).1
    exact .inr (.inr ⟨h, by omega, hk⟩)

theorem ins_ok {ρ : Ren} {ins : FuncId → Bool} (L : Lays2.n21 P ρ) (huniq : ∀ f, ins f = true → f = ρ.f 21) : InsOk P ins := by
  intro f fn args rs μ h h' v w cs hf hname R ha hv
  obtain rfl := huniq f hname
  have hfn : fn = Body2.n21 ρ := by have := L.f21; rw [hf] at this; exact Option.some.inj this
  have helem : elemP P fn = ρ.t 3 := by
    subst hfn
    have : (Body2.n21 ρ).params.getD 0 0 = ρ.t 22 := rfl
    unfold elemP
    rw [this, L.t22]
  rw [helem] at hv
  have hcell1 : P.cellsOf (ρ.t 3) = 1 := by
    have := L.z3 w
    obtain ⟨i0, hi0, h0, h1, h2⟩ := info_parts L.i3
    simp [Program.cellsOf, hi0, h1]
  unfold insertV at hv
  split at hv
  · rename_i b n i c p vc
    split at hv
    · rename_i x va hx hva
      split at hv
      · rename_i hcond
        simp only [Bool.and_eq_true, decide_eq_true_eq, Bool.not_eq_true', beq_iff_eq, bne_iff_ne, ne_eq] at hcond
        obtain ⟨⟨⟨⟨⟨⟨⟨⟨⟨⟨⟨⟨hi0, hin⟩, hnl⟩, hrw⟩, hex⟩, hfr⟩, hbc⟩, hel⟩, hs1⟩, hall⟩, hvc⟩, hfam⟩, hn40⟩ := hcond
        obtain ⟨i, rfl⟩ := Int.eq_ofNat_of_zero_le hi0
        rw [Int.toNat_natCast] at hin hv
        injection hv with hv1 hv2
        subst hv1 hv2
        cases ha with | cons ha1 ha =>
        cases ha with | cons ha2 ha =>
        cases ha with | cons ha3 ha =>
        cases ha
        cases ha1 with | @slice _ _ _ C _ l A hb hC hlen hA =>
        cases ha2
        cases ha3 with | @slice _ _ _ VC _ l2 A2 hc hVC hlen2 hA2 =>
        obtain rfl := hA2 (by omega)
        simp only [Cap.ok] at hC
        obtain ⟨_, rfl⟩ := hC
        rw [Nat.sub_zero] at *
        have hwr : writable (h.get b) := by rw [hx]; exact hrw
        obtain ⟨ob, hob, hR⟩ := R.ob b l hb
        rw [hx] at hob; cases hob
        obtain ⟨cc, e, fz, hr, hcc, hfz, he, hx1, hx2, hx3⟩ := hR
        replace hfz := hfz hrw
        obtain ⟨g1, g2, g3, g4⟩ := hx2 hex hrw
        rw [hel] at g1
        subst g1
        rw [hel] at g2 g3
        rw [hcell1, Nat.mul_one] at g2 g3
        obtain ⟨r2, q1, q2, q3⟩ := loadL_sound R hc hva
        obtain ⟨va', rfl, hva'⟩ : ∃ r, r2 = [r] ∧ VR μ va r := by cases q1 with | cons h1 t => cases t; exact ⟨_, rfl, h1⟩
        have hload : loadL h b 0 n = some (x.l.take n) := by unfold loadL; rw [hx]; simp [hnl]
        obtain ⟨cl, p1, p2, p3⟩ := loadL_sound R hb hload
        obtain ⟨x2, c2, e2, f2, m1, m2, m3, m4⟩ := famFree_sound R hc hfam
        have hrne : l2.r ≠ l.r := fun hrr => by
          have := (R.sep b l c l2 hb hc hbc hrr.symm).writable hwr
          rw [m1] at this; cases this
        have h1c : ∀ y ∈ cl, y.oneCell' = true := p1.oneCells (List.all_eq_true.2 fun y hy => List.all_eq_true.1 hall y (List.mem_of_mem_take hy))
        have h1v : ∀ y ∈ [va'], y.oneCell' = true := fun y hy => by rw [List.mem_singleton.1 hy]; exact hva'.oneCell hvc
        have hcs : ∀ j y, cl[j]? = some y → w.cell? ⟨l.r, l.off + j, none⟩ = some y := fun j y hj => by have := p3 j y hj; rwa [Nat.zero_add] at this
        have hvs : ∀ j y, [va'][j]? = some y → w.cell? ⟨l2.r, l2.off + p + j, none⟩ = some y := fun j y hj => by have := q3 j y hj; rwa [← Nat.add_assoc] at this
        have hsp : ∀ j, j < l.cap → (w.cell? ⟨l.r, l.off + j, none⟩).isSome = true := fun j hj => by
          rw [cell_of hr, Array.getElem?_eq_getElem (by omega)]; rfl
        have hnf : ∀ j, j < l.cap → w.frozen? ⟨l.r, l.off + j, none⟩ = false := fun j hj => by
          simp only [World.frozen?, hr]
          by_cases hz : fz.1 ≤ l.off + j ∧ l.off + j < fz.2
          · have := hfz _ hz.1 hz.2 (.inr (by omega)) (by omega)
            omega
          · simp only [Bool.and_eq_false_iff, decide_eq_false_iff_not]; omega
        have hsa : w.shape? l2.r = some (e2, c2.size) := by simp [World.shape?, m3]
        have hsb : w.shape? l.r = some (ρ.t 3, cc.size) := by simp [World.shape?, hr]
        have hfa : ∀ o, w.frozen? ⟨l2.r, o, none⟩ = false := fun o => by simp only [World.frozen?, m3, Bool.and_eq_false_iff, decide_eq_false_iff_not]; omega
        have hget : ∀ k u, (((x.l.take n).take i) ++ va :: ((x.l.take n).drop i))[k]? = some u → ∃ r, VR μ u r ∧ ((k < i ∧ cl[k]? = some r) ∨ (k = i ∧ r = va') ∨ (i < k ∧ k < n + 1 ∧ cl[k - 1]? = some r)) := fun k u hk => by
          have hlt : (x.l.take n).length = n := by rw [List.length_take]; omega
          rcases ins_list hlt hin hk with ⟨k1, k2⟩ | ⟨k1, k2⟩ | ⟨k1, k2, k3⟩
          · obtain ⟨r, s1, s2⟩ := p1.get k2; exact ⟨r, s2, .inl ⟨k1, s1⟩⟩
          · subst k2; exact ⟨va', hva', .inr (.inl ⟨k1, rfl⟩)⟩
          · obtain ⟨r, s1, s2⟩ := p1.get k3; exact ⟨r, s2, .inr (.inr ⟨k1, k2, s1⟩)⟩
        have hL : (((x.l.take n).take i) ++ va :: ((x.l.take n).drop i)).length = n + 1 := by
          simp only [List.length_append, List.length_cons, List.length_take, List.length_drop]; omega
        have inplace : ∀ w' c', w'.os = w.os → w'.tape = w.tape → w'.output = w.output → w'.heap.size = w.heap.size → (∀ r, r ≠ l.r → w'.heap[r]? = w.heap[r]?) → w'.heap[l.r]? = some (.cells c' (ρ.t 3) fz) → c'.size = cc.size →
            (∀ k r, ((k < i ∧ cl[k]? = some r) ∨ (k = i ∧ r = va') ∨ (i < k ∧ k < n + 1 ∧ cl[k - 1]? = some r)) → c'[l.off + k]? = some r) → n + 1 ≤ l.cap →
            ∃ r μ', (Ending.returned (.slice (some ⟨l.r, l.off, none⟩) (n + 1) l.cap) : Ending) = .returned r ∧ Ext μ h w μ' ((h.put b .dead).new (.cells { l := ((x.l.take n).take i) ++ va :: ((x.l.take n).drop i), elem := ρ.t 3, exact := false, rw := true, frz := (0, 0) })) w' ∧
              Rel P μ' ((h.put b .dead).new (.cells { l := ((x.l.take n).take i) ++ va :: ((x.l.take n).drop i), elem := ρ.t 3, exact := false, rw := true, frz := (0, 0) })) w' ∧ VR μ' (.slice (some (h.next, 0)) (n + 1) (.tl 0)) r := fun w' c' a1 a2 a3 a4 a6 a7 a8 a9 hroom => by
          obtain ⟨z1, z2⟩ := moved_sound R hb hwr a1 a2 a3 a4 a6 (.cells { l := ((x.l.take n).take i) ++ va :: ((x.l.take n).drop i), elem := ρ.t 3, exact := false, rw := true, frz := (0, 0) }) l.off l.cap
            ⟨c', ρ.t 3, fz, a7, fun k u hk => by
              obtain ⟨r, s1, s2⟩ := hget k u hk
              exact ⟨r, a9 k r s2, s1.mono (PM.le_add _ R.dom)⟩, fun _ j j1 j2 j3 j4 => by
              have := hfz j j1 j2 (j3.elim (fun h => by cases h) (fun h => .inr (by omega))) j4
              omega, fun _ => rfl, (fun h => by cases h), fun _ _ => ⟨rfl, by dsimp only; rw [hcell1]; omega, by dsimp only; rw [hcell1, hL]; omega, by dsimp only; omega⟩, fun h => by cases h⟩
          exact ⟨_, _, rfl, z1, z2, .slice (o := 0) (PM.add_same _ _ _) ⟨Nat.zero_le _, rfl⟩ hroom (fun _ => rfl)⟩
        have newblk : ∀ w' c' G, w'.os = w.os → w'.tape = w.tape → w'.output = w.output → w'.heap.size = w.heap.size + 1 → (∀ r, r < w.heap.size → w'.heap[r]? = w.heap[r]?) → (∃ f, w'.heap[w.heap.size]? = some (.cells c' (ρ.t 3) f) ∧ f.2 ≤ f.1) → c'.size = G →
            (∀ k r, ((k < i ∧ cl[k]? = some r) ∨ (k = i ∧ r = va') ∨ (i < k ∧ k < n + 1 ∧ cl[k - 1]? = some r)) → c'[k]? = some r) → n + 1 ≤ G → G ≤ 9223372036854775807 →
            ∃ r μ', (Ending.returned (.slice (some ⟨w.heap.size, 0, none⟩) (n + 1) G) : Ending) = .returned r ∧ Ext μ h w μ' ((h.put b .dead).new (.cells { l := ((x.l.take n).take i) ++ va :: ((x.l.take n).drop i), elem := ρ.t 3, exact := false, rw := true, frz := (0, 0) })) w' ∧
              Rel P μ' ((h.put b .dead).new (.cells { l := ((x.l.take n).take i) ++ va :: ((x.l.take n).drop i), elem := ρ.t 3, exact := false, rw := true, frz := (0, 0) })) w' ∧ VR μ' (.slice (some (h.next, 0)) (n + 1) (.tl 0)) r := fun w' c' G a1 a2 a3 a4 a6 a7 a8 a9 hroom hG => by
          obtain ⟨f, a7, af⟩ := a7
          obtain ⟨d1, d2⟩ := dead_sound R b
          obtain ⟨z1, z2⟩ := new_any (w' := w') d1 (.cells { l := ((x.l.take n).take i) ++ va :: ((x.l.take n).drop i), elem := ρ.t 3, exact := false, rw := true, frz := (0, 0) }) G a4 a6 a1 a2 a3
            ⟨c', ρ.t 3, f, a7, fun k u hk => by
              obtain ⟨r, s1, s2⟩ := hget k u hk
              exact ⟨r, by rw [Nat.zero_add]; exact a9 k r s2, s1.mono (PM.le_add _ R.dom)⟩, fun _ j j1 j2 _ _ => by omega, fun _ => rfl, (fun h => by cases h), fun _ _ => ⟨rfl, by dsimp only; rw [hcell1]; omega, by dsimp only; rw [hcell1, hL]; omega, hG⟩, fun h => by cases h⟩
          exact ⟨_, _, rfl, d2.trans z2, z1, .slice (o := 0) (PM.add_same _ _ _) ⟨Nat.zero_le _, rfl⟩ hroom (fun _ => rfl)⟩
        have hGle : grownCap w (n + 1) l.cap (ρ.t 3) ≤ 9223372036854775807 := by
          have := grownCap_le_maxLen w (n + 1) l.cap (ρ.t 3) (by unfold maxLen; omega)
          unfold maxLen at this; omega
        have hGge := grownCap_ge w (n + 1) l.cap (ρ.t 3)
        refine cok_of_calls ?_
        by_cases hroom : n + 1 ≤ l.cap
        · obtain rfl := hA (by omega)
          rcases Nat.lt_or_eq_of_le hin with hlt | rfl
          · refine (Any2.slices_Insert_int_shift L l.r l.off n l.cap i l2.r (l2.off + p) 1 VC cl [va'] w hlt (by omega) hroom g4 hrne p2 rfl hcs (fun j hj => hsp j (by omega)) (fun j hj => hnf j (by omega)) hvs h1c h1v e2 (ρ.t 3) c2.size cc.size hsa hsb (by omega) (hfa _) (hfa _)).mono ?_
            rintro e w' ⟨rfl, rfl⟩
            obtain ⟨b1, b2, b3, b4, b5, b6, c1', b7, b8, b9⟩ := setCells_facts l.r (cl.drop i) (l.off + (i + 1)) w.drew cc (ρ.t 3) fz hr
            obtain ⟨d1, d2, d3, d4, d5, d6, c2', d7, d8, d9⟩ := setCells_facts l.r [va'] (l.off + i) (w.drew.setCells l.r (l.off + (i + 1)) (cl.drop i)) c1' (ρ.t 3) fz b7
            refine inplace _ c2' (d1.trans b1) (d2.trans b2) (d3.trans b3) (d4.trans b4) (fun r hr => (d6 r hr).trans (b6 r hr)) d7 (d8.trans b8) (fun k r hk => ?_) hroom
            have hdl : (cl.drop i).length = n - i := by rw [List.length_drop, p2]
            rw [d9]
            rcases hk with ⟨k1, k2⟩ | ⟨rfl, rfl⟩ | ⟨k1, k2, k3⟩
            · rw [if_neg (by omega), b9, if_neg (by omega)]
              have := hcs k r k2
              rw [cell_of hr] at this
              exact this
            · rw [if_pos ⟨by omega, by simp, by omega⟩]
              simp
            · rw [if_neg (by simp only [List.length_singleton]; omega), b9, if_pos ⟨by omega, by omega, by omega⟩, List.getElem?_drop, show i + (l.off + k - (l.off + (i + 1))) = k - 1 by omega]
              exact k3
          · refine (Any2.slices_Insert_int_end_room L l.r l.off i l.cap l2.r (l2.off + p) 1 VC [va'] w (by omega) hroom g4 rfl (fun j hj => by rw [Nat.add_assoc]; exact hsp _ (by omega)) (fun j hj => by rw [Nat.add_assoc]; exact hnf _ (by omega)) hvs h1v).mono ?_
            rintro e w' ⟨rfl, rfl⟩
            obtain ⟨b1, b2, b3, b4, b5, b6, c1', b7, b8, b9⟩ := setCells_facts l.r [va'] (l.off + i) w cc (ρ.t 3) fz hr
            refine inplace _ c1' b1 b2 b3 b4 b6 b7 b8 (fun k r hk => ?_) hroom
            rw [b9]
            rcases hk with ⟨k1, k2⟩ | ⟨rfl, rfl⟩ | ⟨k1, k2, k3⟩
            · rw [if_neg (by omega)]
              have := hcs k r k2
              rw [cell_of hr] at this
              exact this
            · rw [if_pos ⟨by omega, by simp, by omega⟩]
              simp
            · have := (List.getElem?_eq_some_iff.1 k3).1
              omega
        · rcases Nat.lt_or_eq_of_le hin with hlt | rfl
          · obtain rfl := hA (by omega)
            refine (Any2.slices_Insert_int_grow L l.r l.off n l.cap i l2.r (l2.off + p) 1 VC cl [va'] w hlt (by omega) hlen (by omega) (by omega) p2 rfl hcs hvs h1c h1v).mono ?_
            rintro e w' ⟨rfl, rfl⟩
            obtain ⟨ROW, hROW⟩ : ∃ ROW : Array Value, ROW = (cl.take i).toArray ++ Builtin.zeroCells (Value.int .i64 0).cells (n + 1 - i) ++ Builtin.zeroCells (Value.int .i64 0).cells (grownCap w (n + 1) l.cap (ρ.t 3) - (n + 1)) := ⟨_, rfl⟩
            rw [← hROW]
            have hRs : ROW.size = grownCap w (n + 1) l.cap (ρ.t 3) := by
              rw [hROW]
              simp [Builtin.zeroCells, Value.cells, List.length_take, p2]
              omega
            have hlast : (w.alloc (.cells ROW (ρ.t 3))).drew.heap[w.heap.size]? = some (.cells ROW (ρ.t 3) (0, 0)) := alloc_last w _
            obtain ⟨b1, b2, b3, b4, b5, b6, c1', b7, b8, b9⟩ := setCells_facts w.heap.size [va'] i (w.alloc (.cells ROW (ρ.t 3))).drew ROW (ρ.t 3) (0, 0) hlast
            obtain ⟨d1, d2, d3, d4, d5, d6, c2', d7, d8, d9⟩ := setCells_facts w.heap.size (cl.drop i) (i + 1) ((w.alloc (.cells ROW (ρ.t 3))).drew.setCells w.heap.size i [va']).drew c1' (ρ.t 3) (0, 0) b7
            refine newblk _ c2' _ (d1.trans b1) (d2.trans b2) (d3.trans b3) (d4.trans (b4.trans (Array.size_push _))) (fun r hr => (d6 r (by omega)).trans ((b6 r (by omega)).trans (alloc_old w _ hr))) ⟨(0, 0), d7, Nat.le_refl _⟩ (d8.trans (b8.trans hRs)) (fun k r hk => ?_) hGge hGle
            have hdl : (cl.drop i).length = n - i := by rw [List.length_drop, p2]
            rw [d9]
            rcases hk with ⟨k1, k2⟩ | ⟨rfl, rfl⟩ | ⟨k1, k2, k3⟩
            · rw [if_neg (by omega), b9, if_neg (by omega), hROW, Array.getElem?_append_left (by simp [List.length_take, p2, Builtin.zeroCells, Value.cells]; omega), Array.getElem?_append_left (by simp [List.length_take, p2]; omega)]
              simp only [List.getElem?_toArray, List.getElem?_take, if_pos k1]
              exact k2
            · rw [if_neg (by omega), b9, if_pos ⟨by omega, by simp, by omega⟩]
              simp
            · rw [if_pos ⟨by omega, by omega, by omega⟩, List.getElem?_drop, show i + (k - (i + 1)) = k - 1 by omega]
              exact k3
          · refine (Any2.slices_Insert_int_end_grow L (some A) i l.cap l2.r (l2.off + p) 1 VC cl [va'] w (by omega) hlen (by omega) (by omega) p2 rfl (fun h => by cases h) (fun a ha j y hj => by
              cases ha
              have := (List.getElem?_eq_some_iff.1 hj).1
              rw [hA (by omega), Addr.add_lit, Nat.add_zero]
              exact hcs j y hj) hvs h1v).mono ?_
            rintro e w' ⟨rfl, rfl⟩
            have hzs : (Builtin.zeroCells (Value.int .i64 0).cells (grownCap w (i + 1) l.cap (ρ.t 3) - (i + 1))).size = grownCap w (i + 1) l.cap (ρ.t 3) - (i + 1) := by simp [Builtin.zeroCells, Value.cells]
            refine newblk _ _ _ rfl rfl rfl (Array.size_push _) (fun r hr => alloc_old w.drew _ hr) ⟨(0, 0), alloc_last w.drew _, Nat.le_refl _⟩ (by rw [Array.size_append, hzs]; simp [p2]; omega) (fun k r hk => ?_) hGge hGle
            rcases hk with ⟨k1, k2⟩ | ⟨rfl, rfl⟩ | ⟨k1, k2, k3⟩
            · rw [Array.getElem?_append_left (by simp [p2]; omega)]
              simp only [List.getElem?_toArray]
              rw [List.getElem?_append_left (by omega)]
              exact k2
            · rw [Array.getElem?_append_left (by simp [p2])]
              simp only [List.getElem?_toArray]
              rw [List.getElem?_append_right (by omega)]
              simp [p2]
            · have := (List.getElem?_eq_some_iff.1 k3).1
              omega
      · cases hv
    · cases hv
  · rename_i c p vc
    split at hv
    · rename_i va hva
      split at hv
      · rename_i hcond
        simp only [Bool.and_eq_true, beq_iff_eq] at hcond
        obtain ⟨hs1, hvc⟩ := hcond
        unfold newAmb at hv
        injection hv with hv1 hv2
        subst hv1 hv2
        cases ha with | cons ha1 ha =>
        cases ha with | cons ha2 ha =>
        cases ha with | cons ha3 ha =>
        cases ha
        cases ha1
        cases ha2
        cases ha3 with | @slice _ _ _ VC _ l2 A2 hc hVC hlen2 hA2 =>
        obtain rfl := hA2 (by omega)
        obtain ⟨r2, q1, q2, q3⟩ := loadL_sound R hc hva
        obtain ⟨va', rfl, hva'⟩ : ∃ r, r2 = [r] ∧ VR μ va r := by cases q1 with | cons h1 t => cases t; exact ⟨_, rfl, h1⟩
        have h1v : ∀ y ∈ [va'], y.oneCell' = true := fun y hy => by rw [List.mem_singleton.1 hy]; exact hva'.oneCell hvc
        have hvs : ∀ j y, [va'][j]? = some y → w.cell? ⟨l2.r, l2.off + p + j, none⟩ = some y := fun j y hj => by have := q3 j y hj; rwa [← Nat.add_assoc] at this
        refine cok_of_calls ?_
        refine (Any2.slices_Insert_int_end_grow L none 0 0 l2.r (l2.off + p) 1 VC [] [va'] w (by omega) (by omega) (by omega) (by omega) rfl rfl (fun _ => rfl) (fun a ha => by cases ha) hvs h1v).mono ?_
        rintro e w' ⟨rfl, rfl⟩
        have hGge := grownCap_ge w (0 + 1) 0 (ρ.t 3)
        have hzs : (Builtin.zeroCells (Value.int .i64 0).cells (grownCap w (0 + 1) 0 (ρ.t 3) - (0 + 1))).size = grownCap w (0 + 1) 0 (ρ.t 3) - (0 + 1) := by simp [Builtin.zeroCells, Value.cells]
        obtain ⟨z1, z2⟩ := amb_new (P := P) (e := ρ.t 3) (f := (0, 0)) (N := grownCap w (0 + 1) 0 (ρ.t 3)) R (vs := [va]) (rs := [va']) (c := ([] ++ [va']).toArray ++ Builtin.zeroCells (Value.int .i64 0).cells (grownCap w (0 + 1) 0 (ρ.t 3) - (0 + 1))) (.single hva')
          ⟨(Builtin.zeroCells (Value.int .i64 0).cells (grownCap w (0 + 1) 0 (ρ.t 3) - (0 + 1))).toList, by simp⟩ (by rw [Array.size_append, hzs, hs1]; simp only [List.nil_append, List.size_toArray, List.length_singleton]; omega) (by rw [hs1]; simp only [List.length_singleton]; omega) (by
            have := grownCap_le_maxLen w (0 + 1) 0 (ρ.t 3) (by unfold maxLen; omega)
            unfold maxLen at this; omega)
        exact ⟨_, _, rfl, z2, z1, amb_val (vs := [va]) hGge⟩
      · cases hv
    · cases hv
  · cases hv
end Go.Vm
