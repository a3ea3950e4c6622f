/- How the heaps stand to each other, and what each operation on memory does to that. -/
import Derived.Test.YtbckpoddpghdcaaGreatDoorVmPure
import Derived.Laws.IdiomCopy
namespace Go.Vm
open Go.RowKit
set_option linter.unusedSimpArgs false
set_option linter.unusedVariables false

variable {P : Program} {μ : PM} {h : Hp} {w : World}

def LoopR (P : Program) (μ : PM) (r : Lp) (l : Loop) : Prop :=
  l.state = r.state ∧ l.pending = r.pending ∧ l.fn = r.fn ∧ l.assign = r.assign ∧ l.body = r.body ∧ r.params = l.params.toList.map Pos.of ∧ (∃ ld, μ r.defers = some ld ∧ l.defers = ld.r) ∧
  ∃ n, FR μ r.F n l.tmps ∧ okCode P n r.assign = true ∧ okCode P n r.body = true ∧ (∀ p ∈ l.params, p < n) ∧ (match r.pending with | none | some .ret | some (.exit _) => True | _ => False)

def ObR (P : Program) (μ : PM) (w : World) (l : Loc) : Ob → Prop
  | .dead => True
  | .cells x => ∃ c e fz, w.heap[l.r]? = some (.cells c e fz) ∧ CellR μ x.l c l.off ∧
      (x.rw = true → ∀ j, fz.1 ≤ j → j < fz.2 → (x.exact = true ∨ j < c.size) → l.off ≤ j → l.off + x.frz.1 ≤ j ∧ j < l.off + x.frz.2) ∧ (x.rw = true → e = x.elem) ∧
      (x.exact = true → x.rw = true → l.off = 0 ∧ c.size = x.l.length) ∧
      (x.exact = false → x.rw = true → e = x.elem ∧ l.off + l.cap * P.cellsOf x.elem ≤ c.size ∧ x.l.length ≤ l.cap * P.cellsOf x.elem ∧ l.cap ≤ 9223372036854775807) ∧
      (x.rw = false → x.frz.1 = x.frz.2 → fz.2 ≤ fz.1)
  | .map es k => ∃ a, w.heap[l.r]? = some (.map a k) ∧ EntR μ es a.toList
  | .loop r => ∃ q, w.heap[l.r]? = some (.loop q) ∧ LoopR P μ r q
  | .deferred b => w.heap[l.r]? = some (.deferred (if b then some [] else none))

/-- Two virtual blocks may share a real one where one is dead, or both are never written and lie apart. -/
def Share (o1 o2 : Option Ob) (l1 l2 : Loc) : Prop :=
  o1 = some .dead ∨ o2 = some .dead ∨ ∃ x1 x2, o1 = some (.cells x1) ∧ o2 = some (.cells x2) ∧ x1.rw = false ∧ x2.rw = false ∧ ∀ i1 i2, i1 < x1.l.length → i2 < x2.l.length → l1.off + i1 ≠ l2.off + i2
theorem Share.writable {o1 o2 : Option Ob} {l1 l2 : Loc} (h : Share o1 o2 l1 l2) (hw : writable o1) : o2 = some .dead := by
  rcases h with h | h | ⟨x1, x2, h1, h2, h3, h4, _⟩
  · subst h; exact hw.elim
  · exact h
  · subst h1; rw [show x1.rw = true from hw] at h3; cases h3
structure Rel (P : Program) (μ : PM) (h : Hp) (w : World) : Prop where
  ob : ∀ b l, μ b = some l → ∃ o, h.get b = some o ∧ ObR P μ w l o
  dom : ∀ b l, μ b = some l → b < h.next
  sep : ∀ b1 l1 b2 l2, μ b1 = some l1 → μ b2 = some l2 → b1 ≠ b2 → l1.r = l2.r → Share (h.get b1) (h.get b2) l1 l2
  glob : ∀ g, g ≤ P.globals.size → μ g = some ⟨g, 0, 0⟩
  low : ∀ b l, μ b = some l → l.r < w.heap.size

/-- A real block that no block alive stands for; or none that may be written. -/
def Unw (ro : Bool) (μ : PM) (h : Hp) (r : Nat) : Prop := ∀ b l, μ b = some l → l.r = r → h.get b = some .dead ∨ (ro = true ∧ ∃ x, h.get b = some (.cells x) ∧ x.rw = false)
theorem Unw.not {ro : Bool} {μ : PM} {h : Hp} {r b : Nat} {l : Loc} (u : Unw ro μ h r) (hb : μ b = some l) (hw : writable (h.get b)) : l.r ≠ r := fun hr => by
  rcases u b l hb hr with h1 | ⟨_, x, h1, h2⟩
  · rw [h1] at hw; exact hw
  · rw [h1] at hw; rw [show x.rw = true from hw] at h2; cases h2
theorem Unw.dead {μ : PM} {h : Hp} {r b : Nat} {l : Loc} (u : Unw false μ h r) (hb : μ b = some l) (hr : l.r = r) : h.get b = some .dead := (u b l hb hr).elim id fun h => by cases h.1

structure Ext (μ : PM) (h : Hp) (w : World) (μ' : PM) (h' : Hp) (w' : World) : Prop where
  le : μ.le μ'
  nxt : h.next ≤ h'.next
  new : ∀ b l, μ' b = some l → μ b = some l ∨ h.next ≤ b
  os : w'.os = w.os
  tape : w'.tape = w.tape
  output : w'.output = w.output
  size : w.heap.size ≤ w'.heap.size
  frame : ∀ ro r, r < w.heap.size → Unw ro μ h r → w'.heap[r]? = w.heap[r]? ∧ Unw ro μ' h' r

theorem Ext.refl (μ : PM) (h : Hp) (w : World) : Ext μ h w μ h w := ⟨.refl _, Nat.le_refl _, fun _ _ e => .inl e, rfl, rfl, rfl, Nat.le_refl _, fun _ _ _ u => ⟨rfl, u⟩⟩
theorem Ext.trans {μ μ1 μ2 : PM} {h h1 h2 : Hp} {w w1 w2 : World} (a : Ext μ h w μ1 h1 w1) (b : Ext μ1 h1 w1 μ2 h2 w2) : Ext μ h w μ2 h2 w2 :=
  ⟨a.le.trans b.le, Nat.le_trans a.nxt b.nxt, fun x l e => (b.new x l e).elim (fun e => a.new x l e) (fun e => .inr (Nat.le_trans a.nxt e)), b.os.trans a.os, b.tape.trans a.tape, b.output.trans a.output,
   Nat.le_trans a.size b.size, fun ro r hr u => by
    obtain ⟨e1, u1⟩ := a.frame ro r hr u
    obtain ⟨e2, u2⟩ := b.frame ro r (Nat.lt_of_lt_of_le hr a.size) u1
    exact ⟨e2.trans e1, u2⟩⟩
/-- A draw. -/
theorem Rel.drew (R : Rel P μ h w) (n : Nat) : Rel P μ h { w with drawn := n } := ⟨R.ob, R.dom, R.sep, R.glob, R.low⟩
theorem Ext.drew (μ : PM) (h : Hp) (w : World) (n : Nat) : Ext μ h w μ h { w with drawn := n } := ⟨.refl _, Nat.le_refl _, fun _ _ e => .inl e, rfl, rfl, rfl, Nat.le_refl _, fun _ _ _ u => ⟨rfl, u⟩⟩

/-! ### The virtual heap's own laws -/
theorem Hp.get_put_same (h : Hp) (b : Nat) (o : Ob) : (h.put b o).get b = some o := T.get_set_same _ _ _
theorem Hp.get_put_ne (h : Hp) {b c : Nat} (e : b ≠ c) (o : Ob) : (h.put b o).get c = h.get c := T.get_set_ne (fun x => e (Pos.of_inj x)) _ _
theorem Hp.get_new_same (h : Hp) (o : Ob) : (h.new o).get h.next = some o := T.get_set_same _ _ _
theorem Hp.get_new_ne (h : Hp) {b : Nat} (e : h.next ≠ b) (o : Ob) : (h.new o).get b = h.get b := T.get_set_ne (fun x => e (Pos.of_inj x)) _ _
theorem Hp.next_put (h : Hp) (b : Nat) (o : Ob) : (h.put b o).next = h.next := rfl
theorem Hp.next_new (h : Hp) (o : Ob) : (h.new o).next = h.next + 1 := rfl
/-! ### Reading -/
theorem cell_of {r o : Nat} {c : Array Value} {e : TypeId} {fz : Nat × Nat} (hr : w.heap[r]? = some (.cells c e fz)) : w.cell? ⟨r, o, none⟩ = c[o]? := by simp [World.cell?, hr]
theorem load1_sound (R : Rel P μ h w) {b o : Nat} {v : V} {l : Loc} (hb : μ b = some l) (hl : load1 h b o = some v) : ∃ r, w.cell? ⟨l.r, l.off + o, none⟩ = some r ∧ VR μ v r := by
  unfold load1 at hl
  obtain ⟨ob, ho, hR⟩ := R.ob b l hb
  rw [ho] at hl
  cases ob <;> simp at hl
  obtain ⟨c, e, fz, hr, hc, _⟩ := hR
  obtain ⟨r, h1, h2⟩ := hc o v hl
  exact ⟨r, by rw [cell_of hr]; exact h1, h2⟩
theorem loadL_sound (R : Rel P μ h w) {b o n : Nat} {vs : List V} {l : Loc} (hb : μ b = some l) (hl : loadL h b o n = some vs) :
    ∃ rs, VRs μ vs rs ∧ rs.length = n ∧ ∀ j r, rs[j]? = some r → w.cell? ⟨l.r, l.off + (o + j), none⟩ = some r := by
  unfold loadL at hl
  obtain ⟨ob, ho, hR⟩ := R.ob b l hb
  rw [ho] at hl
  cases ob <;> simp at hl
  rename_i x
  obtain ⟨hlen, rfl⟩ := hl
  obtain ⟨c, e, fz, hr, hc, _⟩ := hR
  have hget : ∀ j, j < n → ∃ r, c[l.off + (o + j)]? = some r ∧ ∀ v, x.l[o + j]? = some v → VR μ v r := by
    intro j hj
    have : x.l[o + j]? = some (x.l[o + j]'(by omega)) := List.getElem?_eq_getElem (by omega)
    obtain ⟨r, h1, h2⟩ := hc (o + j) _ this
    exact ⟨r, h1, fun v hv => by rw [this] at hv; cases hv; exact h2⟩
  refine ⟨(List.range n).map fun j => (c[l.off + (o + j)]?).getD default, ?_, by simp, ?_⟩
  · refine VRs.of_get (by simp; omega) fun i v r hv hr' => ?_
    simp only [List.getElem?_take, List.getElem?_drop] at hv
    split at hv
    · rename_i hi
      obtain ⟨r', h1, h2⟩ := hget i hi
      simp [List.getElem?_map, List.getElem?_range hi, h1] at hr'
      subst hr'
      exact h2 v hv
    · cases hv
  · intro j r hj
    have hjn : j < n := by have := (List.getElem?_eq_some_iff.1 hj).1; simpa using this
    obtain ⟨r', h1, _⟩ := hget j hjn
    simp [List.getElem?_map, List.getElem?_range hjn, h1] at hj
    subst hj
    rw [cell_of hr, h1]

/-! ### What stays -/
theorem EntR.mono {μ ν : PM} (hle : μ.le ν) : ∀ {l : List (V × V × Nat)} {m : List MapEntry}, EntR μ l m → EntR ν l m
  | [], [], _ => trivial
  | (k, v, b) :: l, e :: m, h => ⟨h.1.mono hle, h.2.1.mono hle, h.2.2.1, EntR.mono hle h.2.2.2⟩
  | [], _ :: _, h => h.elim
  | (_, _, _) :: _, [], h => h.elim
theorem FR.mono {μ ν : PM} (hle : μ.le ν) {F : Frm} {n : Nat} {t : Array Value} (h : FR μ F n t) : FR ν F n t := ⟨h.1, fun i hi => (h.2 i hi).mono hle⟩
theorem CellR.mono {μ ν : PM} (hle : μ.le ν) {l : List V} {c : Array Value} {o : Nat} (h : CellR μ l c o) : CellR ν l c o := fun i v hv => by
  obtain ⟨r, h1, h2⟩ := h i v hv
  exact ⟨r, h1, h2.mono hle⟩
theorem LoopR.mono {μ ν : PM} (hle : μ.le ν) {r : Lp} {l : Loop} (h : LoopR P μ r l) : LoopR P ν r l := by
  obtain ⟨a, b, c, d, e, f, ⟨ld, h1, h2⟩, n, hF, g⟩ := h
  exact ⟨a, b, c, d, e, f, ⟨ld, hle _ _ h1, h2⟩, n, hF.mono hle, g⟩
theorem ObR.frame {μ ν : PM} (hle : μ.le ν) {w w' : World} {l : Loc} (hw : w'.heap[l.r]? = w.heap[l.r]?) {o : Ob} (h : ObR P μ w l o) : ObR P ν w' l o := by
  cases o with
  | dead => trivial
  | cells x =>
    obtain ⟨c, e, fz, h1, h2, h3⟩ := h
    exact ⟨c, e, fz, hw.trans h1, h2.mono hle, h3⟩
  | map es k =>
    obtain ⟨a, h1, h2⟩ := h
    exact ⟨a, hw.trans h1, h2.mono hle⟩
  | loop r =>
    obtain ⟨q, h1, h2⟩ := h
    exact ⟨q, hw.trans h1, h2.mono hle⟩
  | deferred b => exact Eq.trans hw h

/-! ### Real stores -/
theorem setCells_facts (b : Nat) : ∀ (vs : List Value) (o : Nat) (w : World) (c : Array Value) (e : TypeId) (fz : Nat × Nat), w.heap[b]? = some (.cells c e fz) →
    (w.setCells b o vs).os = w.os ∧ (w.setCells b o vs).tape = w.tape ∧ (w.setCells b o vs).output = w.output ∧ (w.setCells b o vs).heap.size = w.heap.size ∧ (w.setCells b o vs).drawn = w.drawn ∧
    (∀ r, r ≠ b → (w.setCells b o vs).heap[r]? = w.heap[r]?) ∧
    ∃ c', (w.setCells b o vs).heap[b]? = some (.cells c' e fz) ∧ c'.size = c.size ∧ ∀ j, c'[j]? = if o ≤ j ∧ j < o + vs.length ∧ j < c.size then vs[j - o]? else c[j]?
  | [], o, w, c, e, fz, h => ⟨rfl, rfl, rfl, rfl, rfl, fun _ _ => rfl, c, h, rfl, fun j => by rw [if_neg]; simp; omega⟩
  | v :: vs, o, w, c, e, fz, h => by
    have hb : b < w.heap.size := by
      rcases Nat.lt_or_ge b w.heap.size with hb | hb
      · exact hb
      · rw [Array.getElem?_eq_none hb] at h; cases h
    have h1 : (w.setCell ⟨b, o, none⟩ v).heap[b]? = some (.cells (c.setIfInBounds o v) e fz) := by
      show (w.heap.modify b _)[b]? = _
      rw [Array.getElem?_modify, if_pos rfl, h]
      rfl
    obtain ⟨a1, a2, a3, a4, a5, a6, c', a7, a8, a9⟩ := setCells_facts b vs (o + 1) (w.setCell ⟨b, o, none⟩ v) _ e fz h1
    refine ⟨a1, a2, a3, a4.trans (by simp [World.setCell]), a5, fun r hr => (a6 r hr).trans (by simp [World.setCell, Array.getElem?_modify, Ne.symm hr]), c', a7, by rw [a8]; simp, fun j => ?_⟩
    rw [a9 j]
    simp only [Array.size_setIfInBounds, List.length_cons]
    by_cases hj : j = o
    · subst hj
      rw [if_neg (by omega)]
      by_cases hs : j < c.size
      · rw [if_pos ⟨by omega, by omega, hs⟩]; simp [hs]
      · rw [if_neg (by omega)]; simp [hs]
    · by_cases hi : o + 1 ≤ j ∧ j < o + 1 + vs.length ∧ j < c.size
      · rw [if_pos hi, if_pos (by omega), show j - o = (j - (o + 1)) + 1 by omega]; rfl
      · rw [if_neg hi, if_neg (by omega)]
        simp [Array.getElem?_setIfInBounds, Ne.symm hj]

/-- A cell's value is one. -/
theorem VR.oneCell {v : V} {r : Value} (h : VR μ v r) (hc : v.isCell = true) : r.oneCell' = true := by
  cases h <;> first | rfl | simp [V.isCell] at hc
theorem VRs.oneCells {l : List V} {m : List Value} (h : VRs μ l m) (hc : l.all V.isCell = true) : ∀ v ∈ m, v.oneCell' = true := by
  induction l generalizing m with
  | nil => cases h; simp
  | cons a l ih =>
    cases h with
    | cons h t =>
      simp only [List.all_cons, Bool.and_eq_true] at hc
      intro v hv
      rcases List.mem_cons.1 hv with rfl | hv
      · exact h.oneCell hc.1
      · exact ih t hc.2 v hv

theorem splice_get {l vs : List V} {o : Nat} (h : o + vs.length ≤ l.length) (j : Nat) : (splice l o vs)[j]? = if o ≤ j ∧ j < o + vs.length then vs[j - o]? else l[j]? := by
  unfold splice
  have h1 : (l.take o).length = o := by rw [List.length_take]; omega
  by_cases ha : j < o
  · rw [List.getElem?_append_left (by omega), if_neg (by omega), List.getElem?_take, if_pos ha]
  · rw [List.getElem?_append_right (by omega), h1]
    by_cases hb : j < o + vs.length
    · rw [if_pos (by omega), List.getElem?_append_left (by omega)]
    · rw [if_neg (by omega), List.getElem?_append_right (by omega), List.getElem?_drop]
      congr 1
      omega
theorem splice_length {l vs : List V} {o : Nat} (h : o + vs.length ≤ l.length) : (splice l o vs).length = l.length := by
  unfold splice
  simp [List.length_take, List.length_drop]
  omega

theorem storeL_sound (R : Rel P μ h w) {b o : Nat} {vs : List V} {rs : List Value} {l : Loc} {h' : Hp} (hb : μ b = some l) (hv : VRs μ vs rs) (hs : storeL h b o vs = some h') :
    ∃ w', (storeCells ⟨l.r, l.off + o, none⟩ rs).run P w = .ok () w' ∧ Ext μ h w μ h' w' ∧ Rel P μ h' w' ∧ w'.drawn = w.drawn := by
  unfold storeL at hs
  split at hs
  · cases hv
    simp only [Option.some.injEq] at hs
    subst hs
    exact ⟨w, rfl, .refl _ _ _, R, rfl⟩
  · obtain ⟨ob, hob, hR⟩ := R.ob b l hb
    rw [hob] at hs
    cases ob <;> simp at hs
    rename_i hne x
    obtain ⟨⟨⟨⟨hrw, hfit⟩, hcell⟩, hfz⟩, rfl⟩ := hs
    obtain ⟨c, e, fz, hr, hc, hf, he, hx1, hx2, hx3⟩ := hR
    replace hf := hf hrw
    have hwr : writable (h.get b) := by rw [hob]; exact hrw
    have hlen := hv.length
    have hin : ∀ j, j < rs.length → ∃ r, c[l.off + (o + j)]? = some r := fun j hj => by
      have : x.l[o + j]? = some (x.l[o + j]'(by omega)) := List.getElem?_eq_getElem (by omega)
      obtain ⟨r, h1, _⟩ := hc _ _ this
      exact ⟨r, h1⟩
    have hsz : ∀ j, j < rs.length → l.off + (o + j) < c.size := fun j hj => by
      obtain ⟨r, h1⟩ := hin j hj
      rcases Nat.lt_or_ge (l.off + (o + j)) c.size with h2 | h2
      · exact h2
      · rw [Array.getElem?_eq_none h2] at h1; cases h1
    have hone : ∀ v ∈ rs, v.oneCell' = true := hv.oneCells (List.all_eq_true.2 fun y hy => hcell y hy)
    have hrun := run_storeCells_cells (P := P) l.r (l.off + o) rs 0 w
      (fun j hj => by
        obtain ⟨r, h1⟩ := hin j hj
        rw [cell_of hr, show l.off + o + 0 + j = l.off + (o + j) by omega, h1]; rfl)
      (fun j hj => by
        simp only [World.frozen?, hr]
        by_cases hz : fz.1 ≤ l.off + o + 0 + j ∧ l.off + o + 0 + j < fz.2
        · have h2 := hf _ hz.1 hz.2 (.inr (by have := hsz j hj; omega)) (by omega)
          omega
        · simp only [Bool.and_eq_false_iff, decide_eq_false_iff_not]
          omega) hone
    obtain ⟨a1, a2, a3, a4, a5, a6, c', a7, a8, a9⟩ := setCells_facts l.r rs (l.off + o) w c e fz hr
    rw [Nat.add_zero] at hrun
    have hoth : ∀ b2 l2, μ b2 = some l2 → b2 ≠ b → l2.r = l.r → h.get b2 = some .dead := fun b2 l2 h2 hne2 hrr => by
      exact (R.sep b l b2 l2 hb h2 (Ne.symm hne2) hrr.symm).writable hwr
    refine ⟨_, hrun, ⟨.refl _, Nat.le_refl _, fun _ _ e => .inl e, a1, a2, a3, Nat.le_of_eq a4.symm, fun ro r hr2 hu => ?_⟩, ?_, a5⟩
    · have hrl : r ≠ l.r := fun he => hu.not hb hwr he.symm
      refine ⟨a6 r hrl, fun b2 l2 h2 h3 => ?_⟩
      have hbb : b2 ≠ b := fun he => by subst he; rw [hb] at h2; cases h2; exact hrl h3.symm
      rw [Hp.get_put_ne _ (Ne.symm hbb)]
      exact hu b2 l2 h2 h3
    · refine ⟨fun b2 l2 h2 => ?_, R.dom, fun b1 l1 b2 l2 h1 h2 hne2 hrr => ?_, R.glob, fun b2 l2 h2 => by rw [a4]; exact R.low b2 l2 h2⟩
      · by_cases hbb : b2 = b
        · subst hbb
          rw [hb] at h2; cases h2
          refine ⟨_, Hp.get_put_same _ _ _, c', e, fz, a7, fun i v hv2 => ?_, fun _ j j1 j2 j3 j4 => hf j j1 j2 (j3.imp id (fun h => by omega)) j4, he, fun hx hy => ⟨(hx1 hx hy).1, by rw [a8, splice_length (by omega)]; exact (hx1 hx hy).2⟩, fun hx hy => by rw [a8, splice_length (by omega)]; exact hx2 hx hy, hx3⟩
          rw [splice_get (by omega)] at hv2
          rw [a9]
          split at hv2
          · rename_i hi
            obtain ⟨r, h3, h4⟩ := hv.get hv2
            have := hsz (i - o) (by omega)
            rw [if_pos ⟨by omega, by omega, by omega⟩]
            exact ⟨r, by rw [show l.off + i - (l.off + o) = i - o by omega]; exact h3, h4⟩
          · rename_i hi
            rw [if_neg (by omega)]
            exact hc i v hv2
        · rw [Hp.get_put_ne _ (Ne.symm hbb)]
          obtain ⟨o2, h3, h4⟩ := R.ob b2 l2 h2
          refine ⟨o2, h3, ?_⟩
          by_cases hrr : l2.r = l.r
          · have h5 := hoth b2 l2 h2 hbb hrr
            rw [h3] at h5; cases h5; trivial
          · exact h4.frame (.refl _) (a6 _ hrr)
      · by_cases hb1 : b1 = b
        · subst hb1
          rw [hb] at h1; cases h1
          rw [Hp.get_put_ne _ hne2]
          exact .inr (.inl (hoth b2 l2 h2 (Ne.symm hne2) hrr.symm))
        · rw [Hp.get_put_ne _ (Ne.symm hb1)]
          by_cases hb2 : b2 = b
          · subst hb2
            rw [hb] at h2; cases h2
            exact .inl (hoth b1 l1 h1 hb1 hrr)
          · rw [Hp.get_put_ne _ (Ne.symm hb2)]
            exact R.sep b1 l1 b2 l2 h1 h2 hne2 hrr

/-! ### New blocks -/
def PM.add (μ : PM) (n : Nat) (l : Loc) : PM := fun b => if b = n then some l else μ b
theorem PM.add_same (μ : PM) (n : Nat) (l : Loc) : μ.add n l n = some l := if_pos rfl
theorem PM.add_ne (μ : PM) {n b : Nat} (l : Loc) (h : b ≠ n) : μ.add n l b = μ b := if_neg h
theorem PM.le_add {μ : PM} {n : Nat} (l : Loc) (hd : ∀ b l, μ b = some l → b < n) : μ.le (μ.add n l) := fun b l' h => by
  rw [PM.add_ne _ _ (Nat.ne_of_lt (hd b l' h))]; exact h
theorem PM.add_inv {μ : PM} {n b : Nat} {l l' : Loc} (h : μ.add n l b = some l') : (b = n ∧ l' = l) ∨ (b ≠ n ∧ μ b = some l') := by
  by_cases e : b = n
  · subst e; rw [PM.add_same] at h; exact .inl ⟨rfl, (Option.some.inj h).symm⟩
  · rw [PM.add_ne _ _ e] at h; exact .inr ⟨e, h⟩
theorem alloc_old (w : World) (o : Obj) {r : Nat} (h : r < w.heap.size) : (w.alloc o).heap[r]? = w.heap[r]? := by
  show (w.heap.push o)[r]? = _
  rw [Array.getElem?_push, if_neg (Nat.ne_of_lt h)]
theorem alloc_last (w : World) (o : Obj) : (w.alloc o).heap[w.heap.size]? = some o := by
  show (w.heap.push o)[w.heap.size]? = _
  rw [Array.getElem?_push, if_pos rfl]
theorem new_any (R : Rel P μ h w) {w' : World} (ob : Ob) (cap : Nat) (hsize : w'.heap.size = w.heap.size + 1) (hold : ∀ r, r < w.heap.size → w'.heap[r]? = w.heap[r]?)
    (hos : w'.os = w.os) (htape : w'.tape = w.tape) (hout : w'.output = w.output)
    (hob : ObR P (μ.add h.next ⟨w.heap.size, 0, cap⟩) w' ⟨w.heap.size, 0, cap⟩ ob) :
    Rel P (μ.add h.next ⟨w.heap.size, 0, cap⟩) (h.new ob) w' ∧ Ext μ h w (μ.add h.next ⟨w.heap.size, 0, cap⟩) (h.new ob) w' := by
  have hle := PM.le_add ⟨w.heap.size, 0, cap⟩ R.dom
  refine ⟨⟨fun b l hb => ?_, fun b l hb => ?_, fun b1 l1 b2 l2 h1 h2 hne hr => ?_, fun g hg => hle _ _ (R.glob g hg), fun b l hb => ?_⟩,
    ⟨hle, by rw [Hp.next_new]; omega, fun b l hb => ?_, hos, htape, hout, by rw [hsize]; omega, fun ro r hr hu => ⟨hold r hr, fun b l hb hlr => ?_⟩⟩⟩
  · rcases PM.add_inv hb with ⟨rfl, rfl⟩ | ⟨hne, hb⟩
    · exact ⟨ob, Hp.get_new_same _ _, hob⟩
    · obtain ⟨o2, h1, h2⟩ := R.ob b l hb
      exact ⟨o2, by rw [Hp.get_new_ne _ (Ne.symm hne)]; exact h1, h2.frame hle (hold _ (R.low b l hb))⟩
  · rw [Hp.next_new]
    rcases PM.add_inv hb with ⟨rfl, rfl⟩ | ⟨hne, hb⟩
    · omega
    · have := R.dom b l hb; omega
  · rcases PM.add_inv h1 with ⟨rfl, rfl⟩ | ⟨hne1, h1⟩
    · rcases PM.add_inv h2 with ⟨rfl, rfl⟩ | ⟨hne2, h2⟩
      · exact (hne rfl).elim
      · have := R.low b2 l2 h2; simp at hr; omega
    · rcases PM.add_inv h2 with ⟨rfl, rfl⟩ | ⟨hne2, h2⟩
      · have := R.low b1 l1 h1; simp at hr; omega
      · rw [Hp.get_new_ne _ (Ne.symm hne2), Hp.get_new_ne _ (Ne.symm hne1)]
        exact R.sep b1 l1 b2 l2 h1 h2 hne hr
  · rw [hsize]
    rcases PM.add_inv hb with ⟨rfl, rfl⟩ | ⟨hne, hb⟩
    · simp
    · have := R.low b l hb; omega
  · rcases PM.add_inv hb with ⟨rfl, rfl⟩ | ⟨hne, hb⟩
    · exact .inr (Nat.le_refl _)
    · exact .inl hb
  · rcases PM.add_inv hb with ⟨rfl, rfl⟩ | ⟨hne, hb⟩
    · simp at hlr; omega
    · rw [Hp.get_new_ne _ (Ne.symm hne)]; exact hu b l hb hlr
theorem new_sound (R : Rel P μ h w) (o : Obj) (ob : Ob) (cap : Nat)
    (hob : ObR P (μ.add h.next ⟨w.heap.size, 0, cap⟩) (w.alloc o) ⟨w.heap.size, 0, cap⟩ ob) :
    Rel P (μ.add h.next ⟨w.heap.size, 0, cap⟩) (h.new ob) (w.alloc o) ∧ Ext μ h w (μ.add h.next ⟨w.heap.size, 0, cap⟩) (h.new ob) (w.alloc o) :=
  new_any R ob cap (Array.size_push _) (fun r hr => alloc_old w o hr) rfl rfl rfl hob
theorem CellR.of_list {l : List V} {c : List Value} (h : VRs μ l c) : CellR μ l c.toArray 0 := fun i v hv => by
  obtain ⟨r, h1, h2⟩ := h.get hv
  exact ⟨r, by simpa using h1, h2⟩
theorem newBlk_sound (R : Rel P μ h w) {l : List V} {c : List Value} (e : TypeId) (hc : VRs μ l c) (cap : Nat) :
    Rel P (μ.add h.next ⟨w.heap.size, 0, cap⟩) (h.new (newBlk l e)) (w.alloc (.cells c.toArray e)) ∧ Ext μ h w (μ.add h.next ⟨w.heap.size, 0, cap⟩) (h.new (newBlk l e)) (w.alloc (.cells c.toArray e)) := by
  refine new_sound R _ _ cap ⟨c.toArray, e, (0, 0), alloc_last _ _, (CellR.of_list hc).mono (PM.le_add _ R.dom), fun _ j _ h2 _ _ => by omega, fun _ => rfl, fun _ _ => ⟨rfl, by simp [hc.length]⟩, (fun h => by cases h), (fun _ _ => Nat.le_refl _)⟩

theorem dead_sound (R : Rel P μ h w) (b : Nat) : Rel P μ (h.put b .dead) w ∧ Ext μ h w μ (h.put b .dead) w := by
  refine ⟨⟨fun b2 l2 h2 => ?_, R.dom, fun b1 l1 b2 l2 h1 h2 hne hr => ?_, R.glob, R.low⟩, .refl _, Nat.le_refl _, fun _ _ e => .inl e, rfl, rfl, rfl, Nat.le_refl _, fun ro r hr hu => ⟨rfl, fun b2 l2 h2 h3 => ?_⟩⟩
  · by_cases hb : b2 = b
    · subst hb; exact ⟨_, Hp.get_put_same _ _ _, trivial⟩
    · rw [Hp.get_put_ne _ (Ne.symm hb)]; exact R.ob b2 l2 h2
  · by_cases hb1 : b1 = b
    · subst hb1; exact .inl (Hp.get_put_same _ _ _)
    · by_cases hb2 : b2 = b
      · subst hb2; exact .inr (.inl (Hp.get_put_same _ _ _))
      · rw [Hp.get_put_ne _ (Ne.symm hb1), Hp.get_put_ne _ (Ne.symm hb2)]; exact R.sep b1 l1 b2 l2 h1 h2 hne hr
  · by_cases hb : b2 = b
    · subst hb; exact .inl (Hp.get_put_same _ _ _)
    · rw [Hp.get_put_ne _ (Ne.symm hb)]; exact hu b2 l2 h2 h3
end Go.Vm
