/- How the heaps stand to each other, and what each operation on memory does to that. -/
import Derived.Test.YtodpkcebihbghaaGreatDoorVmPure
import Derived.Laws.IdiomCopy
import Derived.MapKept
import Derived.LaidEql
import Derived.Laws.BytesString
import Derived.Laws.MakeOwn
set_option linter.unusedVariables false
set_option linter.unusedSimpArgs false
namespace Go.Vm
open Go.RowKit

variable {P : Program} {μ : PM} {h : Hp} {w : World}

def LoopR (P : Program) (μ : PM) (r : Lp) (l : Loop) : Prop :=
  l.state = r.state ∧ l.pending = r.pending ∧ l.fn = r.fn ∧ l.assign = r.assign ∧ l.body = r.body ∧ r.params = l.params.toList.map Pos.of ∧ (∃ ld, μ r.defers = some ld ∧ l.defers = ld.r) ∧
  ∃ n, FR μ r.F n l.tmps ∧ okCode P n r.assign = true ∧ okCode P n r.body = true ∧ (∀ p ∈ l.params, p < n) ∧ (match r.pending with | none | some .ret | some (.exit _) => True | _ => False)

def ObR (P : Program) (μ : PM) (w : World) (l : Loc) : Ob → Prop
  | .dead => True
  | .cells x => ∃ c e fz, w.heap[l.r]? = some (.cells c e fz) ∧ CellR μ x.l c l.off ∧
      (x.rw = true → ∀ j, fz.1 ≤ j → j < fz.2 → (x.exact = true ∨ j < c.size) → l.off ≤ j → l.off + x.frz.1 ≤ j ∧ j < l.off + x.frz.2) ∧ (x.rw = true → e = x.elem) ∧
      (x.exact = true → x.rw = true → l.off = 0 ∧ c.size = x.l.length) ∧
      (x.exact = false → x.rw = true → e = x.elem ∧ l.off + l.cap * P.cellsOf x.elem ≤ c.size ∧ x.l.length ≤ l.cap * P.cellsOf x.elem ∧ l.cap ≤ 9223372036854775807) ∧
      (x.rw = false → x.frz.1 = x.frz.2 → fz.2 ≤ fz.1)
  | .map es k => ∃ a, w.heap[l.r]? = some (.map a k) ∧ EntR μ es a.toList
  | .loop r => ∃ q, w.heap[l.r]? = some (.loop q) ∧ LoopR P μ r q
  | .deferred b => w.heap[l.r]? = some (.deferred (if b then some [] else none))

/-- Two virtual blocks may share a real one where one is dead, or both are never written and (where pointers into both may be compared) lie apart. -/
def Share (o1 o2 : Option Ob) (l1 l2 : Loc) : Prop :=
  o1 = some .dead ∨ o2 = some .dead ∨ ∃ x1 x2, o1 = some (.cells x1) ∧ o2 = some (.cells x2) ∧ x1.rw = false ∧ x2.rw = false ∧ (x1.frz.1 ≠ x1.frz.2 ∨ x2.frz.1 ≠ x2.frz.2 ∨ ∀ i1 i2, i1 < x1.l.length → i2 < x2.l.length → l1.off + i1 ≠ l2.off + i2)
theorem Share.writable {o1 o2 : Option Ob} {l1 l2 : Loc} (h : Share o1 o2 l1 l2) (hw : writable o1) : o2 = some .dead := by
  rcases h with h | h | ⟨x1, x2, h1, h2, h3, h4, _⟩
  · subst h; exact hw.elim
  · exact h
  · subst h1; rw [show x1.rw = true from hw] at h3; cases h3
structure Rel (P : Program) (μ : PM) (h : Hp) (w : World) : Prop where
  ob : ∀ b l, μ b = some l → ∃ o, h.get b = some o ∧ ObR P μ w l o
  dom : ∀ b l, μ b = some l → b < h.next
  sep : ∀ b1 l1 b2 l2, μ b1 = some l1 → μ b2 = some l2 → b1 ≠ b2 → l1.r = l2.r → Share (h.get b1) (h.get b2) l1 l2
  glob : ∀ g, g ≤ P.globals.size → μ g = some ⟨g, 0, 0⟩
  low : ∀ b l, μ b = some l → l.r < w.heap.size

/-- A real block that no block alive stands for; or none that may be written. -/
def Unw (ro : Bool) (μ : PM) (h : Hp) (r : Nat) : Prop := ∀ b l, μ b = some l → l.r = r → h.get b = some .dead ∨ (ro = true ∧ ∃ x, h.get b = some (.cells x) ∧ x.rw = false)
theorem Unw.not {ro : Bool} {μ : PM} {h : Hp} {r b : Nat} {l : Loc} (u : Unw ro μ h r) (hb : μ b = some l) (hw : writable (h.get b)) : l.r ≠ r := fun hr => by
  rcases u b l hb hr with h1 | ⟨_, x, h1, h2⟩
  · rw [h1] at hw; exact hw
  · rw [h1] at hw; rw [show x.rw = true from hw] at h2; cases h2
theorem Unw.dead {μ : PM} {h : Hp} {r b : Nat} {l : Loc} (u : Unw false μ h r) (hb : μ b = some l) (hr : l.r = r) : h.get b = some .dead := (u b l hb hr).elim id fun h => by cases h.1

structure Ext (μ : PM) (h : Hp) (w : World) (μ' : PM) (h' : Hp) (w' : World) : Prop where
  le : μ.le μ'
  nxt : h.next ≤ h'.next
  new : ∀ b l, μ' b = some l → μ b = some l ∨ h.next ≤ b
  os : w'.os = w.os
  tape : w'.tape = w.tape
  output : w'.output = w.output
  size : w.heap.size ≤ w'.heap.size
  frame : ∀ ro r, r < w.heap.size → Unw ro μ h r → w'.heap[r]? = w.heap[r]? ∧ Unw ro μ' h' r

theorem Ext.refl (μ : PM) (h : Hp) (w : World) : Ext μ h w μ h w := ⟨.refl _, Nat.le_refl _, fun _ _ e => .inl e, rfl, rfl, rfl, Nat.le_refl _, fun _ _ _ u => ⟨rfl, u⟩⟩
theorem Ext.trans {μ μ1 μ2 : PM} {h h1 h2 : Hp} {w w1 w2 : World} (a : Ext μ h w μ1 h1 w1) (b : Ext μ1 h1 w1 μ2 h2 w2) : Ext μ h w μ2 h2 w2 :=
  ⟨a.le.trans b.le, Nat.le_trans a.nxt b.nxt, fun x l e => (b.new x l e).elim (fun e => a.new x l e) (fun e => .inr (Nat.le_trans a.nxt e)), b.os.trans a.os, b.tape.trans a.tape, b.output.trans a.output,
   Nat.le_trans a.size b.size, fun ro r hr u => by
    obtain ⟨e1, u1⟩ := a.frame ro r hr u
    obtain ⟨e2, u2⟩ := b.frame ro r (Nat.lt_of_lt_of_le hr a.size) u1
    exact ⟨e2.trans e1, u2⟩⟩
/-- A draw. -/
theorem Rel.drew (R : Rel P μ h w) (n : Nat) : Rel P μ h { w with drawn := n } := ⟨R.ob, R.dom, R.sep, R.glob, R.low⟩
theorem Ext.drew (μ : PM) (h : Hp) (w : World) (n : Nat) : Ext μ h w μ h { w with drawn := n } := ⟨.refl _, Nat.le_refl _, fun _ _ e => .inl e, rfl, rfl, rfl, Nat.le_refl _, fun _ _ _ u => ⟨rfl, u⟩⟩

/-! ### The virtual heap's own laws -/
theorem Hp.get_put_same (h : Hp) (b : Nat) (o : Ob) : (h.put b o).get b = some o := T.get_set_same _ _ _
theorem Hp.get_put_ne (h : Hp) {b c : Nat} (e : b ≠ c) (o : Ob) : (h.put b o).get c = h.get c := T.get_set_ne (fun x => e (Pos.of_inj x)) _ _
theorem Hp.get_new_same (h : Hp) (o : Ob) : (h.new o).get h.next = some o := T.get_set_same _ _ _
theorem Hp.get_new_ne (h : Hp) {b : Nat} (e : h.next ≠ b) (o : Ob) : (h.new o).get b = h.get b := T.get_set_ne (fun x => e (Pos.of_inj x)) _ _
theorem Hp.next_put (h : Hp) (b : Nat) (o : Ob) : (h.put b o).next = h.next := rfl
theorem Hp.next_new (h : Hp) (o : Ob) : (h.new o).next = h.next + 1 := rfl
/-! ### Reading -/
theorem cell_of {r o : Nat} {c : Array Value} {e : TypeId} {fz : Nat × Nat} (hr : w.heap[r]? = some (.cells c e fz)) : w.cell? ⟨r, o, none⟩ = c[o]? := by simp [World.cell?, hr]
theorem load1_sound (R : Rel P μ h w) {b o : Nat} {v : V} {l : Loc} (hb : μ b = some l) (hl : load1 h b o = some v) : ∃ r, w.cell? ⟨l.r, l.off + o, none⟩ = some r ∧ VR μ v r := by
  unfold load1 at hl
  obtain ⟨ob, ho, hR⟩ := R.ob b l hb
  rw [ho] at hl
  cases ob <;> simp at hl
  obtain ⟨c, e, fz, hr, hc, _⟩ := hR
  obtain ⟨r, h1, h2⟩ := hc o v hl
  exact ⟨r, by rw [cell_of hr]; exact h1, h2⟩
theorem loadL_sound (R : Rel P μ h w) {b o n : Nat} {vs : List V} {l : Loc} (hb : μ b = some l) (hl : loadL h b o n = some vs) :
    ∃ rs, VRs μ vs rs ∧ rs.length = n ∧ ∀ j r, rs[j]? = some r → w.cell? ⟨l.r, l.off + (o + j), none⟩ = some r := by
  unfold loadL at hl
  obtain ⟨ob, ho, hR⟩ := R.ob b l hb
  rw [ho] at hl
  cases ob <;> simp at hl
  rename_i x
  obtain ⟨hlen, rfl⟩ := hl
  obtain ⟨c, e, fz, hr, hc, _⟩ := hR
  have hget : ∀ j, j < n → ∃ r, c[l.off + (o + j)]? = some r ∧ ∀ v, x.l[o + j]? = some v → VR μ v r := by
    intro j hj
    have : x.l[o + j]? = some (x.l[o + j]'(by omega)) := List.getElem?_eq_getElem (by omega)
    obtain ⟨r, h1, h2⟩ := hc (o + j) _ this
    exact ⟨r, h1, fun v hv => by rw [this] at hv; cases hv; exact h2⟩
  refine ⟨(List.range n).map fun j => (c[l.off + (o + j)]?).getD default, ?_, by simp, ?_⟩
  · refine VRs.of_get (by simp; omega) fun i v r hv hr' => ?_
    simp only [List.getElem?_take, List.getElem?_drop] at hv
    split at hv
    · rename_i hi
      obtain ⟨r', h1, h2⟩ := hget i hi
      simp [List.getElem?_map, List.getElem?_range hi, h1] at hr'
      subst hr'
      exact h2 v hv
    · cases hv
  · intro j r hj
    have hjn : j < n := by have := (List.getElem?_eq_some_iff.1 hj).1; simpa using this
    obtain ⟨r', h1, _⟩ := hget j hjn
    simp [List.getElem?_map, List.getElem?_range hjn, h1] at hj
    subst hj
    rw [cell_of hr, h1]

/-! ### What stays -/
theorem EntR.mono {μ ν : PM} (hle : μ.le ν) : ∀ {l : List (V × V × Nat)} {m : List MapEntry}, EntR μ l m → EntR ν l m
  | [], [], _ => trivial
  | (k, v, b) :: l, e :: m, h => ⟨h.1.mono hle, h.2.1.mono hle, h.2.2.1, EntR.mono hle h.2.2.2⟩
  | [], _ :: _, h => h.elim
  | (_, _, _) :: _, [], h => h.elim
theorem FR.mono {μ ν : PM} (hle : μ.le ν) {F : Frm} {n : Nat} {t : Array Value} (h : FR μ F n t) : FR ν F n t := ⟨h.1, fun i hi => (h.2 i hi).mono hle⟩
theorem CellR.mono {μ ν : PM} (hle : μ.le ν) {l : List V} {c : Array Value} {o : Nat} (h : CellR μ l c o) : CellR ν l c o := fun i v hv => by
  obtain ⟨r, h1, h2⟩ := h i v hv
  exact ⟨r, h1, h2.mono hle⟩
theorem LoopR.mono {μ ν : PM} (hle : μ.le ν) {r : Lp} {l : Loop} (h : LoopR P μ r l) : LoopR P ν r l := by
  obtain ⟨a, b, c, d, e, f, ⟨ld, h1, h2⟩, n, hF, g⟩ := h
  exact ⟨a, b, c, d, e, f, ⟨ld, hle _ _ h1, h2⟩, n, hF.mono hle, g⟩
theorem ObR.frame {μ ν : PM} (hle : μ.le ν) {w w' : World} {l : Loc} (hw : w'.heap[l.r]? = w.heap[l.r]?) {o : Ob} (h : ObR P μ w l o) : ObR P ν w' l o := by
  cases o with
  | dead => trivial
  | cells x =>
    obtain ⟨c, e, fz, h1, h2, h3⟩ := h
    exact ⟨c, e, fz, hw.trans h1, h2.mono hle, h3⟩
  | map es k =>
    obtain ⟨a, h1, h2⟩ := h
    exact ⟨a, hw.trans h1, h2.mono hle⟩
  | loop r =>
    obtain ⟨q, h1, h2⟩ := h
    exact ⟨q, hw.trans h1, h2.mono hle⟩
  | deferred b => exact Eq.trans hw h

/-! ### Real stores -/
theorem setCells_facts (b : Nat) : ∀ (vs : List Value) (o : Nat) (w : World) (c : Array Value) (e : TypeId) (fz : Nat × Nat), w.heap[b]? = some (.cells c e fz) →
    (w.setCells b o vs).os = w.os ∧ (w.setCells b o vs).tape = w.tape ∧ (w.setCells b o vs).output = w.output ∧ (w.setCells b o vs).heap.size = w.heap.size ∧ (w.setCells b o vs).drawn = w.drawn ∧
    (∀ r, r ≠ b → (w.setCells b o vs).heap[r]? = w.heap[r]?) ∧
    ∃ c', (w.setCells b o vs).heap[b]? = some (.cells c' e fz) ∧ c'.size = c.size ∧ ∀ j, c'[j]? = if o ≤ j ∧ j < o + vs.length ∧ j < c.size then vs[j - o]? else c[j]?
  | [], o, w, c, e, fz, h => ⟨rfl, rfl, rfl, rfl, rfl, fun _ _ => rfl, c, h, rfl, fun j => by rw [if_neg]; simp; omega⟩
  | v :: vs, o, w, c, e, fz, h => by
    have hb : b < w.heap.size := by
      rcases Nat.lt_or_ge b w.heap.size with hb | hb
      · exact hb
      · rw [Array.getElem?_eq_none hb] at h; cases h
    have h1 : (w.setCell ⟨b, o, none⟩ v).heap[b]? = some (.cells (c.setIfInBounds o v) e fz) := by
      show (w.heap.modify b _)[b]? = _
      rw [Array.getElem?_modify, if_pos rfl, h]
      rfl
    obtain ⟨a1, a2, a3, a4, a5, a6, c', a7, a8, a9⟩ := setCells_facts b vs (o + 1) (w.setCell ⟨b, o, none⟩ v) _ e fz h1
    refine ⟨a1, a2, a3, a4.trans (by simp [World.setCell]), a5, fun r hr => (a6 r hr).trans (by simp [World.setCell, Array.getElem?_modify, Ne.symm hr]), c', a7, by rw [a8]; simp, fun j => ?_⟩
    rw [a9 j]
    simp only [Array.size_setIfInBounds, List.length_cons]
    by_cases hj : j = o
    · subst hj
      rw [if_neg (by omega)]
      by_cases hs : j < c.size
      · rw [if_pos ⟨by omega, by omega, hs⟩]; simp [hs]
      · rw [if_neg (by omega)]; simp [hs]
    · by_cases hi : o + 1 ≤ j ∧ j < o + 1 + vs.length ∧ j < c.size
      · rw [if_pos hi, if_pos (by omega), show j - o = (j - (o + 1)) + 1 by omega]; rfl
      · rw [if_neg hi, if_neg (by omega)]
        simp [Array.getElem?_setIfInBounds, Ne.symm hj]

/-- A cell's value is one. -/
theorem VR.oneCell {v : V} {r : Value} (h : VR μ v r) (hc : v.isCell = true) : r.oneCell' = true := by
  cases h <;> first | rfl | simp [V.isCell] at hc
theorem VRs.oneCells {l : List V} {m : List Value} (h : VRs μ l m) (hc : l.all V.isCell = true) : ∀ v ∈ m, v.oneCell' = true := by
  induction l generalizing m with
  | nil => cases h; simp
  | cons a l ih =>
    cases h with
    | cons h t =>
      simp only [List.all_cons, Bool.and_eq_true] at hc
      intro v hv
      rcases List.mem_cons.1 hv with rfl | hv
      · exact h.oneCell hc.1
      · exact ih t hc.2 v hv

theorem splice_get {l vs : List V} {o : Nat} (h : o + vs.length ≤ l.length) (j : Nat) : (splice l o vs)[j]? = if o ≤ j ∧ j < o + vs.length then vs[j - o]? else l[j]? := by
  unfold splice
  have h1 : (l.take o).length = o := by rw [List.length_take]; omega
  by_cases ha : j < o
  · rw [List.getElem?_append_left (by omega), if_neg (by omega), List.getElem?_take, if_pos ha]
  · rw [List.getElem?_append_right (by omega), h1]
    by_cases hb : j < o + vs.length
    · rw [if_pos (by omega), List.getElem?_append_left (by omega)]
    · rw [if_neg (by omega), List.getElem?_append_right (by omega), List.getElem?_drop]
      congr 1
      omega
theorem splice_length {l vs : List V} {o : Nat} (h : o + vs.length ≤ l.length) : (splice l o vs).length = l.length := by
  unfold splice
  simp [List.length_take, List.length_drop]
  omega

theorem storeL_sound (R : Rel P μ h w) {b o : Nat} {vs : List V} {rs : List Value} {l : Loc} {h' : Hp} (hb : μ b = some l) (hv : VRs μ vs rs) (hs : storeL h b o vs = some h') :
    ∃ w', (storeCells ⟨l.r, l.off + o, none⟩ rs).run P w = .ok () w' ∧ Ext μ h w μ h' w' ∧ Rel P μ h' w' ∧ w'.drawn = w.drawn := by
  unfold storeL at hs
  split at hs
  · cases hv
    simp only [Option.some.injEq] at hs
    subst hs
    exact ⟨w, rfl, .refl _ _ _, R, rfl⟩
  · obtain ⟨ob, hob, hR⟩ := R.ob b l hb
    rw [hob] at hs
    cases ob <;> simp at hs
    rename_i hne x
    obtain ⟨⟨⟨⟨hrw, hfit⟩, hcell⟩, hfz⟩, rfl⟩ := hs
    obtain ⟨c, e, fz, hr, hc, hf, he, hx1, hx2, hx3⟩ := hR
    replace hf := hf hrw
    have hwr : writable (h.get b) := by rw [hob]; exact hrw
    have hlen := hv.length
    have hin : ∀ j, j < rs.length → ∃ r, c[l.off + (o + j)]? = some r := fun j hj => by
      have : x.l[o + j]? = some (x.l[o + j]'(by omega)) := List.getElem?_eq_getElem (by omega)
      obtain ⟨r, h1, _⟩ := hc _ _ this
      exact ⟨r, h1⟩
    have hsz : ∀ j, j < rs.length → l.off + (o + j) < c.size := fun j hj => by
      obtain ⟨r, h1⟩ := hin j hj
      rcases Nat.lt_or_ge (l.off + (o + j)) c.size with h2 | h2
      · exact h2
      · rw [Array.getElem?_eq_none h2] at h1; cases h1
    have hone : ∀ v ∈ rs, v.oneCell' = true := hv.oneCells (List.all_eq_true.2 fun y hy => hcell y hy)
    have hrun := run_storeCells_cells (P := P) l.r (l.off + o) rs 0 w
      (fun j hj => by
        obtain ⟨r, h1⟩ := hin j hj
        rw [cell_of hr, show l.off + o + 0 + j = l.off + (o + j) by omega, h1]; rfl)
      (fun j hj => by
        simp only [World.frozen?, hr]
        by_cases hz : fz.1 ≤ l.off + o + 0 + j ∧ l.off + o + 0 + j < fz.2
        · have h2 := hf _ hz.1 hz.2 (.inr (by have := hsz j hj; omega)) (by omega)
          omega
        · simp only [Bool.and_eq_false_iff, decide_eq_false_iff_not]
          omega) hone
    obtain ⟨a1, a2, a3, a4, a5, a6, c', a7, a8, a9⟩ := setCells_facts l.r rs (l.off + o) w c e fz hr
    rw [Nat.add_zero] at hrun
    have hoth : ∀ b2 l2, μ b2 = some l2 → b2 ≠ b → l2.r = l.r → h.get b2 = some .dead := fun b2 l2 h2 hne2 hrr => by
      exact (R.sep b l b2 l2 hb h2 (Ne.symm hne2) hrr.symm).writable hwr
    refine ⟨_, hrun, ⟨.refl _, Nat.le_refl _, fun _ _ e => .inl e, a1, a2, a3, Nat.le_of_eq a4.symm, fun ro r hr2 hu => ?_⟩, ?_, a5⟩
    · have hrl : r ≠ l.r := fun he => hu.not hb hwr he.symm
      refine ⟨a6 r hrl, fun b2 l2 h2 h3 => ?_⟩
      have hbb : b2 ≠ b := fun he => by subst he; rw [hb] at h2; cases h2; exact hrl h3.symm
      rw [Hp.get_put_ne _ (Ne.symm hbb)]
      exact hu b2 l2 h2 h3
    · refine ⟨fun b2 l2 h2 => ?_, R.dom, fun b1 l1 b2 l2 h1 h2 hne2 hrr => ?_, R.glob, fun b2 l2 h2 => by rw [a4]; exact R.low b2 l2 h2⟩
      · by_cases hbb : b2 = b
        · subst hbb
          rw [hb] at h2; cases h2
          refine ⟨_, Hp.get_put_same _ _ _, c', e, fz, a7, fun i v hv2 => ?_, fun _ j j1 j2 j3 j4 => hf j j1 j2 (j3.imp id (fun h => by omega)) j4, he, fun hx hy => ⟨(hx1 hx hy).1, by rw [a8, splice_length (by omega)]; exact (hx1 hx hy).2⟩, fun hx hy => by rw [a8, splice_length (by omega)]; exact hx2 hx hy, hx3⟩
          rw [splice_get (by omega)] at hv2
          rw [a9]
          split at hv2
          · rename_i hi
            obtain ⟨r, h3, h4⟩ := hv.get hv2
            have := hsz (i - o) (by omega)
            rw [if_pos ⟨by omega, by omega, by omega⟩]
            exact ⟨r, by rw [show l.off + i - (l.off + o) = i - o by omega]; exact h3, h4⟩
          · rename_i hi
            rw [if_neg (by omega)]
            exact hc i v hv2
        · rw [Hp.get_put_ne _ (Ne.symm hbb)]
          obtain ⟨o2, h3, h4⟩ := R.ob b2 l2 h2
          refine ⟨o2, h3, ?_⟩
          by_cases hrr : l2.r = l.r
          · have h5 := hoth b2 l2 h2 hbb hrr
            rw [h3] at h5; cases h5; trivial
          · exact h4.frame (.refl _) (a6 _ hrr)
      · by_cases hb1 : b1 = b
        · subst hb1
          rw [hb] at h1; cases h1
          rw [Hp.get_put_ne _ hne2]
          exact .inr (.inl (hoth b2 l2 h2 (Ne.symm hne2) hrr.symm))
        · rw [Hp.get_put_ne _ (Ne.symm hb1)]
          by_cases hb2 : b2 = b
          · subst hb2
            rw [hb] at h2; cases h2
            exact .inl (hoth b1 l1 h1 hb1 hrr)
          · rw [Hp.get_put_ne _ (Ne.symm hb2)]
            exact R.sep b1 l1 b2 l2 h1 h2 hne2 hrr

/-! ### New blocks -/
def PM.add (μ : PM) (n : Nat) (l : Loc) : PM := fun b => if b = n then some l else μ b
theorem PM.add_same (μ : PM) (n : Nat) (l : Loc) : μ.add n l n = some l := if_pos rfl
theorem PM.add_ne (μ : PM) {n b : Nat} (l : Loc) (h : b ≠ n) : μ.add n l b = μ b := if_neg h
theorem PM.le_add {μ : PM} {n : Nat} (l : Loc) (hd : ∀ b l, μ b = some l → b < n) : μ.le (μ.add n l) := fun b l' h => by
  rw [PM.add_ne _ _ (Nat.ne_of_lt (hd b l' h))]; exact h
theorem PM.add_inv {μ : PM} {n b : Nat} {l l' : Loc} (h : μ.add n l b = some l') : (b = n ∧ l' = l) ∨ (b ≠ n ∧ μ b = some l') := by
  by_cases e : b = n
  · subst e; rw [PM.add_same] at h; exact .inl ⟨rfl, (Option.some.inj h).symm⟩
  · rw [PM.add_ne _ _ e] at h; exact .inr ⟨e, h⟩
theorem alloc_old (w : World) (o : Obj) {r : Nat} (h : r < w.heap.size) : (w.alloc o).heap[r]? = w.heap[r]? := by
  show (w.heap.push o)[r]? = _
  rw [Array.getElem?_push, if_neg (Nat.ne_of_lt h)]
theorem alloc_last (w : World) (o : Obj) : (w.alloc o).heap[w.heap.size]? = some o := by
  show (w.heap.push o)[w.heap.size]? = _
  rw [Array.getElem?_push, if_pos rfl]
theorem new_any (R : Rel P μ h w) {w' : World} (ob : Ob) (cap : Nat) (hsize : w'.heap.size = w.heap.size + 1) (hold : ∀ r, r < w.heap.size → w'.heap[r]? = w.heap[r]?)
    (hos : w'.os = w.os) (htape : w'.tape = w.tape) (hout : w'.output = w.output)
    (hob : ObR P (μ.add h.next ⟨w.heap.size, 0, cap⟩) w' ⟨w.heap.size, 0, cap⟩ ob) :
    Rel P (μ.add h.next ⟨w.heap.size, 0, cap⟩) (h.new ob) w' ∧ Ext μ h w (μ.add h.next ⟨w.heap.size, 0, cap⟩) (h.new ob) w' := by
  have hle := PM.le_add ⟨w.heap.size, 0, cap⟩ R.dom
  refine ⟨⟨fun b l hb => ?_, fun b l hb => ?_, fun b1 l1 b2 l2 h1 h2 hne hr => ?_, fun g hg => hle _ _ (R.glob g hg), fun b l hb => ?_⟩,
    ⟨hle, by rw [Hp.next_new]; omega, fun b l hb => ?_, hos, htape, hout, by rw [hsize]; omega, fun ro r hr hu => ⟨hold r hr, fun b l hb hlr => ?_⟩⟩⟩
  · rcases PM.add_inv hb with ⟨rfl, rfl⟩ | ⟨hne, hb⟩
    · exact ⟨ob, Hp.get_new_same _ _, hob⟩
    · obtain ⟨o2, h1, h2⟩ := R.ob b l hb
      exact ⟨o2, by rw [Hp.get_new_ne _ (Ne.symm hne)]; exact h1, h2.frame hle (hold _ (R.low b l hb))⟩
  · rw [Hp.next_new]
    rcases PM.add_inv hb with ⟨rfl, rfl⟩ | ⟨hne, hb⟩
    · omega
    · have := R.dom b l hb; omega
  · rcases PM.add_inv h1 with ⟨rfl, rfl⟩ | ⟨hne1, h1⟩
    · rcases PM.add_inv h2 with ⟨rfl, rfl⟩ | ⟨hne2, h2⟩
      · exact (hne rfl).elim
      · have := R.low b2 l2 h2; simp at hr; omega
    · rcases PM.add_inv h2 with ⟨rfl, rfl⟩ | ⟨hne2, h2⟩
      · have := R.low b1 l1 h1; simp at hr; omega
      · rw [Hp.get_new_ne _ (Ne.symm hne2), Hp.get_new_ne _ (Ne.symm hne1)]
        exact R.sep b1 l1 b2 l2 h1 h2 hne hr
  · rw [hsize]
    rcases PM.add_inv hb with ⟨rfl, rfl⟩ | ⟨hne, hb⟩
    · simp
    · have := R.low b l hb; omega
  · rcases PM.add_inv hb with ⟨rfl, rfl⟩ | ⟨hne, hb⟩
    · exact .inr (Nat.le_refl _)
    · exact .inl hb
  · rcases PM.add_inv hb with ⟨rfl, rfl⟩ | ⟨hne, hb⟩
    · simp at hlr; omega
    · rw [Hp.get_new_ne _ (Ne.symm hne)]; exact hu b l hb hlr
theorem new_sound (R : Rel P μ h w) (o : Obj) (ob : Ob) (cap : Nat)
    (hob : ObR P (μ.add h.next ⟨w.heap.size, 0, cap⟩) (w.alloc o) ⟨w.heap.size, 0, cap⟩ ob) :
    Rel P (μ.add h.next ⟨w.heap.size, 0, cap⟩) (h.new ob) (w.alloc o) ∧ Ext μ h w (μ.add h.next ⟨w.heap.size, 0, cap⟩) (h.new ob) (w.alloc o) :=
  new_any R ob cap (Array.size_push _) (fun r hr => alloc_old w o hr) rfl rfl rfl hob
theorem CellR.of_list {l : List V} {c : List Value} (h : VRs μ l c) : CellR μ l c.toArray 0 := fun i v hv => by
  obtain ⟨r, h1, h2⟩ := h.get hv
  exact ⟨r, by simpa using h1, h2⟩
theorem dead_sound (R : Rel P μ h w) (b : Nat) : Rel P μ (h.put b .dead) w ∧ Ext μ h w μ (h.put b .dead) w := by
  refine ⟨⟨fun b2 l2 h2 => ?_, R.dom, fun b1 l1 b2 l2 h1 h2 hne hr => ?_, R.glob, R.low⟩, .refl _, Nat.le_refl _, fun _ _ e => .inl e, rfl, rfl, rfl, Nat.le_refl _, fun ro r hr hu => ⟨rfl, fun b2 l2 h2 h3 => ?_⟩⟩
  · by_cases hb : b2 = b
    · subst hb; exact ⟨_, Hp.get_put_same _ _ _, trivial⟩
    · rw [Hp.get_put_ne _ (Ne.symm hb)]; exact R.ob b2 l2 h2
  · by_cases hb1 : b1 = b
    · subst hb1; exact .inl (Hp.get_put_same _ _ _)
    · by_cases hb2 : b2 = b
      · subst hb2; exact .inr (.inl (Hp.get_put_same _ _ _))
      · rw [Hp.get_put_ne _ (Ne.symm hb1), Hp.get_put_ne _ (Ne.symm hb2)]; exact R.sep b1 l1 b2 l2 h1 h2 hne hr
  · by_cases hb : b2 = b
    · subst hb; exact .inl (Hp.get_put_same _ _ _)
    · rw [Hp.get_put_ne _ (Ne.symm hb)]; exact hu b2 l2 h2 h3
end Go.Vm
/- What reads memory and turns nothing. -/
namespace Go.Vm
open Go.RowKit

variable {P : Program} {μ : PM} {h : Hp} {w : World} {F : Frm} {a : Act}

/-! ### Keys -/
theorem eqD_now {d : TypeDesc} {x y : V} {x' y' : Value} {b : Bool} (h : eqD d x y = some b) (hx : VR μ x x') (hy : VR μ y y') : Instr.sameNow d x' y' = some b := by
  unfold eqD at h
  split at h
  · cases hx; cases hy; simpa [Instr.sameNow] using h
  · cases hx; cases hy; simpa [Instr.sameNow] using h
  · cases hx; cases hy
    simp only [Option.some.injEq] at h
    subst h
    simp only [Instr.sameNow, mk_beq]
  · cases h
theorem checkKey_fields (em : Bool) (n : Nat) : ∀ (fs : List Field) (i : Nat) (l m : List V) (xs ys : List Value) (b : Bool) (A : Array Value), eqFs P fs i l m = some b → VRs μ l xs → (∀ j v, xs[j]? = some v → A[i + j]? = some v) →
    Yields P (forIn fs PUnit.unit fun f _ => (do
      if f.name ≠ "_" then Instr.checkKey em (n + 1) f.type (← part f.type A f.offset)
      Pure.pure (ForInStep.yield PUnit.unit) : Sem (ForInStep PUnit))) PUnit.unit
  | [], i, l, m, xs, ys, b, A, _, _, _ => by simp only [List.forIn_nil]; exact .pure _
  | f :: fs, i, [], m, xs, ys, b, A, he, _, _ => by simp [eqFs] at he
  | f :: fs, i, x :: l, [], xs, ys, b, A, he, _, _ => by simp [eqFs] at he
  | f :: fs, i, x :: l, y :: m, xs, ys, b, A, he, hx, hA => by
    cases hx with
    | cons h0 ht =>
      rename_i x' xs'
      simp only [eqFs] at he
      split at he
      · rename_i hcond
        simp only [Bool.and_eq_true, bne_iff_ne, ne_eq, beq_iff_eq] at hcond
        split at he
        · rename_i d hd
          split at he
          · rename_i b1 b2 e1 e2
            have hp := eqD_plain e1
            have hn : isAggT P f.type = false := by
              unfold isAggT
              rw [hd]
              cases d <;> simp_all [plainD]
            have hcell : A[f.offset]? = some x' := by rw [hcond.2]; exact hA 0 x' rfl
            have h1 : Yields P (part f.type A f.offset) x' := part_cell hd hn hcell
            have h2 : Yields P (Instr.checkKey em (n + 1) f.type x') () := by
              unfold Instr.checkKey
              refine (yields_underlying hd).bind ?_
              cases d <;> simp [plainD] at hp <;> (cases h0 <;> exact .pure _)
            simp only [List.forIn_cons]
            refine Yields.bind (r := ForInStep.yield PUnit.unit) ?_ (checkKey_fields em n fs (i + 1) l m xs' [] b2 A e2 ht (fun j v hj => by have := hA (j + 1) v (by simpa using hj); rwa [show i + 1 + j = i + (j + 1) by omega]))
            rw [if_pos hcond.1]
            exact h1.bind (h2.bind (.pure _))
          · cases he
        · cases he
      · cases he
theorem checkKey_sound {t : TypeId} {k : V} {k' : Value} (em : Bool) (n : Nat) (h : keyOk P t k = true) (hk : VR μ k k') : Yields P (Instr.checkKey em (n + 2) t k') () := by
  unfold keyOk at h
  split at h
  · rename_i ht
    unfold Instr.checkKey
    refine (yields_underlying ht).bind ?_
    cases hk <;> exact .pure _
  · rename_i ht
    unfold Instr.checkKey
    refine (yields_underlying ht).bind ?_
    cases hk <;> exact .pure _
  · rename_i ht
    unfold Instr.checkKey
    refine (yields_underlying ht).bind ?_
    cases hk <;> exact .pure _
  · rename_i fs l ht
    cases hk with
    | @agg _ l' hl =>
      simp only [Bool.and_eq_true, Option.isSome_iff_exists] at h
      obtain ⟨⟨b, hb⟩, _⟩ := h
      unfold Instr.checkKey
      refine (yields_underlying ht).bind ?_
      have := checkKey_fields (P := P) em n fs.toList 0 l l l' [] b l'.toArray hb hl (fun j v hj => by simpa using hj)
      simp only [Array.forIn_toList] at this
      exact this.bind (.pure _)
  · cases h

theorem keyEq_ask {t : TypeId} {x y : V} {x' y' : Value} {b : Bool} (h : keyEq P t x y = some b) (hx : VR μ x x') (hy : VR μ y y') : Yields P (Op.equal t x' y') b := by
  unfold keyEq at h
  unfold Op.equal
  split at h
  · cases hx; cases hy; exact eqAgg_sound 9998 h (by assumption) (by assumption)
  · cases hx; cases hy; exact eqAgg_sound 9998 h (by assumption) (by assumption)
  · rename_i ht _ _; exact (eqD_sound 9999 ht h hx hy).1
  · cases h
theorem keyEq_now {t : TypeId} {d : TypeDesc} (ht : P.underlying t = some d) (hp : plainD d = true) {x y : V} {x' y' : Value} {b : Bool} (h : keyEq P t x y = some b) (hx : VR μ x x') (hy : VR μ y y') : Instr.sameNow d x' y' = some b := by
  unfold keyEq at h
  rw [ht] at h
  cases d <;> simp [plainD] at hp <;> exact eqD_now h hx hy
/-- What is found: its place, its elder key, its value. -/
def FoundR (μ : PM) : Option (Nat × V × V) → Option (Nat × Value) → List MapEntry → Nat → Prop
  | none, none, _, _ => True
  | some (i, k, v), some (i', v'), es, n => i' = i ∧ n ≤ i ∧ VR μ v v' ∧ ∃ e, es[i - n]? = some e ∧ VR μ k e.key
  | _, _, _, _ => False
theorem findNow_sound {t : TypeId} {d : TypeDesc} (ht : P.underlying t = some d) (hp : plainD d = true) {k : V} {k' : Value} (hk : VR μ k k') : ∀ (l : List (V × V × Nat)) (m : List MapEntry) (n : Nat) (r : Option (Nat × V × V)), findK P t k l n = some r → EntR μ l m →
    ∃ r', Instr.findNow d k' m n = some r' ∧ FoundR μ r r' m n
  | [], [], n, r, h, _ => by
    simp only [findK, Option.some.injEq] at h
    subst h
    exact ⟨none, rfl, trivial⟩
  | (k2, v2, c) :: l, e :: m, n, r, h, hE => by
    obtain ⟨h1, h2, _, h4⟩ := hE
    simp only [findK] at h
    split at h
    · rename_i he
      simp only [Option.some.injEq] at h
      subst h
      refine ⟨some (n, e.val), by simp only [Instr.findNow, keyEq_now ht hp he hk h1], rfl, Nat.le_refl _, h2, e, by simp, h1⟩
    · rename_i he
      obtain ⟨r', g1, g2⟩ := findNow_sound ht hp hk l m (n + 1) r h h4
      refine ⟨r', by simp only [Instr.findNow, keyEq_now ht hp he hk h1]; exact g1, ?_⟩
      cases r with
      | none => cases r' with
        | none => trivial
        | some y => exact g2
      | some x => cases r' with
        | none => exact g2
        | some y =>
          obtain ⟨q1, q2, q3, e2, q4, q5⟩ := g2
          exact ⟨q1, by omega, q3, e2, by rw [show x.1 - n = x.1 - (n + 1) + 1 by omega]; exact q4, q5⟩
    · cases h
  | [], _ :: _, _, _, _, hE => hE.elim
  | (_, _, _) :: _, [], _, _, _, hE => hE.elim
theorem findAsking_sound {t : TypeId} {k : V} {k' : Value} (hk : VR μ k k') : ∀ (l : List (V × V × Nat)) (m : List MapEntry) (n : Nat) (r : Option (Nat × V × V)), findK P t k l n = some r → EntR μ l m →
    ∃ r', Yields P (Instr.findAsking t k' m n) r' ∧ FoundR μ r r' m n
  | [], [], n, r, h, _ => by
    simp only [findK, Option.some.injEq] at h
    subst h
    exact ⟨none, .pure _, trivial⟩
  | (k2, v2, c) :: l, e :: m, n, r, h, hE => by
    obtain ⟨h1, h2, _, h4⟩ := hE
    simp only [findK] at h
    split at h
    · rename_i he
      simp only [Option.some.injEq] at h
      subst h
      refine ⟨some (n, e.val), ?_, rfl, Nat.le_refl _, h2, e, by simp, h1⟩
      unfold Instr.findAsking
      exact (keyEq_ask he hk h1).bind (.pure _)
    · rename_i he
      obtain ⟨r', g1, g2⟩ := findAsking_sound hk l m (n + 1) r h h4
      refine ⟨r', ?_, ?_⟩
      · unfold Instr.findAsking
        exact (keyEq_ask he hk h1).bind g1
      · cases r with
        | none => cases r' with
          | none => trivial
          | some y => exact g2
        | some x => cases r' with
          | none => exact g2
          | some y =>
            obtain ⟨q1, q2, q3, e2, q4, q5⟩ := g2
            exact ⟨q1, by omega, q3, e2, by rw [show x.1 - n = x.1 - (n + 1) + 1 by omega]; exact q4, q5⟩
    · cases h
  | [], _ :: _, _, _, _, hE => hE.elim
  | (_, _, _) :: _, [], _, _, _, hE => hE.elim
theorem findKey_sound {t : TypeId} {k : V} {k' : Value} (hok : keyOk P t k = true) (hk : VR μ k k') {l : List (V × V × Nat)} {m : List MapEntry} {r : Option (Nat × V × V)} (h : findK P t k l 0 = some r) (hE : EntR μ l m) :
    ∃ r', Yields P (Instr.findKey t k' m) r' ∧ FoundR μ r r' m 0 := by
  have plain : ∀ d, P.underlying t = some d → plainD d = true → ∃ r', Yields P (Instr.findKey t k' m) r' ∧ FoundR μ r r' m 0 := fun d ht hp => by
    obtain ⟨r', g1, g2⟩ := findNow_sound ht hp hk l m 0 r h hE
    refine ⟨r', ?_, g2⟩
    unfold Instr.findKey
    refine (yields_underlying ht).bind ?_
    rw [g1]
    exact .pure _
  unfold keyOk at hok
  split at hok
  · rename_i ht; exact plain _ ht rfl
  · rename_i ht; exact plain _ ht rfl
  · rename_i ht; exact plain _ ht rfl
  · rename_i fs q ht
    cases m with
    | nil =>
      cases l with
      | nil =>
        simp only [findK, Option.some.injEq] at h
        subst h
        refine ⟨none, ?_, trivial⟩
        unfold Instr.findKey
        exact (yields_underlying ht).bind (.pure _)
      | cons x l => exact hE.elim
    | cons e m =>
      obtain ⟨r', g1, g2⟩ := findAsking_sound hk l (e :: m) 0 r h hE
      refine ⟨r', ?_, g2⟩
      unfold Instr.findKey
      refine (yields_underlying ht).bind ?_
      simp only [Instr.findNow, Instr.sameNow]
      exact g1
  · cases hok

theorem lookup_sound (R : Rel P μ h w) {t : TypeId} {m k v : V} {m' k' : Value} {ok : Bool} {h' : Hp} (hm : VR μ m m') (hk : VR μ k k') (hl : lookupV P h t m k ok = .val v h') :
    ∃ r, VR μ v r ∧ (Instr.lookup t m' k' ok).run P w = .ok r w := by
  have pair : ∀ {z : V} {z' : Value} (b : Bool), VR μ z z' → VR μ (if ok then .tuple [z, .bool b] else z) (if ok then .tuple #[z', .bool b] else z') := fun b hz => by
    cases ok
    · exact hz
    · exact .tuple (.cons hz (.cons (.bool b) .nil))
  unfold lookupV at hl
  split at hl
  · rename_i kt et ht
    split at hl
    · cases hl
    · rename_i hok
      simp only [Bool.not_eq_true, Bool.not_eq_false'] at hok
      split at hl
      · unfold orBad at hl
        split at hl
        · rename_i z hz
          obtain ⟨z', hz1, hz2⟩ := zero_sound (μ := μ) hz
          injection hl with h1 h2
          subst h1
          cases hm
          refine ⟨_, pair false hz1, ?_⟩
          have hfk : Yields P (Instr.findKey kt k' []) none := by
            obtain ⟨r', g1, g2⟩ := findKey_sound hok hk (l := []) (m := []) (r := none) rfl trivial
            cases r' with
            | none => exact g1
            | some y => exact g2.elim
          simp [Instr.lookup, run_underlying ht, checkKey_sound true 9998 hok hk w, hfk w, hz2 w, Result.andThen]
        · cases hl
      · rename_i r
        split at hl
        · rename_i es c hg
          cases hm with
          | map hb =>
            rename_i l
            obtain ⟨o, ho, hR⟩ := R.ob r l hb
            rw [hg] at ho
            cases ho
            obtain ⟨A, hA, hE⟩ := hR
            have hit : ∀ {i : Nat} {y : Value}, Yields P (Instr.findKey kt k' A.toList) (some (i, y)) → (Instr.lookup t (.map (some l.r)) k' ok).run P w = .ok (if ok then .tuple #[y, .bool true] else y) w := fun hf => by
              simp [Instr.lookup, run_underlying ht, MapKept.run_getObj_map hA, checkKey_sound _ 9998 hok hk w, hf w, Result.andThen]
            have miss : ∀ {z : Value}, Yields P (Instr.findKey kt k' A.toList) none → Yields P (zeroValue et) z → (Instr.lookup t (.map (some l.r)) k' ok).run P w = .ok (if ok then .tuple #[z, .bool false] else z) w := fun hf hz => by
              simp [Instr.lookup, run_underlying ht, MapKept.run_getObj_map hA, checkKey_sound _ 9998 hok hk w, hf w, hz w, Result.andThen]
            split at hl
            · rename_i i kk vv hf
              injection hl with h1 h2
              subst h1
              obtain ⟨r', g1, g2⟩ := findKey_sound hok hk hf hE
              cases r' with
              | none => exact g2.elim
              | some p =>
                exact ⟨_, pair true g2.2.2.1, hit g1⟩
            · rename_i hf
              unfold orBad at hl
              split at hl
              · rename_i z hz
                obtain ⟨z', hz1, hz2⟩ := zero_sound (μ := μ) hz
                injection hl with h1 h2
                subst h1
                obtain ⟨r', g1, g2⟩ := findKey_sound hok hk hf hE
                cases r' with
                | some p => exact g2.elim
                | none => exact ⟨_, pair false hz1, miss g1 hz2⟩
              · cases hl
            · cases hl
        · cases hl
      · cases hl
  · cases hl

/-! ### Pointers to two blocks -/
theorem addr_beq' (r x y : Nat) : ((⟨r, x, none⟩ : Addr) == ⟨r, y, none⟩) = (x == y) := by
  have := addr_beq r 0 x y
  simpa using this
theorem run_sameAddr_apart {x y : Addr} {cx cy : Array Value} {tx ty : TypeId} {fx fy : Nat × Nat} (hne : x.block ≠ y.block) (hx : w.heap[x.block]? = some (.cells cx tx fx)) (hy : w.heap[y.block]? = some (.cells cy ty fy)) (gx : fx.2 ≤ fx.1) (gy : fy.2 ≤ fy.1) :
    (sameAddr x y).run P w = .ok false w := by
  have f1 : ∀ o, (decide (fx.1 ≤ o) && decide (o < fx.2)) = false := fun o => by simp; omega
  have f2 : ∀ o, (decide (fy.1 ≤ o) && decide (o < fy.2)) = false := fun o => by simp; omega
  simp [sameAddr, hne, World.frozen?, hx, hy, noView, viewAt, World.shape?, mayBeOne, stringish, f1, f2]
theorem famFree_sound (R : Rel P μ h w) {b o : Nat} {l : Loc} (hb : μ b = some l) (hf : famFree h b o = true) : ∃ x c e fz, h.get b = some (.cells x) ∧ o < x.l.length ∧ w.heap[l.r]? = some (.cells c e fz) ∧ fz.2 ≤ fz.1 := by
  unfold famFree at hf
  obtain ⟨ob, ho, hR⟩ := R.ob b l hb
  rw [ho] at hf
  cases ob <;> simp at hf
  rename_i x
  obtain ⟨c, e, fz, h1, _, h3, _, h4, _, h5⟩ := hR
  obtain ⟨⟨hk, hz⟩, hlt⟩ := hf
  refine ⟨x, c, e, fz, ho, hlt, h1, ?_⟩
  cases hrw : x.rw with
  | false => exact h5 hrw hz
  | true =>
    rw [hrw] at hk
    simp only [Bool.true_eq_false, or_false] at hk
    refine Nat.le_of_not_lt fun hlt => ?_
    have := h3 hrw fz.1 (Nat.le_refl _) hlt (.inl hk) (by have := (h4 hk hrw).1; omega)
    omega
/-- Two pointers into two virtual blocks differ. -/
theorem ptr_apart (R : Rel P μ h w) {b1 b2 o1 o2 : Nat} {l1 l2 : Loc} (hb1 : μ b1 = some l1) (hb2 : μ b2 = some l2) (hne : b1 ≠ b2) (hf1 : famFree h b1 o1 = true) (hf2 : famFree h b2 o2 = true) :
    (sameAddr ⟨l1.r, l1.off + o1, none⟩ ⟨l2.r, l2.off + o2, none⟩).run P w = .ok false w := by
  obtain ⟨x1, c1, e1, f1, g1, g2, g3, g4⟩ := famFree_sound R hb1 hf1
  obtain ⟨x2, c2, e2, f2, k1, k2, k3, k4⟩ := famFree_sound R hb2 hf2
  by_cases hr : l1.r = l2.r
  · rcases R.sep b1 l1 b2 l2 hb1 hb2 hne hr with hd | hd | ⟨y1, y2, m1, m2, _, _, m3⟩
    · rw [g1] at hd; cases hd
    · rw [k1] at hd; cases hd
    · rw [g1] at m1; cases m1
      rw [k1] at m2; cases m2
      have fz : ∀ {b o : Nat} {x : Blk}, h.get b = some (.cells x) → famFree h b o = true → x.frz.1 = x.frz.2 := fun {b o x} hg hf => by
        unfold famFree at hf
        rw [hg] at hf
        simp at hf
        exact hf.1.2
      have m3 := (m3.resolve_left fun hn => hn (fz g1 hf1)).resolve_left fun hn => hn (fz k1 hf2)
      have := m3 o1 o2 g2 k2
      rw [yields_samePtr (P := P) (x := ⟨l1.r, l1.off + o1, none⟩) (y := ⟨l2.r, l2.off + o2, none⟩) hr w]
      have : ((⟨l1.r, l1.off + o1, none⟩ : Addr) == ⟨l2.r, l2.off + o2, none⟩) = false := by
        rw [← hr]
        simp only [addr_beq', beq_eq_false_iff_ne]
        exact this
      rw [this]
  · exact run_sameAddr_apart (x := ⟨l1.r, l1.off + o1, none⟩) (y := ⟨l2.r, l2.off + o2, none⟩) hr g3 k3 g4 k4
theorem eqR_sound (R : Rel P μ h w) {t : TypeId} {x y : V} {x' y' : Value} {b : Bool} (hx : VR μ x x') (hy : VR μ y y') (he : eqR P h t x y = some b) (o1 o2 : Operand) (op : BinOp) (hop : op = .eql ∨ op = .neq) :
    (do eqGuard op t o1 o2 x' y'; binOp op t x' y' : Sem Value).run P w = .ok (.bool (if op = .eql then b else !b)) w := by
  have gen : (Op.equal t x' y').run P w = .ok b w → (∀ s1 : Sem Value, binOp .eql t x' y' = s1 → s1 = (do Pure.pure (.bool (← Op.equal t x' y')))) → (∀ s1 : Sem Value, binOp .neq t x' y' = s1 → s1 = (do Pure.pure (.bool (!(← Op.equal t x' y'))))) →
      Yields P (eqGuard op t o1 o2 x' y') () → (do eqGuard op t o1 o2 x' y'; binOp op t x' y' : Sem Value).run P w = .ok (.bool (if op = .eql then b else !b)) w := fun h1 h2 h3 h4 => by
    rw [Sem.run_bind, h4 w, Result.andThen_ok]
    rcases hop with rfl | rfl
    · rw [h2 _ rfl, Sem.run_bind, h1]; rfl
    · rw [h3 _ rfl, Sem.run_bind, h1]; rfl
  unfold eqR at he
  split at he
  · rename_i e b1 o1' b2 o2' ht
    split at he
    · rename_i hc
      simp only [Bool.and_eq_true, bne_iff_ne, ne_eq, decide_eq_true_eq] at hc
      obtain ⟨⟨⟨hne, hsz⟩, hf1⟩, hf2⟩ := hc
      simp only [Option.some.injEq] at he
      subst he
      cases hx with
      | @ptr _ _ l1 hb1 =>
        cases hy with
        | @ptr _ _ l2 hb2 =>
          have hap := ptr_apart R hb1 hb2 hne hf1 hf2
          obtain ⟨j, hj⟩ := info_of_size hsz
          have hs' : j.size ≠ 0 := by simpa [sizeT, Program.cellsOf, hj] using hsz
          refine gen ?_ (fun _ h => h ▸ rfl) (fun _ h => h ▸ rfl) ?_
          · have key : ∀ d, (Op.equalIn (d + 1) t (.pointer (some ⟨l1.r, l1.off + o1', none⟩)) (.pointer (some ⟨l2.r, l2.off + o2', none⟩))).run P w = .ok false w := fun d => by
              simp [Op.equalIn, run_underlying ht, sizeOf, typeInfo, hj, hs', hap]
            exact key 9999
          · intro w
            rcases hop with rfl | rfl <;> rfl
    · cases he
  · rename_i ms tx b1 o1' ty b2 o2' ht
    split at he
    · rename_i e htx
      split at he
      · rename_i hc
        simp only [Bool.and_eq_true, bne_iff_ne, ne_eq, decide_eq_true_eq, beq_iff_eq] at hc
        obtain ⟨⟨⟨⟨⟨rfl, hcomp⟩, hne⟩, hsz⟩, hf1⟩, hf2⟩ := hc
        simp only [Option.some.injEq] at he
        subst he
        cases hx with
        | iface hx =>
          cases hy with
          | iface hy =>
            cases hx with
            | @ptr _ _ l1 hb1 =>
              cases hy with
              | @ptr _ _ l2 hb2 =>
                have hap := ptr_apart R hb1 hb2 hne hf1 hf2
                obtain ⟨j, hj⟩ := info_of_size hsz
                have hs' : j.size ≠ 0 := by simpa [sizeT, Program.cellsOf, hj] using hsz
                obtain ⟨i, hi⟩ := info_of_comparable hcomp
                have hc' := iface_comparable hi hcomp
                refine gen ?_ (fun _ h => h ▸ rfl) (fun _ h => h ▸ rfl) ?_
                · have key : ∀ d, (Op.equalIn (d + 2) t (.iface tx (.pointer (some ⟨l1.r, l1.off + o1', none⟩))) (.iface tx (.pointer (some ⟨l2.r, l2.off + o2', none⟩)))).run P w = .ok false w := fun d => by
                    simp [Op.equalIn, run_underlying ht, run_underlying htx, sizeOf, typeInfo, hi, hc', hj, hs', hap]
                  exact key 9998
                · intro w
                  rcases hop with rfl | rfl <;> rfl
      · cases he
    · cases he
  · cases he

/-! ### Loads -/
theorem loadCells_sound (R : Rel P μ h w) {b o n : Nat} {vs : List V} {l : Loc} (hb : μ b = some l) (hl : loadL h b o n = some vs) : ∃ rs, VRs μ vs rs ∧ rs.length = n ∧ (loadCells ⟨l.r, l.off + o, none⟩ n).run P w = .ok rs.toArray w := by
  obtain ⟨rs, h1, h2, h3⟩ := loadL_sound R hb hl
  refine ⟨rs, h1, h2, ?_⟩
  subst h2
  exact run_loadCells_list (P := P) w _ rs (fun j v hj => by rw [add_addr, show l.off + (o + j) = l.off + (o + j) from rfl]; exact h3 j v hj)
theorem loadVar_sound (R : Rel P μ h w) {t : TypeId} (ht : ∃ d, P.underlying t = some d) {b o : Nat} {l : Loc} {v : V} (hb : μ b = some l) (hl : (if isAggT P t then (loadL h b o (sizeT P t)).map .agg else load1 h b o) = some v) :
    ∃ r, VR μ v r ∧ (loadVar t ⟨l.r, l.off + o, none⟩).run P w = .ok r w := by
  obtain ⟨d, hd⟩ := ht
  obtain ⟨i, hi⟩ := info_of_underlying hd
  unfold loadVar
  split at hl
  · rename_i hagg
    simp only [Option.map_eq_some_iff] at hl
    obtain ⟨vs, h1, rfl⟩ := hl
    obtain ⟨rs, h2, h3, h4⟩ := loadCells_sound R hb h1
    refine ⟨.agg rs.toArray, .agg h2, ?_⟩
    rw [Sem.run_bind, yields_isAgg hd w, hagg]
    simp only [Result.andThen_ok, if_true, Sem.run_bind]
    rw [yields_sizeOf hi w]
    simp only [Result.andThen_ok]
    rw [show P.cellsOf t = sizeT P t from rfl, h4]
    rfl
  · rename_i hagg
    obtain ⟨r, h1, h2⟩ := load1_sound R hb hl
    refine ⟨r, h2, ?_⟩
    rw [Sem.run_bind, yields_isAgg hd w]
    simp only [Bool.not_eq_true] at hagg
    rw [hagg]
    simp only [Result.andThen_ok, Bool.false_eq_true, if_false]
    rw [run_load, h1]
theorem capGe_sound (R : Rel P μ h w) {A : Option (Nat × Nat)} {len r : Nat} {c : Cap} {e : TypeId} {A' : Option Addr} {len' cap : Nat} (hx : VR μ (.slice A len c) (.slice A' len' cap)) (hr : r ≤ capGe P h A e c) (h0 : r ≠ 0) : r ≤ cap := by
  unfold capGe at hr
  cases hx with
  | sliceN hle => exact hr
  | slice hb hc hle ha =>
    rename_i b o l a
    cases c with
    | ex n => simp only [Cap.ok] at hc; subst hc; exact hr
    | tl k =>
      simp only [Cap.ok] at hc
      obtain ⟨ob, ho, hR⟩ := R.ob b l hb
      simp only [ho] at hr
      cases ob <;> simp only [Nat.le_zero_eq] at hr <;> try omega
      rename_i x
      split at hr
      · rename_i hcond
        obtain ⟨hs, hex, hrw, rfl, rfl⟩ := hcond
        obtain ⟨_, _, _, _, _, _, _, _, h7, _⟩ := hR
        obtain ⟨_, _, h8, _⟩ := h7 hex hrw
        have h9 : r * sizeT P x.elem ≤ x.l.length - k * sizeT P x.elem := Nat.le_trans (Nat.mul_le_mul_right _ hr) (Nat.div_mul_le_self _ _)
        have h10 : r * sizeT P x.elem ≤ (l.cap - k) * sizeT P x.elem := by
          rw [Nat.sub_mul]
          have h8' : x.l.length ≤ l.cap * sizeT P x.elem := h8
          omega
        rw [hc.2]
        exact Nat.le_of_mul_le_mul_right h10 (Nat.pos_of_ne_zero hs)
      · omega
theorem sliceRead_sound (R : Rel P μ h w) {t : TypeId} (hw : wfT P t = true) {X v : V} {x' : Value} {lo hi mx : Option Operand} (hs : sliceRead P F h t X lo hi mx = some v) (hx : VR μ X x')
    (h1 : ∀ y, lo = some y → VR μ (opr F y) (a.eval y)) (h2 : ∀ y, hi = some y → VR μ (opr F y) (a.eval y)) :
    ∃ r, VR μ v r ∧ Yields P (Instr.sliceAt t x' (lo.map a.eval) (hi.map a.eval) (mx.map a.eval)) r := by
  unfold sliceRead at hs
  split at hs
  · rename_i l0 r hlo hhi
    have b1 := optBound_sound hlo h1
    have b2 := optBound_sound hhi h2
    dsimp only at hs
    split at hs
    · rename_i e A len c ht
      split at hs
      · rename_i hc
        simp only [Bool.and_eq_true, decide_eq_true_eq] at hc
        obtain ⟨hlr, hrc⟩ := hc
        simp only [Option.some.injEq] at hs
        subst hs
        have hrr : r ≠ 0 → ∀ {len' cap : Nat} {A' : Option Addr}, VR μ (.slice A len c) (.slice A' len' cap) → r ≤ cap := fun h0 _ _ _ hv => capGe_sound R hv hrc h0
        cases hx with
        | sliceN hle =>
          have hr' : r ≤ _ := if h0 : r = 0 then by rw [h0]; exact Nat.zero_le _ else hrr h0 (.sliceN hle)
          refine ⟨_, ?_, slice_run hw ht b1 b2 .none (Nat.le_refl _) hr' hlr (by simp)⟩
          simp only [Option.map_none, Option.getD_none, Option.getD_some]
          split <;> exact .sliceN (by omega)
        | slice hb hc hle ha =>
          have hr' : r ≤ _ := if h0 : r = 0 then by rw [h0]; exact Nat.zero_le _ else hrr h0 (.slice hb hc hle ha)
          refine ⟨_, ?_, slice_run hw ht b1 b2 .none (Nat.le_refl _) hr' hlr (by simp)⟩
          simp only [Option.map_some, Option.getD_none, Option.getD_some]
          rw [← apply_ite some]
          refine slice_addr hb hc hle ha hlr hr' (Nat.le_refl _) _ ?_
          cases c with
          | ex m => simp only [Cap.ok] at hc ⊢; omega
          | tl k => simp only [Cap.ok] at hc ⊢; omega
      · cases hs
    · cases hs
  · cases hs

theorem bytesOf_sound : ∀ {vs : List V} {rs : List Value} {s : List UInt8}, bytesOf vs = some s → VRs μ vs rs → ∃ ns : List Int, rs = ns.map (Value.int .u8) ∧ ns.map (fun n => UInt8.ofNat n.toNat) = s
  | [], rs, s, h, hv => by
    cases hv
    simp only [bytesOf, Option.some.injEq] at h
    exact ⟨[], rfl, by simpa using h⟩
  | .int .u8 n :: l, rs, s, h, hv => by
    cases hv with
    | cons h0 ht =>
      cases h0
      simp only [bytesOf, Option.map_eq_some_iff] at h
      obtain ⟨s', h1, rfl⟩ := h
      obtain ⟨ns, rfl, h2⟩ := bytesOf_sound h1 ht
      exact ⟨n :: ns, rfl, by simp [h2]⟩
  | .int .i8 _ :: _, _, _, h, _ | .int .i16 _ :: _, _, _, h, _ | .int .i32 _ :: _, _, _, h, _ | .int .i64 _ :: _, _, _, h, _ | .int .u16 _ :: _, _, _, h, _ | .int .u32 _ :: _, _, _, h, _ | .int .u64 _ :: _, _, _, h, _ => by simp [bytesOf] at h
  | .bool _ :: _, _, _, h, _ | .str _ :: _, _, _, h, _ | .ptr _ :: _, _, _, h, _ | .slice _ _ _ :: _, _, _, h, _ | .map _ :: _, _, _, h, _ | .func _ _ _ :: _, _, _, h, _ | .yield _ :: _, _, _, h, _ | .nilFunc :: _, _, _, h, _ | .iface _ _ :: _, _, _, h, _
  | .nilIface :: _, _, _, h, _ | .agg _ :: _, _, _, h, _ | .tuple _ :: _, _, _, h, _ => by simp [bytesOf] at h
theorem push_fold (ns : List Int) : ∀ s : ByteArray, ns.foldl (fun r n => r.push (UInt8.ofNat n.toNat)) s = ⟨(s.data.toList ++ ns.map fun n => UInt8.ofNat n.toNat).toArray⟩ := by
  induction ns with
  | nil => intro s; simp
  | cons n ns ih =>
    intro s
    rw [List.foldl_cons, ih]
    simp [ByteArray.push]
theorem loadL_zero_addr (R : Rel P μ h w) {b o n : Nat} {vs : List V} {l : Loc} (hb : μ b = some l) (hl : loadL h b o n = some vs) {A : Addr} (hA : n ≠ 0 → A = ⟨l.r, l.off + o, none⟩) :
    ∃ rs, VRs μ vs rs ∧ rs.length = n ∧ (loadCells A n).run P w = .ok rs.toArray w := by
  obtain ⟨rs, h1, h2, h3⟩ := loadCells_sound (P := P) R hb hl
  by_cases h0 : n = 0
  · subst h0
    exact ⟨rs, h1, h2, by rw [List.eq_nil_of_length_eq_zero h2]; rfl⟩
  · rw [hA h0]; exact ⟨rs, h1, h2, h3⟩
theorem read_sound (R : Rel P μ h w) {o : Oper} {v : V} (ok : OpOk P μ F a o) (hr : readV P F h o = some v) : ∃ r, VR μ v r ∧ (execOp a.eval o).run P w = .ok (.value r) w := by
  obtain ⟨opd, typ⟩ := ok
  unfold OpR at opd
  unfold opTypes at typ
  unfold readV at hr
  have val : ∀ {s : Sem Value}, (∃ r, VR μ v r ∧ s.run P w = .ok r w) → ∃ r, VR μ v r ∧ (do Pure.pure (.value (← s)) : Sem Next).run P w = .ok (.value r) w := by
    rintro s ⟨r, h1, h2⟩
    exact ⟨r, h1, by rw [Sem.run_bind, h2]; rfl⟩
  unfold execOp
  cases ho : o.op <;> simp only [ho] at hr typ opd ⊢ <;> try (exfalso; cases hr; done)
  case load t x =>
    split at hr
    · rename_i b i hx
      have hv := opd x (by simp [Op.operands])
      rw [hx] at hv
      cases hx' : a.eval x <;> rw [hx'] at hv <;> cases hv
      rename_i l hb
      refine val ?_
      obtain ⟨r, h1, h2⟩ := loadVar_sound R (wf_und (typ t (by simp))) hb hr
      exact ⟨r, h1, h2⟩
    · cases hr
  case lookup t m k okk =>
    split at hr
    · rename_i v' h' hl
      simp only [Option.some.injEq] at hr
      subst hr
      exact val (lookup_sound R (opd m (by simp [Op.operands])) (opd k (by simp [Op.operands])) hl)
    · cases hr
  case binOp op t x y pos =>
    have hx := opd x (by simp [Op.operands])
    have hy := opd y (by simp [Op.operands])
    refine val ?_
    split at hr
    · simp only [Option.map_eq_some_iff] at hr
      obtain ⟨b, h1, rfl⟩ := hr
      exact ⟨_, .bool b, eqR_sound R hx hy h1 x y .eql (.inl rfl)⟩
    · simp only [Option.map_eq_some_iff] at hr
      obtain ⟨b, h1, rfl⟩ := hr
      exact ⟨_, .bool (!b), eqR_sound R hx hy h1 x y .neq (.inr rfl)⟩
    · cases hr
  case slice t x lo hi mx =>
    refine val ?_
    obtain ⟨r, h1, h2⟩ := sliceRead_sound (a := a) R (typ t (by simp)) hr (opd x (by simp [Op.operands])) (fun y hy => opd y (by simp [Op.operands, hy])) (fun y hy => opd y (by simp [Op.operands, hy]))
    exact ⟨r, h1, h2 w⟩
  case convert s d x =>
    refine val ?_
    split at hr
    · rename_i e A len c hs hd hx
      have hv := opd x (by simp [Op.operands])
      rw [hx] at hv
      split at hr
      · rename_i he
        simp only [Option.map_eq_some_iff, Option.bind_eq_some_iff] at hr
        obtain ⟨q, ⟨vs, h1, h2⟩, rfl⟩ := hr
        generalize a.eval x = X at hv ⊢
        cases hv with
        | @slice _ _ _ cap _ l A' hb hc hl ha =>
        obtain ⟨rs, g1, g2, g3⟩ := loadL_zero_addr (P := P) R hb h1 (A := A') (fun h0 => ha (by omega))
        obtain ⟨ns, rfl, rfl⟩ := bytesOf_sound h2 g1
        refine ⟨_, .str _, ?_⟩
        rw [run_convert_bytes_string w s d e _ len cap hs he hd, run_bytesToString w A' len cap ns g3, push_fold]
        rfl
      · rename_i he
        simp only [Option.some.injEq] at hr
        subst hr
        generalize a.eval x = X at hv ⊢
        cases hv
        refine ⟨_, .str _, ?_⟩
        rw [run_convert_bytes_string w s d e _ _ _ hs he hd]
        rfl
      · cases hr
    · cases hr
  case call c =>
    obtain ⟨callee, args, tys⟩ := c
    cases callee with
    | value f => exfalso; cases hr
    | invoke r m => exfalso; cases hr
    | builtin b =>
      have hargs : VRs μ (oprs F args) (args.map a.eval).toList := oprs_sound fun x hx => opd x (by simp [Op.operands, Call.operands, hx])
      have harr : (args.map a.eval) = (args.map a.eval).toList.toArray := (Array.toArray_toList).symm
      simp only at hr
      show ∃ r, VR μ v r ∧ (do let d ← resolve a.eval { callee := .builtin b, args, argTypes := tys } o.type; invoke d.target d.args : Sem Next).run P w = .ok (.value r) w
      have red : ∀ {r : Value}, (builtin b tys o.type (args.map fun | .const _ => true | _ => false) (args.map a.eval)).run P w = .ok (.value r) w →
          (do let d ← resolve a.eval { callee := .builtin b, args, argTypes := tys } o.type; invoke d.target d.args : Sem Next).run P w = .ok (.value r) w := fun h => h
      cases b <;> simp only at hr <;> try (exfalso; cases hr; done)
      case len =>
        split at hr
        · rename_i kt et r ht hX
          rw [hX] at hargs
          split at hr
          · rename_i es k hg
            simp only [Option.some.injEq] at hr
            subst hr
            generalize (args.map a.eval) = A at hargs harr red
            rw [harr] at red
            generalize A.toList = L at hargs red
            cases hargs with | cons hx hn =>
            cases hn
            cases hx with | @map _ l hb =>
            obtain ⟨ob, hob, hR⟩ := R.ob r l hb
            rw [hg] at hob
            cases hob
            obtain ⟨A2, hA, hE⟩ := hR
            have hlen : ∀ {l : List (V × V × Nat)} {m : List MapEntry}, EntR μ l m → l.length = m.length := by
              intro l
              induction l with
              | nil => intro m hE; cases m with | nil => rfl | cons _ _ => exact hE.elim
              | cons x l ih =>
                intro m hE
                cases m with
                | nil => exact hE.elim
                | cons e m => simp [ih hE.2.2.2]
            have hsz : es.length = A2.size := by rw [hlen hE, Array.length_toList]
            have hrun : (Builtin.len_ tys o.type #[.map (some l.r)]).run P w = .ok (.int .i64 es.length) w := by
              cases hts : tys[0]? with
              | none => simp [hts] at ht
              | some t =>
                simp only [hts, Option.bind_some] at ht
                simp [Builtin.len_, hts, run_underlying ht, MapKept.run_getObj_map hA, goInt, hsz]
            refine ⟨_, .int .i64 _, red ?_⟩
            show (do Pure.pure (.value (← Builtin.len_ tys o.type #[.map (some l.r)])) : Sem Next).run P w = _
            rw [Sem.run_bind, hrun]
            rfl
          · cases hr
        · cases hr
end Go.Vm
/- What makes one block. -/
namespace Go.Vm
open Go.RowKit

variable {P : Program} {μ : PM} {h : Hp} {w : World} {F : Frm} {a : Act}

/-- A block is made, whatever else there is: its object; the value. -/
def AllocR (P : Program) (μ : PM) (s : Sem Next) (ob : Ob) (f : Nat → V) : Prop :=
  ∃ (obj : Obj) (cap : Nat) (r : Nat → Value), (∀ w, s.run P w = .ok (.value (r w.heap.size)) (w.alloc obj)) ∧
    (∀ (ν : PM) (n : Nat) (g : Nat), ν n = some ⟨g, 0, cap⟩ → VR ν (f n) (r g)) ∧
    (∀ (w : World) (ν : PM), μ.le ν → ObR P ν (w.alloc obj) ⟨w.heap.size, 0, cap⟩ ob)

theorem newBlk_ob {l : List V} {c : List Value} (e : TypeId) (hc : VRs μ l c) (cap : Nat) (w : World) (ν : PM) (hle : μ.le ν) : ObR P ν (w.alloc (.cells c.toArray e)) ⟨w.heap.size, 0, cap⟩ (newBlk l e) :=
  ⟨c.toArray, e, (0, 0), alloc_last _ _, (CellR.of_list hc).mono hle, fun _ j _ h2 _ _ => by omega, fun _ => rfl, fun _ _ => ⟨rfl, by simp [hc.length]⟩, (fun h => by cases h), (fun _ _ => Nat.le_refl _)⟩

theorem reps_length (n : Nat) (z : List V) : (reps n z).length = n * z.length := by
  induction n with
  | zero => simp [reps]
  | succ n ih => simp only [reps, List.length_append, ih]; rw [Nat.add_mul]; omega
theorem reps_get (z : List V) : ∀ (n i : Nat), i < n * z.length → (reps n z)[i]? = z[i % z.length]?
  | 0, i, h => by simp at h
  | n + 1, i, h => by
    have h' : i < n * z.length + z.length := by rwa [Nat.add_mul, Nat.one_mul] at h
    simp only [reps]
    by_cases hi : i < z.length
    · rw [List.getElem?_append_left hi, Nat.mod_eq_of_lt hi]
    · rw [List.getElem?_append_right (by omega), reps_get z n _ (by omega)]
      congr 1
      exact (Nat.mod_eq_sub_mod (by omega)).symm
theorem made_sound {z : List V} {zv : Value} (hz : VRs μ z zv.cells.toList) {n s : Nat} (hs : z.length = s) (hpos : n * s ≠ 0) : VRs μ (reps n z) (madeCells zv.cells (n * s)).toList := by
  have hzl : zv.cells.size = s := by rw [← Array.length_toList, ← hz.length, hs]
  refine VRs.of_get (by rw [reps_length, hs, Array.length_toList, size_madeCells]) fun i v r hv hr => ?_
  have hi : i < n * s := by
    have := (List.getElem?_eq_some_iff.1 hr).1
    rwa [Array.length_toList, size_madeCells] at this
  have hs0 : 0 < s := Nat.pos_of_ne_zero fun h0 => by subst h0; simp at hpos
  rw [reps_get z n i (by rw [hs]; exact hi), hs] at hv
  obtain ⟨r', h1, h2⟩ := hz.get hv
  have hm : i % s < zv.cells.size := by rw [hzl]; exact Nat.mod_lt _ hs0
  simp only [madeCells, Array.getElem?_toList, Array.getElem?_map, Array.getElem?_range, if_pos hi, Option.map_some, Option.some.injEq, hzl] at hr
  rw [Array.getElem?_toList, Array.getElem?_eq_getElem hm] at h1
  rw [getElem!_pos zv.cells (i % s) hm] at hr
  rw [← hr, Option.some.inj h1]
  exact h2

theorem placesE_spec (s : Nat) : ∀ (ps : List (Nat × Operand)), (placesE s F ps).length = ps.length ∧
    ∀ (i o n : Nat) (v : V) (j : Nat) (x : Operand), (placesE s F ps)[i]? = some (o, n, v) → ps[i]? = some (j, x) → o = j * s ∧ n = s ∧ v = opr F x
  | [] => by simp [placesE]
  | (j, x) :: ps => by
    obtain ⟨h1, h2⟩ := placesE_spec s ps
    refine ⟨by simp [placesE, h1], fun i o n v j' x' ha hb => ?_⟩
    cases i with
    | zero => simp [placesE] at ha hb; obtain ⟨rfl, rfl, rfl⟩ := ha; obtain ⟨rfl, rfl⟩ := hb; exact ⟨rfl, rfl, rfl⟩
    | succ i => exact h2 i o n v j' x' (by simpa [placesE] using ha) (by simpa using hb)

theorem alloc_sound {o : Oper} {ob : Ob} {f : Nat → V} (ok : OpOk P μ F a o) (hr : allocV P F o = some (ob, f)) : AllocR P μ (execOp a.eval o) ob f := by
  obtain ⟨opd, typ⟩ := ok
  unfold OpR at opd
  unfold opTypes at typ
  unfold allocV at hr
  unfold execOp
  cases ho : o.op <;> simp only [ho] at hr typ opd ⊢ <;> try (exfalso; cases hr; done)
  case alloc t =>
    simp only [Option.map_eq_some_iff, Prod.mk.injEq] at hr
    obtain ⟨z, hz, rfl, rfl⟩ := hr
    obtain ⟨zv, h1, h2⟩ := zeroT_sound (μ := μ) hz
    refine ⟨.cells zv.cells t, 0, fun g => .pointer (some ⟨g, 0, none⟩), fun w => ?_, fun ν n g hn => .ptr (o := 0) hn, fun w ν hle => ?_⟩
    · rw [Sem.run_bind, Instr.alloc, Sem.run_bind, h2 w]
      rfl
    · have := newBlk_ob (P := P) t h1 0 w ν hle
      rwa [Array.toArray_toList] at this
  case box t x =>
    split at hr
    · simp only [Option.some.injEq, Prod.mk.injEq] at hr
      obtain ⟨rfl, rfl⟩ := hr
      have hx := (opd x (by simp [Op.operands])).cells
      refine ⟨.cells (a.eval x).cells t, 0, fun g => .pointer (some ⟨g, 0, none⟩), fun w => rfl, fun ν n g hn => .ptr (o := 0) hn, fun w ν hle => ?_⟩
      have := newBlk_ob (P := P) t hx 0 w ν hle
      rwa [Array.toArray_toList] at this
    · cases hr
  case buildSlice t n ps =>
    split at hr
    · rename_i e ht
      obtain ⟨i, hi⟩ := wf_slice (typ t (by simp)) ht
      have hsi : sizeT P e = i.size := sizeT_info hi
      split at hr
      · cases hr
      · rename_i hbig
        split at hr
        · rename_i z hz
          split at hr
          · rename_i hzl
            simp only [Option.map_eq_some_iff, Prod.mk.injEq] at hr
            obtain ⟨l, hl, rfl, rfl⟩ := hr
            have hfill : ∀ m : List Value, VRs μ (reps n z) m → ∃ m', Instr.fill (fun i => some (i * sizeT P e, sizeT P e)) m.toArray (ps.map fun (i, x) => (i, a.eval x)).toList = some m'.toArray ∧ VRs μ l m' := fun m hm => by
              obtain ⟨q1, q2⟩ := placesE_spec (F := F) (sizeT P e) ps.toList
              have := fill_sound (pl := fun i => some (i * sizeT P e, sizeT P e)) (placesE (sizeT P e) F ps.toList) (ps.map fun (i, x) => (i, a.eval x)).toList _ l m hl hm (by simp [q1]) (fun i o n v j r ha hb => by
                simp only [Array.toList_map, List.getElem?_map, Option.map_eq_some_iff] at hb
                obtain ⟨⟨j', x⟩, hx, he⟩ := hb
                simp only [Prod.mk.injEq] at he
                obtain ⟨rfl, rfl⟩ := he
                obtain ⟨rfl, rfl, rfl⟩ := q2 i o n v j' x ha hx
                refine ⟨rfl, opd x ?_⟩
                have hmem := Array.mem_toList_iff.1 (List.mem_of_getElem? hx)
                simp only [Op.operands]
                simp only [List.mem_toArray, List.mem_map, Array.mem_toList_iff, Array.mem_map]
                exact ⟨(j', x), hmem, rfl⟩)
              exact this
            by_cases h0 : n * sizeT P e = 0
            · rw [if_pos h0] at hz
              simp only [Option.some.injEq] at hz
              subst hz
              have hm : VRs μ (reps n []) [] := by
                have : reps n ([] : List V) = [] := List.eq_nil_of_length_eq_zero (by rw [reps_length]; simp)
                rw [this]; exact .nil
              obtain ⟨m', g1, g2⟩ := hfill [] hm
              refine ⟨.cells m'.toArray e, n, fun g => .slice (some ⟨g, 0, none⟩) n n, fun w => ?_, fun ν b g hb => .slice (o := 0) hb rfl (Nat.le_refl _) (fun _ => rfl), fun w ν hle => newBlk_ob e g2 n w ν hle⟩
              have hb' : ¬ n * i.size > 2 ^ 24 := by rw [← hsi]; exact hbig
              have h0' : n * i.size = 0 := by rw [← hsi]; exact h0
              rw [hsi] at g1
              simp only [Sem.run_bind, Instr.buildSlice, run_underlying ht, Result.andThen_ok, sizeOf, typeInfo, run_program, hi, Sem.run_pure, if_neg hb', h0', if_true, Array.range_zero', Array.map_empty, g1, newRow, run_newObj_alloc]
              rw [if_neg (by decide)]
              rfl
            · rw [if_neg h0] at hz
              obtain ⟨zv, h1, h2⟩ := zeroT_sound (μ := μ) hz
              have hzl' : z.length = sizeT P e := by simpa [h0] using hzl
              obtain ⟨m', g1, g2⟩ := hfill _ (made_sound h1 hzl' h0)
              rw [Array.toArray_toList, madeCells, hsi] at g1
              refine ⟨.cells m'.toArray e, n, fun g => .slice (some ⟨g, 0, none⟩) n n, fun w => ?_, fun ν b g hb => .slice (o := 0) hb rfl (Nat.le_refl _) (fun _ => rfl), fun w ν hle => newBlk_ob e g2 n w ν hle⟩
              have hb' : ¬ n * i.size > 2 ^ 24 := by rw [← hsi]; exact hbig
              have h0' : ¬ n * i.size = 0 := by rw [← hsi]; exact h0
              simp only [Sem.run_bind, Instr.buildSlice, run_underlying ht, Result.andThen_ok, sizeOf, typeInfo, run_program, hi, Sem.run_pure, if_neg hb', if_neg h0', h2 w, g1, newRow, run_newObj_alloc]
          · cases hr
        · cases hr
    · cases hr
  case makeMap t r =>
    cases r with
    | some x => exfalso; cases hr
    | none =>
      simp only at hr
      split at hr
      · simp only [Option.some.injEq, Prod.mk.injEq] at hr
        obtain ⟨rfl, rfl⟩ := hr
        exact ⟨.map #[] 0, 0, fun g => .map (some g), fun w => rfl, fun ν n g hn => .map hn, fun w ν hle => ⟨#[], alloc_last _ _, trivial⟩⟩
      · cases hr
  case makeSlice t l c =>
    split at hr
    · rename_i e l0 c0 ht hl hc
      split at hr
      · rename_i hb
        simp only [Bool.and_eq_true, decide_eq_true_eq] at hb
        obtain ⟨⟨⟨b1, b2⟩, b3⟩, b4⟩ := hb
        have hl' := opd l (by simp [Op.operands])
        have hc' := opd c (by simp [Op.operands])
        rw [hl] at hl'; rw [hc] at hc'
        have hl2 := hl'.int_inv
        have hc2 := hc'.int_inv
        obtain ⟨i, hi⟩ := wf_slice (typ t (by simp)) ht
        have hsi : sizeT P e = i.size := sizeT_info hi
        simp only [hi, Option.map_some, Option.getD_some] at b4
        rw [hl2, hc2]
        split at hr
        · rename_i z hz
          split at hr
          · rename_i hzl
            simp only [Option.some.injEq, Prod.mk.injEq] at hr
            obtain ⟨rfl, rfl⟩ := hr
            have fin : ∀ cells : List Value, VRs μ (reps c0.toNat z) cells → (∀ w, (Instr.makeSlice t (.int .i64 l0) (.int .i64 c0)).run P w = .ok (.slice (some ⟨w.heap.size, 0, none⟩) l0.toNat c0.toNat) (w.alloc (.cells cells.toArray e))) →
                AllocR P μ (do Pure.pure (.value (← Instr.makeSlice t (.int .i64 l0) (.int .i64 c0))) : Sem Next) (newBlk (reps c0.toNat z) e) (fun n => .slice (some (n, 0)) l0.toNat (.ex c0.toNat)) := fun cells hv hrun =>
              ⟨.cells cells.toArray e, c0.toNat, fun g => .slice (some ⟨g, 0, none⟩) l0.toNat c0.toNat, fun w => by rw [Sem.run_bind, hrun w]; rfl, fun ν b g hb => .slice (o := 0) hb rfl (by omega) (fun _ => rfl), fun w ν hle => newBlk_ob e hv c0.toNat w ν hle⟩
            by_cases h0 : c0.toNat * sizeT P e = 0
            · rw [if_pos h0] at hz
              simp only [Option.some.injEq] at hz
              subst hz
              have hm : VRs μ (reps c0.toNat []) [] := by
                have : reps c0.toNat ([] : List V) = [] := List.eq_nil_of_length_eq_zero (by rw [reps_length]; simp)
                rw [this]; exact .nil
              refine fin [] hm fun w => ?_
              have wl : IntKind.i64.wrap l0 = l0 := by rw [IntKind.wrap_i64]; omega
              have wc : IntKind.i64.wrap c0 = c0 := by rw [IntKind.wrap_i64]; omega
              have n1 : ¬ c0 < 0 := by omega
              have n2 : ¬ (281474976710656 < (i.bytes : Int) * c0) := by omega
              have n3 : ¬ l0 < 0 := by omega
              have n4 : ¬ c0 < l0 := by omega
              have h0' : c0.toNat * i.size = 0 := by rw [← hsi]; exact h0
              simp [Instr.makeSlice, run_underlying ht, asInt, asIntOf, typeInfo, hi, sizeOf, wl, wc, n1, n2, n3, n4, h0', newRow, Array.range_zero']
            · rw [if_neg h0] at hz
              have hzl' : z.length = sizeT P e := by simpa [h0] using hzl
              unfold zeroT at hz
              simp only [Option.bind_eq_some_iff, Option.map_eq_some_iff, hi, Option.some.injEq] at hz
              obtain ⟨zv, ⟨_, rfl, hzv⟩, q, hq, rfl⟩ := hz
              refine fin _ (made_sound (toV_sound zv hq).cells hzl' h0) fun w => ?_
              rw [run_make w t e i zv ht hi hzv .i64 .i64 l0 c0 b1 b2 (by omega) (by omega), Array.toArray_toList, hsi]
          · cases hr
        · cases hr
      · cases hr
    · cases hr
end Go.Vm
