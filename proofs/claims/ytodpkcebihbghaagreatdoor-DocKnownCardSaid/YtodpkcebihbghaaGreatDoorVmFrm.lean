/- For regions whose order is drawn: holes. -/
import Derived.Test.YtodpkcebihbghaaGreatDoorVmMain
set_option linter.unusedVariables false
set_option linter.unusedSimpArgs false
namespace Go.Vm
open Go.RowKit

variable {P : Program} {μ : PM} {h : Hp} {w : World} {F : Frm} {a : Act}

def PM.below (μ : PM) (N : Nat) : PM := fun b => if b < N then μ b else none
theorem PM.below_some {μ : PM} {N b : Nat} {l : Loc} (h : μ b = some l) (hb : b < N) : μ.below N b = some l := by unfold PM.below; rw [if_pos hb]; exact h
theorem PM.below_inv {μ : PM} {N b : Nat} {l : Loc} (h : μ.below N b = some l) : b < N ∧ μ b = some l := by
  unfold PM.below at h
  split at h
  · rename_i hb; exact ⟨hb, h⟩
  · cases h
theorem VR.restrict {N : Nat} {v : V} {r : Value} (h : VR μ v r) (hs : V.low N v = true) : VR (μ.below N) v r := by
  refine VR.rec (μ := μ) (motive_1 := fun v r _ => V.low N v = true → VR (μ.below N) v r) (motive_2 := fun l m _ => V.lows N l = true → VRs (μ.below N) l m)
    ?_ ?_ ?_ ?_ ?_ ?_ ?_ ?_ ?_ ?_ ?_ ?_ ?_ ?_ ?_ ?_ ?_ ?_ h hs
  · intro b _; exact .bool b
  · intro k n _; exact .int k n
  · intro s _; exact .str s
  · intro _; exact .ptrN
  · intro b o l h hs; exact .ptr (PM.below_some h (by simpa [V.low] using hs))
  · intro n c h _; exact .sliceN h
  · intro b o len cap c l a h hc hl ha hs; exact .slice (PM.below_some h (by simpa [V.low] using hs)) hc hl ha
  · intro _; exact .mapN
  · intro b l h hs; exact .map (PM.below_some h (by simpa [V.low] using hs))
  · intro f fs cs fs' cs' _ _ h1 h2 hs
    simp only [V.low, Bool.and_eq_true] at hs
    exact .func (h1 hs.1) (h2 hs.2)
  · intro b l h hs; exact .yield (PM.below_some h (by simpa [V.low] using hs))
  · intro _; exact .nilFunc
  · intro t v v' _ h1 hs; exact .iface (h1 (by simpa [V.low] using hs))
  · intro _; exact .nilIface
  · intro l l' _ h1 hs; exact .agg (h1 (by simpa [V.low] using hs))
  · intro l l' _ h1 hs; exact .tuple (h1 (by simpa [V.low] using hs))
  · intro _; exact .nil
  · intro v l v' l' _ _ h1 h2 hs
    simp only [V.lows, Bool.and_eq_true] at hs
    exact .cons (h1 hs.1) (h2 hs.2)

/-! ### Holes -/
theorem PM.le_addHole {μ : PM} {n : Nat} (l : Loc) (hn : μ n = none) : μ.le (μ.add n l) := fun b l' h => by
  rw [PM.add_ne _ _ (fun e => by subst e; rw [hn] at h; cases h)]; exact h
/-- The heap may be another one where the map says nothing. -/
theorem Rel.reheap (R : Rel P μ h w) {h' : Hp} (hg : ∀ b l, μ b = some l → h'.get b = h.get b) (hn : h.next ≤ h'.next) : Rel P μ h' w :=
  ⟨fun b l hb => by obtain ⟨o, h1, h2⟩ := R.ob b l hb; exact ⟨o, (hg b l hb).trans h1, h2⟩, fun b l hb => Nat.lt_of_lt_of_le (R.dom b l hb) hn,
   fun b1 l1 b2 l2 h1 h2 hne hr => by rw [hg b1 l1 h1, hg b2 l2 h2]; exact R.sep b1 l1 b2 l2 h1 h2 hne hr, R.glob, R.low⟩
/-- A hole is filled by a block that has just been made. -/
theorem hole_sound (R : Rel P μ h w) {n : Nat} {ob : Ob} {w' : World} (hn : μ n = none) (hlt : n < h.next) (hg : h.get n = some ob) (cap : Nat) (hsize : w'.heap.size = w.heap.size + 1) (hold : ∀ r, r < w.heap.size → w'.heap[r]? = w.heap[r]?)
    (hob : ObR P (μ.add n ⟨w.heap.size, 0, cap⟩) w' ⟨w.heap.size, 0, cap⟩ ob) : Rel P (μ.add n ⟨w.heap.size, 0, cap⟩) h w' := by
  have hle := PM.le_addHole ⟨w.heap.size, 0, cap⟩ hn
  refine ⟨fun b l hb => ?_, fun b l hb => ?_, fun b1 l1 b2 l2 h1 h2 hne hr => ?_, fun g hg' => hle _ _ (R.glob g hg'), fun b l hb => ?_⟩
  · rcases PM.add_inv hb with ⟨rfl, rfl⟩ | ⟨hne, hb⟩
    · exact ⟨ob, hg, hob⟩
    · obtain ⟨o2, h1, h2⟩ := R.ob b l hb
      exact ⟨o2, h1, h2.frame hle (hold _ (R.low b l hb))⟩
  · rcases PM.add_inv hb with ⟨rfl, rfl⟩ | ⟨hne, hb⟩
    · exact hlt
    · exact R.dom b l hb
  · rcases PM.add_inv h1 with ⟨rfl, rfl⟩ | ⟨hne1, h1'⟩
    · rcases PM.add_inv h2 with ⟨rfl, rfl⟩ | ⟨hne2, h2⟩
      · exact (hne rfl).elim
      · have := R.low b2 l2 h2; simp at hr; omega
    · rcases PM.add_inv h2 with ⟨rfl, rfl⟩ | ⟨hne2, h2⟩
      · have := R.low b1 l1 h1'; simp at hr; omega
      · exact R.sep b1 l1 b2 l2 h1' h2 hne hr
  · rw [hsize]
    rcases PM.add_inv hb with ⟨rfl, rfl⟩ | ⟨hne, hb⟩
    · simp
    · have := R.low b l hb; omega
/-! ### Two maps in one -/
def PM.or (μ η : PM) : PM := fun b => match μ b with | some l => some l | none => η b
theorem PM.le_or (μ η : PM) : μ.le (μ.or η) := fun b l h => by unfold PM.or; rw [h]
theorem PM.or_inv {μ η : PM} {b : Nat} {l : Loc} (h : μ.or η b = some l) : μ b = some l ∨ η b = some l := by
  unfold PM.or at h
  cases hm : μ b with
  | none => rw [hm] at h; exact .inr h
  | some l' => rw [hm] at h; exact .inl h
theorem PM.or_right {μ η : PM} {b : Nat} {l : Loc} (h0 : μ b = none) (h : η b = some l) : μ.or η b = some l := by unfold PM.or; rw [h0]; exact h
theorem VR.belowOr {μ η : PM} {N : Nat} {v : V} {r : Value} (h : VR (μ.or η) v r) (hη : ∀ b l, η b = some l → N ≤ b) (hs : V.low N v = true) : VR μ v r := by
  refine (h.restrict hs).mono fun b l hb => ?_
  obtain ⟨h1, h2⟩ := PM.below_inv hb
  rcases PM.or_inv h2 with h3 | h3
  · exact h3
  · have := hη b l h3; omega
theorem scalar_any {μ ν : PM} {v : V} {r : Value} (h : VR μ v r) (hs : scalarV v = true) : VR ν v r := by
  cases h <;> first
    | (constructor; done)
    | (constructor; assumption)
    | (exfalso; simp [scalarV] at hs; done)
theorem closed_any {μ ν : PM} {w : World} {l : Loc} {ob : Ob} (h : ObR P μ w l ob) (hc : closedOb ob = true) : ObR P ν w l ob := by
  cases ob with
  | cells x =>
    obtain ⟨c, e, fz, h1, h2, h3⟩ := h
    refine ⟨c, e, fz, h1, fun i v hv => ?_, h3⟩
    obtain ⟨r, k1, k2⟩ := h2 i v hv
    exact ⟨r, k1, scalar_any k2 (List.all_eq_true.1 hc v (List.mem_of_getElem? hv))⟩
  | map es k =>
    cases es with
    | nil => obtain ⟨a, h1, h2⟩ := h; exact ⟨a, h1, by cases hl : a.toList with | nil => trivial | cons x xs => rw [hl] at h2; exact h2.elim⟩
    | cons _ _ => cases hc
  | _ => cases hc
end Go.Vm
/- What stands before what in a region whose order is drawn. -/
namespace Go.Vm

def stepB (acc : Array Nat) (o : Oper) : Array Nat := acc.push (o.after.foldl (fun s e => if Region.binds .any e then s ||| 2 ^ e.on ||| acc.getD e.on 0 else s) 0)
theorem before_list (ops : Array Oper) : Region.before ops = ops.toList.foldl stepB #[] := by
  unfold Region.before
  rw [← Array.foldl_toList]
  rfl
theorem foldB_size : ∀ (l : List Oper) (acc : Array Nat), (l.foldl stepB acc).size = acc.size + l.length
  | [], acc => rfl
  | o :: l, acc => by
    rw [List.foldl_cons, foldB_size l, List.length_cons]
    simp [stepB]
    omega
theorem foldB_old : ∀ (l : List Oper) (acc : Array Nat) (j : Nat), j < acc.size → (l.foldl stepB acc).getD j 0 = acc.getD j 0
  | [], acc, j, h => rfl
  | o :: l, acc, j, h => by
    rw [List.foldl_cons, foldB_old l _ j (by simp [stepB]; omega)]
    simp only [stepB, Array.getD_eq_getD_getElem?]
    rw [Array.getElem?_push_lt h, Array.getElem?_eq_getElem h]
theorem bits_fold (acc : Array Nat) (i : Nat) : ∀ (l : List Edge) (s : Nat), (l.foldl (fun s e => if Region.binds .any e then s ||| 2 ^ e.on ||| acc.getD e.on 0 else s) s).testBit i = true →
    s.testBit i = true ∨ ∃ e ∈ l, Region.binds .any e = true ∧ (e.on = i ∨ (acc.getD e.on 0).testBit i = true)
  | [], s, h => .inl h
  | e :: l, s, h => by
    rw [List.foldl_cons] at h
    rcases bits_fold acc i l _ h with h1 | ⟨e', h1, h2⟩
    · split at h1
      · rename_i hb
        simp only [Nat.testBit_or, Bool.or_eq_true] at h1
        rcases h1 with (h1 | h1) | h1
        · exact .inl h1
        · refine .inr ⟨e, List.mem_cons_self, hb, .inl ?_⟩
          rw [Nat.testBit_two_pow] at h1
          simpa using h1
        · exact .inr ⟨e, List.mem_cons_self, hb, .inr h1⟩
      · exact .inl h1
    · exact .inr ⟨e', List.mem_cons_of_mem _ h1, h2⟩
/-- Who is before j is on one of j's edges, or before one that is. -/
theorem prec_edge {ops : Array Oper} {i j : Nat} {o : Oper} (hj : ops[j]? = some o) (hb : ∀ e ∈ o.after, Region.binds .any e = true → e.on < j) (h : prec (Region.before ops) i j = true) :
    ∃ e ∈ o.after, Region.binds .any e = true ∧ (e.on = i ∨ prec (Region.before ops) i e.on = true) := by
  unfold prec at h ⊢
  rw [before_list] at h ⊢
  have hlt : j < ops.toList.length := by
    have := (Array.getElem?_eq_some_iff.1 hj).1
    simpa using this
  have hsplit : ops.toList = ops.toList.take j ++ o :: ops.toList.drop (j + 1) := by
    have h1 : ops.toList[j]? = some o := by rw [Array.getElem?_toList]; exact hj
    have h2 : ops.toList[j] = o := by rw [List.getElem?_eq_getElem hlt] at h1; exact Option.some.inj h1
    rw [← h2, List.getElem_cons_drop, List.take_append_drop]
  have hsz : ((ops.toList.take j).foldl stepB #[]).size = j := by rw [foldB_size, List.length_take]; simp only [List.size_toArray, List.length_nil]; omega
  have hall : ops.toList.foldl stepB #[] = (ops.toList.drop (j + 1)).foldl stepB (stepB ((ops.toList.take j).foldl stepB #[]) o) := by
    conv => lhs; rw [hsplit]
    rw [List.foldl_append, List.foldl_cons]
  have hold : ∀ q, q < j → (ops.toList.foldl stepB #[]).getD q 0 = ((ops.toList.take j).foldl stepB #[]).getD q 0 := fun q hq => by
    rw [hall, foldB_old _ _ q (by simp [stepB, hsz]; omega)]
    simp only [stepB, Array.getD_eq_getD_getElem?]
    rw [Array.getElem?_push_lt (by rw [hsz]; exact hq), Array.getElem?_eq_getElem (by rw [hsz]; exact hq)]
  have hat : (ops.toList.foldl stepB #[]).getD j 0 = o.after.foldl (fun s e => if Region.binds .any e then s ||| 2 ^ e.on ||| ((ops.toList.take j).foldl stepB #[]).getD e.on 0 else s) 0 := by
    rw [hall, foldB_old _ _ j (by simp [stepB, hsz])]
    simp only [stepB, Array.getD_eq_getD_getElem?]
    have : j = ((ops.toList.take j).foldl stepB #[]).size := hsz.symm
    rw [Array.getElem?_push, if_pos this]
    rfl
  rw [hat, ← Array.foldl_toList] at h
  rcases bits_fold _ i o.after.toList 0 h with h1 | ⟨e, h1, h2, h3⟩
  · simp at h1
  · refine ⟨e, Array.mem_toList_iff.1 h1, h2, h3.imp id fun h3 => ?_⟩
    rw [hold e.on (hb e (Array.mem_toList_iff.1 h1) h2)]
    exact h3
/-- A set that holds with each operation all that its edges name holds all that is before it. -/
theorem prec_closed {ops : Array Oper} {S : Nat → Prop} (hb : ∀ j o, ops[j]? = some o → ∀ e ∈ o.after, Region.binds .any e = true → e.on < j) (hS : ∀ j o, ops[j]? = some o → S j → ∀ e ∈ o.after, Region.binds .any e = true → S e.on)
    (hops : ∀ j, S j → j < ops.size) : ∀ (j i : Nat), S j → prec (Region.before ops) i j = true → S i := by
  intro j
  induction j using Nat.strongRecOn with
  | _ j ih =>
    intro i hj hp
    have hlt := hops j hj
    have hjo : ops[j]? = some ops[j] := Array.getElem?_eq_getElem hlt
    obtain ⟨e, h1, h2, h3⟩ := prec_edge hjo (hb j _ hjo) hp
    have hSe := hS j _ hjo hj e h1 h2
    rcases h3 with rfl | h3
    · exact hSe
    · exact ih e.on (hb j _ hjo e h1 h2) i hSe h3
end Go.Vm
/- A frame by the set of the operations that are done. -/
namespace Go.Vm

def frS (v : Nat → V) (S : Nat → Bool) : List Oper → Nat → Frm → Frm
  | [], _, F => F
  | o :: l, i, F => frS v S l (i + 1) (if S i then setO o.dst (v i) F else F)
theorem setO_get (d : Option Tmp) (x : V) (F : Frm) (q : Tmp) : (setO d x F).get (Pos.of q) = if d = some q then some x else F.get (Pos.of q) := by
  cases d with
  | none => rfl
  | some d =>
    by_cases h : d = q
    · subst h; rw [if_pos rfl]; exact T.get_set_same _ _ _
    · rw [if_neg (by simpa using h)]; exact T.get_set_ne (fun e => h (Pos.of_inj e)) _ _
theorem frS_congr (v : Nat → V) (S S' : Nat → Bool) (q : Tmp) : ∀ (l : List Oper) (i : Nat) (F F' : Frm), (∀ k o, l[k]? = some o → o.dst = some q → S (i + k) = S' (i + k)) → F.get (Pos.of q) = F'.get (Pos.of q) →
    (frS v S l i F).get (Pos.of q) = (frS v S' l i F').get (Pos.of q)
  | [], i, F, F', _, h => h
  | o :: l, i, F, F', hk, h => by
    simp only [frS]
    refine frS_congr v S S' q l (i + 1) _ _ (fun k o' h1 h2 => by have := hk (k + 1) o' (by simpa using h1) h2; rwa [show i + (k + 1) = i + 1 + k by omega] at this) ?_
    by_cases hd : o.dst = some q
    · have := hk 0 o rfl hd
      rw [Nat.add_zero] at this
      rw [← this]
      split
      · rw [setO_get, setO_get, if_pos hd, if_pos hd]
      · exact h
    · have e : ∀ (b : Bool) (G : Frm), (if b then setO o.dst (v i) G else G).get (Pos.of q) = G.get (Pos.of q) := fun b G => by
        split
        · rw [setO_get, if_neg hd]
        · rfl
      rw [e, e]; exact h
/-- The last writer tells. -/
theorem frS_last (v : Nat → V) (S : Nat → Bool) (q : Tmp) : ∀ (l : List Oper) (i t : Nat) (F : Frm) (o : Oper), l[t]? = some o → o.dst = some q → S (i + t) = true → (∀ k o', t < k → l[k]? = some o' → o'.dst = some q → S (i + k) = false) →
    (frS v S l i F).get (Pos.of q) = some (v (i + t))
  | [], i, t, F, o, h, _, _, _ => by simp at h
  | p :: l, i, 0, F, o, h, hd, hS, hl => by
    simp only [List.getElem?_cons_zero, Option.some.injEq] at h
    subst h
    simp only [frS]
    rw [Nat.add_zero] at hS ⊢
    rw [if_pos hS]
    have e := frS_congr v S (fun _ => false) q l (i + 1) (setO p.dst (v i) F) (setO p.dst (v i) F) (fun k o' h1 h2 => by
      have := hl (k + 1) o' (by omega) (by simpa using h1) h2
      rwa [show i + (k + 1) = i + 1 + k by omega] at this) rfl
    rw [e]
    have none_ : ∀ (l : List Oper) (i : Nat) (F : Frm), frS v (fun _ => false) l i F = F := by
      intro l
      induction l with
      | nil => intro i F; rfl
      | cons o l ih => intro i F; simp only [frS, Bool.false_eq_true, if_false]; exact ih _ _
    rw [none_, setO_get, if_pos hd, Nat.add_zero]
  | p :: l, i, t + 1, F, o, h, hd, hS, hl => by
    simp only [frS]
    have := frS_last v S q l (i + 1) t (if S i then setO p.dst (v i) F else F) o (by simpa using h) hd (by rwa [show i + 1 + t = i + (t + 1) by omega]) (fun k o' h0 h1 h2 => by
      have := hl (k + 1) o' (by omega) (by simpa using h1) h2
      rwa [show i + (k + 1) = i + 1 + k by omega] at this)
    rw [this, show i + 1 + t = i + (t + 1) by omega]
/-- One more is done. -/
theorem frS_more (v : Nat → V) (S S' : Nat → Bool) (l : List Oper) (t : Nat) (F : Frm) (o : Oper) (ht : l[t]? = some o) (hS : ∀ k, S' k = (S k || k == t)) (hl : ∀ k o', t < k → l[k]? = some o' → o'.dst = o.dst → o.dst ≠ none → S k = false) (q : Tmp) :
    (frS v S' l 0 F).get (Pos.of q) = (setO o.dst (v t) (frS v S l 0 F)).get (Pos.of q) := by
  rw [setO_get]
  split
  · rename_i hd
    rw [frS_last v S' q l 0 t F o ht hd (by rw [hS]; simp) (fun k o' h0 h1 h2 => by
      rw [Nat.zero_add, hS, hl k o' h0 h1 (h2.trans hd.symm) (by rw [hd]; simp)]
      simp; omega), Nat.zero_add]
  · rename_i hd
    refine frS_congr v S' S q l 0 F F (fun k o' h1 h2 => ?_) rfl
    rw [Nat.zero_add, hS]
    by_cases hk : k = t
    · subst hk
      rw [ht] at h1
      cases h1
      exact (hd h2).elim
    · simp [hk]
end Go.Vm
