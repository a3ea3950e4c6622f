/- Lists to be read only; the lists of a ring on their way. -/
import Derived.Test.YthebkalnpmkkpaaGreatDoorWpG6
import Derived.Test.YthebkalnpmkkpaaGreatDoorWpK5
import Derived.Test.YthebkalnpmkkpaaGreatDoorWpL5
set_option linter.unusedVariables false
set_option linter.unusedSimpArgs false
namespace Go.Vm
open Ch
variable {P : Program} {Y : Fns} {I : Ids}
/-- A list to be read only: its block lies between two numbers. -/
structure RoL (lo hi : Nat) (h : Hp) (v : V) (vs : List V) : Prop where
  is : ∃ a c, v = .slice a vs.length c ∧ ((a = none ∧ vs = []) ∨ ∃ b x, a = some (b, 0) ∧ lo ≤ b ∧ b < hi ∧ h.get b = some (.cells x) ∧ x.l = vs)
theorem RoL.frame {lo hi : Nat} {h h' : Hp} {v : V} {vs : List V} (s : RoL lo hi h v vs) (hf : ∀ b, lo ≤ b → b < hi → h'.get b = h.get b) : RoL lo hi h' v vs := by
  obtain ⟨a, c, h1, h2⟩ := s
  refine ⟨a, c, h1, h2.imp id ?_⟩
  rintro ⟨b, x, k1, k2, k3, k4, k5⟩
  exact ⟨b, x, k1, k2, k3, (hf b k2 k3).trans k4, k5⟩
theorem RoL.wide {lo hi lo' hi' : Nat} {h : Hp} {v : V} {vs : List V} (s : RoL lo hi h v vs) (h1 : lo' ≤ lo) (h2 : hi ≤ hi') : RoL lo' hi' h v vs := by
  obtain ⟨a, c, e, k⟩ := s
  refine ⟨a, c, e, k.imp id ?_⟩
  rintro ⟨b, x, k1, k2, k3, k4, k5⟩
  exact ⟨b, x, k1, by omega, by omega, k4, k5⟩
theorem RoL.get {lo hi : Nat} {h : Hp} {v : V} {vs : List V} (s : RoL lo hi h v vs) {i : Nat} (hi' : i < vs.length) : ∃ b c, v = .slice (some (b, 0)) vs.length c ∧ load1 h b i = some vs[i] := by
  obtain ⟨a, c, e, k⟩ := s
  rcases k with ⟨_, rfl⟩ | ⟨b, x, rfl, k2, k3, k4, k5⟩
  · simp at hi'
  · refine ⟨b, c, e, ?_⟩
    unfold Vm.load1
    rw [k4]
    show x.l[i]? = _
    rw [k5, List.getElem?_eq_getElem hi']
theorem RoL.src {lo hi : Nat} {h : Hp} {v : V} {vs : List V} (s : RoL lo hi h v vs) : srcCells h 1 v = some (vs.length, vs) := by
  obtain ⟨a, c, rfl, k⟩ := s
  rcases k with ⟨rfl, rfl⟩ | ⟨b, x, rfl, k2, k3, k4, k5⟩
  · rfl
  · unfold srcCells
    dsimp only
    by_cases h0 : vs.length * 1 = 0
    · rw [if_pos h0]
      obtain rfl : vs = [] := List.length_eq_zero_iff.1 (by omega)
      rfl
    · rw [if_neg h0]
      have : loadL h b 0 (vs.length * 1) = some vs := by
        unfold Vm.loadL
        rw [k4]
        show (if 0 + vs.length * 1 ≤ x.l.length then some ((x.l.drop 0).take (vs.length * 1)) else none) = _
        rw [k5, if_pos (by omega)]
        simp
      rw [this]
      rfl
theorem Lst.rd {n : Nat} {h : Hp} {v : V} {vs : List V} {e : Nat} (s : Lst n h v vs 1 e) : RoL n h.next h v vs := by
  rcases s.is with ⟨rfl, rfl⟩ | ⟨b, k, rfl, h2, h3, h4, h5⟩
  · exact ⟨none, .ex 0, rfl, .inl ⟨rfl, rfl⟩⟩
  · exact ⟨some (b, 0), .tl 0, by rw [h2, Nat.mul_one], .inr ⟨b, _, rfl, h4, h5, h3, rfl⟩⟩
theorem Own.rd {h : Hp} {b : Nat} {l : List V} {e : Nat} (o : Own h b l e) (c : Cap) {n : Nat} (hn : n = l.length) : RoL b (b + 1) h (.slice (some (b, 0)) n c) l := by
  subst hn
  exact ⟨some (b, 0), c, rfl, .inr ⟨b, _, rfl, Nat.le_refl _, Nat.lt_succ_self _, o.is, rfl⟩⟩
theorem fv_cell (l : List Nat) : (fv l).all V.isCell = true := by simp [fv, V.isCell]
theorem fv_snoc (l : List Nat) (k : Nat) : fv l ++ [.int .i64 (k : Int)] = fv (l ++ [k]) := by simp [fv]
def bv (l : List Bool) : List V := l.map V.bool
theorem bv_len (l : List Bool) : (bv l).length = l.length := by simp [bv]
theorem Lst.frame1 {n : Nat} {h h' : Hp} {v : V} {l : List V} {w e : Nat} (s : Lst n h v l w e) (hn : h.next ≤ h'.next) (hf : ∀ b k, v = .slice (some (b, 0)) k (.tl 0) → b < h.next → h'.get b = h.get b) : Lst n h' v l w e := by
  rcases s.is with ⟨h1, h2⟩ | ⟨b, k, h1, h2, h3, h4, h5⟩
  · exact ⟨.inl ⟨h1, h2⟩⟩
  · exact ⟨.inr ⟨b, k, h1, h2, (hf b k h1 h5).trans h3, h4, Nat.lt_of_lt_of_le h5 hn⟩⟩
/-- A ring's lists on their way, in the heap. -/
structure MidH (I : Ids) (N bs : Nat) (h0 h : Hp) (seen : List Bool) (nx : List Nat) (mo : List (List Nat)) (v14 v15 : V) : Prop where
  next : N ≤ h.next
  old : ∀ b, b < N → b ≠ bs → h.get b = h0.get b
  sn : Own h bs (bv seen) (I.t 4)
  nx : Lst N h v14 (fv nx) 1 (I.t 3)
  mo : ∃ ws, Lst N h v15 ws 1 (I.t 69) ∧ ws.length = mo.length ∧ ∀ (j : Nat) (w : V) (l : List Nat), ws[j]? = some w → mo[j]? = some l → ∃ b, w = .slice (some (b, 0)) l.length (.tl 0) ∧ h.get b = some (ambB (fv l) (I.t 3)) ∧ N ≤ b ∧ b < h.next ∧ (∀ k, v14 ≠ .slice (some (b, 0)) k (.tl 0)) ∧ ∀ k, v15 ≠ .slice (some (b, 0)) k (.tl 0)
  ap : ∀ b k k', v14 = .slice (some (b, 0)) k (.tl 0) → v15 ≠ .slice (some (b, 0)) k' (.tl 0)
theorem MidH.grow {N bs : Nat} {h0 h h' : Hp} {seen : List Bool} {nx : List Nat} {mo : List (List Nat)} {v14 v15 : V} (s : MidH I N bs h0 h seen nx mo v14 v15) (g : Grow h h') : MidH I N bs h0 h' seen nx mo v14 v15 := by
  obtain ⟨a1, a2, a3, a4, ⟨ws, a5, a6, a7⟩, a8⟩ := s
  refine ⟨Nat.le_trans a1 g.next, fun b hb hne => (g.get b (Nat.lt_of_lt_of_le hb a1)).trans (a2 b hb hne), a3.grow g, a4.grow g, ⟨ws, a5.grow g, a6, fun j w l k1 k2 => ?_⟩, a8⟩
  obtain ⟨b, c1, c2, c3, c4, c5⟩ := a7 j w l k1 k2
  exact ⟨b, c1, (g.get b c4).trans c2, c3, Nat.lt_of_lt_of_le c4 g.next, c5⟩
theorem sl_inj {b b' k k' : Nat} (e : V.slice (some (b, 0)) k (.tl 0) = .slice (some (b', 0)) k' (.tl 0)) : b = b' := by cases e; rfl
theorem lst_low {n : Nat} {h : Hp} {b k : Nat} {l : List V} {w e : Nat} (s : Lst n h (.slice (some (b, 0)) k (.tl 0)) l w e) : n ≤ b ∧ b < h.next := by
  rcases s.is with ⟨h1, _⟩ | ⟨b', k', h1, _, _, h4, h5⟩
  · cases h1
  · cases h1; exact ⟨h4, h5⟩
set_option maxHeartbeats 1000000 in
theorem MidH.take (T3 : TyIs P (I.t 3) 1 8 [.int .i64 0]) (T69 : TyIs P (I.t 69) 1 24 [.slice none 0 (.ex 0)]) {N bs lo : Nat} {h0 h : Hp} {seen : List Bool} {nx : List Nat} {mo : List (List Nat)} {v14 v15 : V} (s : MidH I N bs h0 h seen nx mo v14 v15) (hbs : bs < N) (hlo : bs < lo) {w : V} {l : List Nat} (hw : RoL lo N h0 w (fv l)) {m k : Nat} (hm : m < seen.length)
    (hl : l.length ≤ 1000) (hn : nx.length ≤ 1000) (hmo : mo.length = nx.length) :
    ∃ h3, storeL h bs m [.bool true] = some h3 ∧ (∀ b, b ≠ bs → h3.get b = h.get b) ∧ ∃ v h4, appV P h3 (I.t 3) 1 (.slice none 0 (.ex 0)) w = .val v h4 ∧
      ∃ b5 h6, appV P (h4.new (newBlk [.int .i64 (k : Int)] (I.t 3))) (I.t 3) 1 v (.slice (some (h4.next, 0)) 1 (.ex 1)) = .val (.slice (some (b5, 0)) (l.length + 1) (.tl 0)) h6 ∧
      ∃ v6 h8, appV P (h6.new (newBlk [.int .i64 (m : Int)] (I.t 3))) (I.t 3) 1 v14 (.slice (some (h6.next, 0)) 1 (.ex 1)) = .val v6 h8 ∧
      ∃ v8 h10, appV P (h8.new (newBlk [.slice (some (b5, 0)) (l.length + 1) (.tl 0)] (I.t 69))) (I.t 69) 1 v15 (.slice (some (h8.next, 0)) 1 (.ex 1)) = .val v8 h10 ∧
      MidH I N bs h0 h10 (seen.set m true) (nx ++ [m]) (mo ++ [l ++ [k]]) v6 v8 := by
  obtain ⟨a1, a2, a3, a4, ⟨ws, a5, a6, a7⟩, a8⟩ := s
  -- the mark
  have st := a3.storeL m [.bool true] (by simp) (by rw [bv_len]; simp; omega) rfl
  have es : splice (bv seen) m [.bool true] = bv (seen.set m true) := by
    rw [splice_one (by rw [bv_len]; exact hm)]
    unfold bv; rw [List.map_set]
  rw [es] at st
  have o3 := a3.put (bv (seen.set m true))
  have f3 : ∀ b, b ≠ bs → (h.put bs (newBlk (bv (seen.set m true)) (I.t 4))).get b = h.get b := fun b hb => get_put_ne _ (fun e => hb e.symm)
  have n3 : (h.put bs (newBlk (bv (seen.set m true)) (I.t 4))).next = h.next := rfl
  generalize h.put bs (newBlk (bv (seen.set m true)) (I.t 4)) = h3 at st o3 f3 n3
  have x3 : Lst N h3 v14 (fv nx) 1 (I.t 3) := a4.mono (by omega) fun b hb _ => f3 b (by omega)
  have y3 : Lst N h3 v15 ws 1 (I.t 69) := a5.mono (by omega) fun b hb _ => f3 b (by omega)
  -- the row copied
  have w3 : RoL lo N h3 w (fv l) := hw.frame fun b h1 h2 => (f3 b (by omega)).trans (a2 b h2 (by omega))
  have lw : (fv l).length = l.length := fv_len l
  obtain ⟨v, h4, ap1, l4, k4⟩ := app_nil T3 (by omega) h3 w3.src (by rw [Nat.mul_one]) (fv_cell l) (by rw [lw]; omega) (by rw [lw]; omega)
  have g4 := k4.grow
  -- one more behind it
  have g5 := Grow.new h4 (newBlk [.int .i64 (k : Int)] (I.t 3))
  have o5 := Own.of_new h4 [.int .i64 (k : Int)] (I.t 3)
  have n5 := next_new h4 (newBlk [.int .i64 (k : Int)] (I.t 3))
  obtain ⟨h6, ap2, l6, k6, f6, n6, q6⟩ := app_ok2 T3 (by omega) (l4.grow g5) (by have := g4.next; have := g5.next; omega) (src_own o5 rfl (by omega)) rfl (by omega) rfl (k := l.length) (by rw [lw, Nat.mul_one]) (by omega) (by omega)
  rw [fv_snoc] at l6 q6
  have g36 : Grow h3 h6 := ((g4.trans g5).keep (Nat.le_refl _) |>.trans k6).grow
  have lo5 := lst_low l6
  -- the next ring's places
  have g7 := Grow.new h6 (newBlk [.int .i64 (m : Int)] (I.t 3))
  have o7 := Own.of_new h6 [.int .i64 (m : Int)] (I.t 3)
  have n7 := next_new h6 (newBlk [.int .i64 (m : Int)] (I.t 3))
  have N6 := g36.next
  obtain ⟨h8, ap3, l8, k8, f8, n8, q8⟩ := app_ok2 T3 (by omega) (x3.grow (g36.trans g7)) (by omega) (src_own o7 rfl (by omega)) rfl (by omega) rfl (k := nx.length) (by rw [fv_len, Nat.mul_one]) (by omega) (by omega)
  rw [fv_snoc] at l8
  -- the next ring's lists
  have g9 := Grow.new h8 (newBlk [V.slice (some ((h4.new (newBlk [.int .i64 (k : Int)] (I.t 3))).next, 0)) (l.length + 1) (.tl 0)] (I.t 69))
  have o9 := Own.of_new h8 [V.slice (some ((h4.new (newBlk [.int .i64 (k : Int)] (I.t 3))).next, 0)) (l.length + 1) (.tl 0)] (I.t 69)
  have n9 := next_new h8 (newBlk [V.slice (some ((h4.new (newBlk [.int .i64 (k : Int)] (I.t 3))).next, 0)) (l.length + 1) (.tl 0)] (I.t 69))
  have ylow : ∀ b k', v15 = .slice (some (b, 0)) k' (.tl 0) → N ≤ b ∧ b < h3.next := fun b k' e => lst_low (e ▸ y3)
  have xlow : ∀ b k', v14 = .slice (some (b, 0)) k' (.tl 0) → N ≤ b ∧ b < h3.next := fun b k' e => lst_low (e ▸ x3)
  have p8 : ∀ c, c < h6.next → (∀ b k', v14 = .slice (some (b, 0)) k' (.tl 0) → c ≠ b) → h8.get c = h6.get c := fun c hc hne => (f8 c (by omega) fun b e => hne b _ e).trans (g7.get c hc)
  have y8 : Lst N h8 v15 ws 1 (I.t 69) := y3.frame1 (by omega) fun b k' e hb => (p8 b (by omega) fun b' k2 e2 hbb => a8 b' k2 k' e2 (hbb ▸ e)).trans (g36.get b hb)
  obtain ⟨h10, ap4, l10, k10, f10, n10, q10⟩ := app_ok2 T69 (by omega) (y8.grow g9) (by omega) (src_own o9 rfl (by omega)) rfl (by omega) rfl (k := ws.length) (by rw [Nat.mul_one]) (by omega) (by omega)
  have p10 : ∀ c, c < h8.next → (∀ b k', v15 = .slice (some (b, 0)) k' (.tl 0) → c ≠ b) → h10.get c = h8.get c := fun c hc hne => (f10 c (by omega) fun b e => hne b _ e).trans (g9.get c hc)
  refine ⟨h3, st, f3, v, h4, ap1, _, h6, ap2, _, h8, ap3, _, h10, ap4, ⟨by omega, fun b hb hne => ?_, ?_, ?_, ⟨_, l10, by simp [a6], fun j w' l' e1 e2 => ?_⟩, fun b k1 k2 e1 e2 => ?_⟩⟩
  · rw [k10.get b hb, g9.get b (by omega), k8.get b hb, g7.get b (by omega), g36.get b (by omega), f3 b hne, a2 b hb hne]
  · exact (((((o3.grow g36).grow g7).keep hbs k8).grow g9).keep hbs k10)
  · refine l8.frame1 (by omega) fun b k' e hb => p10 b hb fun b' k2 e2 hbb => ?_
    cases e
    have := ylow _ _ e2
    omega
  · rcases at_snoc e1 with h' | ⟨h', rfl⟩
    · rcases at_snoc e2 with h'' | ⟨h'', _⟩
      · obtain ⟨b, c1, c2, c3, c4, c5, c6⟩ := a7 j w' l' h' h''
        refine ⟨b, c1, ?_, c3, by omega, fun k' e => ?_, fun k' e => ?_⟩
        · rw [p10 b (by omega) fun b' k2 e2 hbb => c6 k2 (hbb ▸ e2), p8 b (by omega) fun b' k2 e2 hbb => c5 k2 (hbb ▸ e2), g36.get b (by omega), f3 b (by omega)]
          exact c2
        · cases e; omega
        · cases e; omega
      · have := (List.getElem?_eq_some_iff.1 h').1
        omega
    · rcases at_snoc e2 with h'' | ⟨_, rfl⟩
      · have := (List.getElem?_eq_some_iff.1 h'').1
        omega
      · refine ⟨(h4.new (newBlk [V.int .i64 (k : Int)] (I.t 3))).next, by rw [List.length_append]; rfl, ?_, by omega, by omega, fun k' e => ?_, fun k' e => ?_⟩
        · rw [p10 _ (by omega) fun b' k2 e2 hbb => by have := ylow _ _ e2; omega, p8 _ (by omega) fun b' k2 e2 hbb => by have := xlow _ _ e2; omega]
          exact q6
        · have := sl_inj e; omega
        · have := sl_inj e; omega
  · have := sl_inj e1
    have := sl_inj e2
    omega
end Go.Vm
