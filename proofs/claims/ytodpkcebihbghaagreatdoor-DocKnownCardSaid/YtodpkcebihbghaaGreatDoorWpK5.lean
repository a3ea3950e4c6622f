/- Lists of rows that were handed out, written full and gone on with: they share no memory. -/
import Derived.Test.YtodpkcebihbghaaGreatDoorWpK4
import Derived.Test.YtodpkcebihbghaaGreatDoorWpF6
set_option linter.unusedVariables false
set_option linter.unusedSimpArgs false
namespace Go.Vm
variable {P : Program} {Y : Fns} {I : Ids}
/-- A list that was handed out: its block, how many rows. -/
abbrev Out := Option Nat × Nat
def outV (x : Out) : V := .slice (x.1.map fun b => (b, 0)) x.2 (.ex x.2)
def mk1 (i r : Nat) : Int := wr (wr (1000 * (i : Int)) + (r : Int))
def mk2 (i r : Nat) : Int := wr (wr (500000 + wr (1000 * (i : Int))) + (r : Int))
/-- The lists' blocks: apart, each of one's own; rows that were written already. -/
structure Outs (k e : Nat) (A : List Out) (n : Nat) (h : Hp) (D : Nat → Nat → Prop) : Prop where
  ap : ∀ (i j b m m' : Nat), A[i]? = some (some b, m) → A[j]? = some (some b, m') → i = j
  none : ∀ (i m : Nat), A[i]? = some (none, m) → m = 0
  is : ∀ (i b m : Nat), A[i]? = some (some b, m) → b < n ∧ ∃ ex L, OwnX ex h b L e ∧ L.length = m * k ∧ ∀ r, r < m → D i r → L[r * k]? = some (.int .i64 (mk1 i r))
theorem Outs.mono {k e : Nat} {A : List Out} {n : Nat} {h : Hp} {D D' : Nat → Nat → Prop} (s : Outs k e A n h D) (hd : ∀ (i b m r : Nat), A[i]? = some (some b, m) → r < m → D' i r → D i r) : Outs k e A n h D' :=
  ⟨s.ap, s.none, fun i b m hi => by
    obtain ⟨h0, ex, L, h1, h2, h3⟩ := s.is i b m hi
    exact ⟨h0, ex, L, h1, h2, fun r hr hD => h3 r hr (hd i b m r hi hr hD)⟩⟩
theorem Outs.keep {k e : Nat} {A : List Out} {n : Nat} {h h' : Hp} {D : Nat → Nat → Prop} (s : Outs k e A n h D) (g : Keep n h h') : Outs k e A n h' D :=
  ⟨s.ap, s.none, fun i b m hi => by
    obtain ⟨h0, ex, L, h1, h2, h3⟩ := s.is i b m hi
    exact ⟨h0, ex, L, h1.keep h0 g, h2, h3⟩⟩
/-- Only the lists' blocks were turned. -/
structure Turned (A : List Out) (h h' : Hp) : Prop where
  next : h'.next = h.next
  get : ∀ c : Nat, (∀ i m : Nat, A[i]? ≠ some (some c, m)) → h'.get c = h.get c
theorem Turned.refl (A : List Out) (h : Hp) : Turned A h h := ⟨rfl, fun _ _ => rfl⟩
theorem Turned.put {A : List Out} {h h' : Hp} (t : Turned A h h') {i b m : Nat} (hi : A[i]? = some (some b, m)) (ob : Ob) : Turned A h (h'.put b ob) :=
  ⟨t.next, fun c hc => (get_put_ne ob (fun e => hc i m (by rw [← e]; exact hi))).trans (t.get c hc)⟩
/-- The list of the lists. -/
structure AllC (h : Hp) (a : Option (Nat × Nat)) (A : List Out) : Prop where
  sl : Sl h 1 a (A.map fun x => [outV x])
  sep : ∀ b o, a = some (b, o) → ∀ i m : Nat, A[i]? ≠ some (some b, m)
theorem AllC.turned {h h' : Hp} {a : Option (Nat × Nat)} {A : List Out} (s : AllC h a A) (t : Turned A h h') : AllC h' a A := by
  refine ⟨⟨s.sl.wid, s.sl.pl.imp id fun ⟨b, o, e, k⟩ => ?_⟩, s.sep⟩
  obtain ⟨⟨x, k1, k2⟩, k3⟩ := k
  exact ⟨b, o, e, ⟨⟨x, (t.get b (s.sep b o e)).trans k1, k2⟩, by rw [t.next]; exact k3⟩⟩
theorem AllC.grow {h h' : Hp} {a : Option (Nat × Nat)} {A : List Out} (s : AllC h a A) (g : Grow h h') : AllC h' a A := ⟨s.sl.grow g, s.sep⟩
theorem AllC.get {h : Hp} {a : Option (Nat × Nat)} {A : List Out} (s : AllC h a A) {i : Nat} (hi : i < A.length) : ∃ b o, a = some (b, o) ∧ load1 h b (o + i) = some (outV A[i]) := by
  obtain ⟨b, o, h1, h2⟩ := s.sl.at (i := i) (by simpa using hi)
  simp only [List.getElem_map] at h2
  have := h2.load1 (i := 0) (by simp)
  exact ⟨b, o, h1, by simpa using this⟩
/-- Some elements more, the new block's number told. -/
theorem app_ok2 {e w bytes : Nat} {z : List V} (T : TyIs P e w bytes z) (hw : w ≠ 0) {n : Nat} {h : Hp} {v : V} {l : List V} (s : Lst n h v l w e) (hn : n ≤ h.next) {y : V} {new : List V} {m : Nat} (hy : srcCells h w y = some (m, new)) (hm : new.length = m * w) (h0 : m ≠ 0)
    (hc : new.all V.isCell = true) {k : Nat} (hk : l.length = k * w) (hb : 2 * (k + m) * bytes ≤ 281474976710656) (hb2 : k + m ≤ 4611686018427387904) :
    ∃ h', appV P h e w v y = .val (.slice (some (h.next, 0)) (k + m) (.tl 0)) h' ∧ Lst n h' (.slice (some (h.next, 0)) (k + m) (.tl 0)) (l ++ new) w e ∧ Keep n h h' ∧ (∀ c, c < h.next → (∀ b, v = .slice (some (b, 0)) k (.tl 0) → c ≠ b) → h'.get c = h.get c) ∧ h'.next = h.next + 1 ∧ h'.get h.next = some (ambB (l ++ new) e) := by
  have guard : (decide (2 * (k + m) * ((P.info? e).map (·.bytes)).getD 0 > 2 ^ 48) || decide (k + m > 2 ^ 62) || !((zeroT P e).any fun z => decide (z.length = sizeT P e))) = false := by
    rw [T.bytes, T.zero, T.size]
    simp [T.len]
    omega
  rcases s.is with ⟨rfl, rfl⟩ | ⟨b, k', rfl, h2, h3, h4, h5⟩
  · obtain rfl : k = 0 := by
      have : k * w = 0 := by rw [← hk]; rfl
      rcases Nat.mul_eq_zero.1 this with h | h
      · exact h
      · exact absurd h hw
    refine ⟨h.new (ambB new e), ?_, ⟨.inr ⟨h.next, 0 + m, rfl, by simp [hm], get_new_same _ _, hn, Nat.lt_succ_self _⟩⟩, (Grow.new _ _).keep hn, fun c hcc _ => get_new _ hcc, rfl, get_new_same _ _⟩
    unfold appV
    simp only [hy]
    unfold appendV
    simp only [guard, Bool.false_eq_true, if_false]
    rw [if_neg (by omega), if_pos (by simp [hc])]
    rfl
  · obtain rfl : k' = k := by
      have : k' * w = k * w := by rw [← h2, hk]
      exact Nat.eq_of_mul_eq_mul_right (Nat.pos_of_ne_zero hw) this
    have hne : b ≠ h.next := by omega
    refine ⟨(h.put b .dead).new (ambB (l ++ new) e), ?_, ⟨.inr ⟨h.next, k' + m, rfl, by simp [h2, hm, Nat.add_mul], get_new_same _ _, hn, Nat.lt_succ_self _⟩⟩, ⟨Nat.le_succ _, fun c hcc => ?_⟩, fun c hcc hne2 => ?_, rfl, get_new_same _ _⟩
    · unfold appV
      simp only [hy]
      unfold appendV
      simp only [guard, Bool.false_eq_true, if_false]
      rw [if_neg h0, h3]
      simp only [ambB, T.size]
      rw [if_neg (by simp [hw]), if_neg (by rw [h2, Nat.add_mul]; have : 0 < m * w := Nat.mul_pos (Nat.pos_of_ne_zero h0) (Nat.pos_of_ne_zero hw); omega), if_pos (by simp [h2, hc])]
      simp only [List.drop_zero, Nat.sub_zero, h2.symm, List.take_length]
    · rw [get_new _ (by show c < h.next; omega), get_put_ne _ (by omega)]
    · rw [get_new _ (by show c < h.next; omega), get_put_ne]
      exact fun e => hne2 b rfl e.symm
/-- A list of full capacity, gone on with: it goes elsewhere. -/
theorem app_ex {e w bytes : Nat} {z : List V} (T : TyIs P e w bytes z) (hw : w ≠ 0) {h : Hp} {a : Option (Nat × Nat)} {m : Nat} {L : List V} (hL : (a = none ∧ m = 0 ∧ L = []) ∨ ∃ b, a = some (b, 0) ∧ loadL h b 0 (m * w) = some L) {y : V} {new : List V} (hy : srcCells h w y = some (1, new))
    (hc : new.all V.isCell = true) (hb : 2 * (m + 1) * bytes ≤ 281474976710656) (hb2 : m + 1 ≤ 4611686018427387904) :
    appV P h e w (.slice a m (.ex m)) y = .val (.slice (some (h.next, 0)) (m + 1) (.tl 0)) (h.new (ambB (L ++ new) e)) := by
  have guard : (decide (2 * (m + 1) * ((P.info? e).map (·.bytes)).getD 0 > 2 ^ 48) || decide (m + 1 > 2 ^ 62) || !((zeroT P e).any fun z => decide (z.length = sizeT P e))) = false := by
    rw [T.bytes, T.zero, T.size]
    simp [T.len]
    omega
  unfold appV
  simp only [hy]
  unfold appendV
  simp only [guard, Bool.false_eq_true, if_false]
  rw [if_neg (by omega)]
  rcases hL with ⟨rfl, rfl, rfl⟩ | ⟨b, rfl, hl⟩
  · simp only [hc, Bool.and_true, decide_true, if_true, List.nil_append]
    rfl
  · simp only [T.size, hl, orBad, hc, if_true]
    rfl
/-- A list on its way: as it was handed out, or gone on with r times. -/
structure Wl (k e : Nat) (i : Nat) (x : Out) (n1 : Nat) (h : Hp) (r : Nat) (w : V) : Prop where
  is : (r = 0 ∧ w = outV x) ∨ (0 < r ∧ ∃ c M, w = .slice (some (c, 0)) (x.2 + r) (.tl 0) ∧ h.get c = some (ambB M e) ∧ n1 ≤ c ∧ c < h.next ∧ M.length = (x.2 + r) * k ∧ (∀ q, q < x.2 → M[q * k]? = some (.int .i64 (mk1 i q))) ∧ ∀ q, q < r → M[(x.2 + q) * k]? = some (.int .i64 (mk2 i q)))
theorem rows_more {k : Nat} (hk : k ≠ 0) {M row : List V} {m r : Nat} {i : Nat} (hM : M.length = (m + r) * k) (hrow : row.length = k) (h0 : row[0]? = some (.int .i64 (mk2 i r))) (h1 : ∀ q, q < m → M[q * k]? = some (.int .i64 (mk1 i q))) (h2 : ∀ q, q < r → M[(m + q) * k]? = some (.int .i64 (mk2 i q))) :
    (M ++ row).length = (m + (r + 1)) * k ∧ (∀ q, q < m → (M ++ row)[q * k]? = some (.int .i64 (mk1 i q))) ∧ ∀ q, q < r + 1 → (M ++ row)[(m + q) * k]? = some (.int .i64 (mk2 i q)) := by
  have lt : ∀ q, q < m + r → q * k < M.length := fun q hq => by rw [hM]; exact Nat.mul_lt_mul_of_pos_right hq (Nat.pos_of_ne_zero hk)
  refine ⟨by rw [List.length_append, hM, hrow, ← Nat.add_assoc, Nat.succ_mul], fun q hq => ?_, fun q hq => ?_⟩
  · rw [List.getElem?_append_left (lt q (by omega))]; exact h1 q hq
  · rcases Nat.lt_succ_iff_lt_or_eq.1 hq with h | h
    · rw [List.getElem?_append_left (lt _ (by omega))]; exact h2 q h
    · subst h
      rw [List.getElem?_append_right (by rw [hM]; exact Nat.le_refl _), hM, Nat.sub_self]
      exact h0
theorem Wl.step {k e bytes : Nat} {z : List V} {tl : List Int} (T : RowT P k e bytes z tl) {A : List Out} {n : Nat} {h1 : Hp} {i r : Nat} {x : Out} {w : V} {n1 : Nat} (s : Wl k e i x n1 h1 r w) (ho : Outs k e A n h1 fun _ _ => True) (hx : A[i]? = some x) (hn : n1 ≤ h1.next)
    (hb : 2 * (x.2 + (r + 1)) * bytes ≤ 281474976710656) (hb2 : x.2 + (r + 1) ≤ 4611686018427387904) :
    ∃ w' h4, appV P (h1.new (newBlk (rv (mk2 i r :: tl)) e)) e k w (.slice (some (h1.next, 0)) 1 (.ex 1)) = .val w' h4 ∧ Wl k e i x n1 h4 (r + 1) w' ∧ Keep n1 h1 h4 := by
  have hk : k ≠ 0 := by have := T.len; omega
  have hlen : (rv (mk2 i r :: tl)).length = k := by rw [rv_len]; exact T.len
  have g3 := Grow.new h1 (newBlk (rv (mk2 i r :: tl)) e)
  have o3 := Own.of_new h1 (rv (mk2 i r :: tl)) e
  have n3 : (h1.new (newBlk (rv (mk2 i r :: tl)) e)).next = h1.next + 1 := rfl
  generalize h1.new (newBlk (rv (mk2 i r :: tl)) e) = h3 at g3 o3 n3
  have hsrc := src_own o3 hlen hk
  rcases s.is with ⟨rfl, rfl⟩ | ⟨hr, c, M, rfl, h2, h3', h4, h5, h6, h7⟩
  · obtain ⟨L, hL, hLl, hLr⟩ : ∃ L, ((x.1.map fun b => (b, 0)) = none ∧ x.2 = 0 ∧ L = [] ∨ ∃ b, (x.1.map fun b => (b, 0)) = some (b, 0) ∧ loadL h3 b 0 (x.2 * k) = some L) ∧ L.length = (x.2 + 0) * k ∧ ∀ q, q < x.2 → L[q * k]? = some (.int .i64 (mk1 i q)) := by
      obtain ⟨ob, m⟩ := x
      cases ob with
      | none =>
        obtain rfl := ho.none i m hx
        exact ⟨[], .inl ⟨rfl, rfl, rfl⟩, by simp, fun q hq => absurd hq (Nat.not_lt_zero _)⟩
      | some b =>
        obtain ⟨_, ex, L, k1, k2, k3⟩ := ho.is i b m hx
        refine ⟨L, .inr ⟨b, rfl, ?_⟩, by simpa using k2, fun q hq => k3 q hq trivial⟩
        rw [(k1.grow g3).loadL, if_pos (by simp [k2]), List.drop_zero]
        simp only [← k2, List.take_length]
    have happ := app_ex T.ty hk (m := x.2) hL hsrc (rv_cell _) hb hb2
    refine ⟨_, _, happ, ⟨.inr ⟨by omega, h3.next, L ++ rv (mk2 i 0 :: tl), rfl, get_new_same _ _, by omega, Nat.lt_succ_self _, ?_⟩⟩, (g3.keep hn).trans ((Grow.new _ _).keep (by omega))⟩
    exact rows_more hk hLl hlen rfl hLr (fun q hq => absurd hq (Nat.not_lt_zero _))
  · have sl : Lst n1 h3 (.slice (some (c, 0)) (x.2 + r) (.tl 0)) M k e := ⟨.inr ⟨c, _, rfl, h5, (g3.get c h4).trans h2, h3', by omega⟩⟩
    obtain ⟨h4', happ, k1, k2, k3, k4, k5⟩ := app_ok2 T.ty hk sl (by omega) hsrc (by rw [hlen, Nat.one_mul]) (by omega) (rv_cell _) h5 hb hb2
    exact ⟨_, h4', happ, ⟨.inr ⟨by omega, h3.next, M ++ rv (mk2 i r :: tl), rfl, k5, by omega, by omega, rows_more hk h5 hlen rfl h6 h7⟩⟩, (g3.keep hn).trans k2⟩
/-- The lists gone on with, so far. -/
structure MoreC (k e e2 : Nat) (A : List Out) (n0 : Nat) (i : Nat) (h : Hp) (v : V) : Prop where
  is : ∃ cs, Lst n0 h v cs 1 e2 ∧ cs.length = i ∧ ∀ j, j < i → ∃ x c M, A[j]? = some x ∧ cs[j]? = some (.slice (some (c, 0)) (x.2 + 30) (.tl 0)) ∧ h.get c = some (ambB M e) ∧ n0 ≤ c ∧ c < h.next ∧ (∀ b m, v = .slice (some (b, 0)) m (.tl 0) → c ≠ b) ∧
    (∀ q, q < x.2 → M[q * k]? = some (.int .i64 (mk1 j q))) ∧ ∀ q, q < 30 → M[(x.2 + q) * k]? = some (.int .i64 (mk2 j q))
/-- Of what was there only the lists' blocks were turned. -/
structure Past (A : List Out) (h h' : Hp) : Prop where
  next : h.next ≤ h'.next
  get : ∀ c : Nat, c < h.next → (∀ i m : Nat, A[i]? ≠ some (some c, m)) → h'.get c = h.get c
end Go.Vm
