/- parse.Parse at 65536 as: known. -/
import Derived.Test.YtodpkcebihbghaaGreatDoorWpP3
import Derived.Test.YtodpkcebihbghaaGreatDoorVmBig2
import Derived.Test.YtodpkcebihbghaaGreatDoorWpD7
set_option linter.unusedVariables false
set_option linter.unusedSimpArgs false
namespace Go.Vm
open Go.RowKit
def z1 : V → Bool
  | .int .i64 (.ofNat 0) => true
  | _ => false
def zC : Nat → List V → Option (List V)
  | 0, l => some l
  | k + 1, x :: l => match z1 x with | true => zC k l | false => none
  | _ + 1, [] => none
def zO : Nat → Nat → List V → Bool
  | 0, _, _ => true
  | k + 1, m, l => match zC m l with | some r => zO k m r | none => false
theorem z1_eq {v : V} (h : z1 v = true) : v = .int .i64 0 := by
  unfold z1 at h
  split at h
  · rfl
  · cases h
theorem zC_eq : ∀ {k : Nat} {l r : List V}, zC k l = some r → l = List.replicate k (.int .i64 0) ++ r
  | 0, l, r, h => by simpa [zC] using h
  | k + 1, [], r, h => by cases h
  | k + 1, x :: l, r, h => by
    unfold zC at h
    split at h
    · rename_i hx
      rw [z1_eq hx, zC_eq h, List.replicate_succ, List.cons_append]
    · cases h
theorem zO_eq : ∀ {k m : Nat} {l : List V}, zO k m l = true → ∃ r, l = List.replicate (k * m) (.int .i64 0) ++ r
  | 0, m, l, _ => ⟨l, by simp⟩
  | k + 1, m, l, h => by
    unfold zO at h
    split at h
    · rename_i r hr
      obtain ⟨r2, h2⟩ := zO_eq h
      refine ⟨r2, ?_⟩
      rw [zC_eq hr, h2, ← List.append_assoc, List.replicate_append_replicate, Nat.succ_mul, Nat.add_comm]
    · cases h
def isIv (k : IntKind) (n : Nat) : Option V → Bool
  | some (.int k' (.ofNat m)) => decide (k = k') && Nat.beq m n
  | _ => false
theorem isIv_eq {k : IntKind} {n : Nat} {o : Option V} (h : isIv k n o = true) : o = some (.int k (n : Int)) := by
  unfold isIv at h
  split at h
  · simp only [Bool.and_eq_true, decide_eq_true_eq] at h
    obtain ⟨rfl, h⟩ := h
    rw [Nat.eq_of_beq_eq_true h]
    rfl
  · cases h
def isTwo : Option V → Bool
  | some (.slice _ n _) => Nat.beq n 2
  | _ => false
def tabB (h : Hp) (bt : Nat) : Option Nat :=
  match isTwo (load1 h bt 1), load1 h bt 8 with
  | true, some (.ptr (some (bm, o))) => if Nat.beq o 0 && isIv .i64 3 (load1 h bm 0) && isIv .u64 1 (load1 h bm 62) && isIv .u64 1 (load1 h bm 64) && isIv .u64 2 (load1 h bm 123) && isIv .u64 0 (load1 h bm 184) && Nat.blt bt h.next && Nat.blt bm h.next then some bm else none
  | _, _ => none
theorem flat_zeros (N : Nat) : ((List.replicate N (0 : Int)).map fun n => [iv n]).flatten = List.replicate N (iv 0) := by simp [List.map_replicate, List.flatten_replicate_singleton]
variable {P : Program} {Y : Fns}
end Go.Vm
/- doc.Replace by 65536 as: known. -/
namespace Go.Vm
open Go.RowKit
/-- A block as it was made, or one of unknown capacity: its cells. -/
def ownB (o : Option Ob) : Option (List V × Nat) := match o with
  | some (.cells x) => if x.exact && x.rw && x.frz.1 == 0 && x.frz.2 == 0 then some (x.l, x.elem) else none
  | _ => none
theorem ownB_eq {o : Option Ob} {l : List V} {e : Nat} (h : ownB o = some (l, e)) : o = some (newBlk l e) := by
  unfold ownB at h
  split at h
  · rename_i x
    split at h
    · rename_i hc
      simp only [Bool.and_eq_true, beq_iff_eq] at hc
      cases h
      obtain ⟨xl, xe, xx, xr, f1, f2⟩ := x
      dsimp only at hc
      obtain ⟨⟨⟨rfl, rfl⟩, rfl⟩, rfl⟩ := hc
      rfl
    · cases h
  · cases h
def ambO (e : Nat) (o : Option Ob) : Option (List V) := match o with
  | some (.cells x) => if !x.exact && x.rw && x.frz.1 == 0 && x.frz.2 == 0 && Nat.beq x.elem e then some x.l else none
  | _ => none
theorem ambO_eq {o : Option Ob} {l : List V} {e : Nat} (h : ambO e o = some l) : o = some (ambB l e) := by
  unfold ambO at h
  split at h
  · rename_i x
    split at h
    · rename_i hc
      simp only [Bool.and_eq_true, beq_iff_eq, Bool.not_eq_true'] at hc
      cases h
      obtain ⟨xl, xe, xx, xr, f1, f2⟩ := x
      dsimp only at hc
      obtain ⟨⟨⟨⟨rfl, rfl⟩, rfl⟩, rfl⟩, he⟩ := hc
      rw [Nat.eq_of_beq_eq_true he]
      rfl
    · cases h
  · cases h
/-- Two ints at a block's head. -/
def twoI (o : Option Ob) : Bool := match o with
  | some (.cells x) => (match x.l with | .int .i64 _ :: .int .i64 _ :: _ => true | _ => false)
  | _ => false
def dist (l : List Nat) (b : Nat) : Bool := l.all fun c => !Nat.beq c b
/-- The blocks that the call turns, if all is as it must be. -/
def docK (t528 t272 : Nat) (h : Hp) (bd bl o : Nat) : Option (Nat × Nat × Nat × Nat × Nat × Nat) :=
  match ownB (h.get bd) with
  | some ([.ptr (some (bt, 0)), .slice (some (ba, 0)) 1 (.tl 0), .int .i64 (.ofNat laid), .int .i64 (.ofNat 2), .slice (some (bu, 0)) 0 (.tl 0)], _) =>
    (match tabB h bt, ambO t528 (h.get ba), ambO t272 (h.get bu), h.get bl with
     | some bm, some [.slice (some (bk, 0)) 2 ck, x1, x2, x3, x4, x5], some (x :: xs), some (.cells y) =>
       if twoI (h.get bk) && [x1, x2, x3, x4, x5].all V.isCell && [bd, bt, bm, ba, bk, bu, bl].all (fun b => Nat.blt b h.next) && dist [bt, bm, ba, bk, bu, bl] bd && dist [bu, bt, bm, bk, bl] ba && Nat.ble laid 1099511627776 then
         (match zO 256 256 (y.l.drop o) with | true => some (bt, bm, ba, bk, bu, laid) | false => none)
       else none
     | _, _, _, _ => none)
  | _ => none
def docOf (f t528 t272 : Nat) : FuncId → List V → Option Md → Hp → Option CR := fun g args md h =>
  match Nat.beq g f with
  | true => (match md, args with
    | none, [.ptr (some (bd, 0)), .int .i64 (.ofNat 0), .int .i64 (.ofNat 2), .slice (some (bl, o)) n c] => (match Nat.beq n 65536 with
      | true => (match docK t528 t272 h bd bl o with
        | some (bt, bm, ba, bk, bu, laid) => some (.ret .nilIface none (kill h [bd, ba, bu]))
        | none => none)
      | false => none)
    | _, _ => none)
  | false => none
theorem dist_ne {l : List Nat} {b c : Nat} (h : dist l b = true) (hc : c ∈ l) : c ≠ b := fun e => by
  have := List.all_eq_true.1 h c hc
  rw [e] at this
  simp at this
structure DocF (h : Hp) (t528 t272 bd bl o bt bm ba bk bu laid : Nat) : Prop where
  own : ∃ ed, Own h bd [.ptr (some (bt, 0)), .slice (some (ba, 0)) 1 (.tl 0), .int .i64 (laid : Int), .int .i64 2, .slice (some (bu, 0)) 0 (.tl 0)] ed
  tab : tabB h bt = some bm
  all : ∃ ck x1 x2 x3 x4 x5, h.get ba = some (ambB [.slice (some (bk, 0)) 2 ck, x1, x2, x3, x4, x5] t528) ∧ [x1, x2, x3, x4, x5].all V.isCell = true
  und : ∃ x xs, h.get bu = some (ambB (x :: xs) t272)
  two : ∃ y y1 y2 ys, h.get bk = some (.cells y) ∧ y.l = .int .i64 y1 :: .int .i64 y2 :: ys
  zer : ∃ y r, h.get bl = some (.cells y) ∧ y.l.drop o = List.replicate 65536 (.int .i64 0) ++ r
  low : ∀ b ∈ [bd, bt, bm, ba, bk, bu, bl], b < h.next
  nd : ∀ b ∈ [bt, bm, ba, bk, bu, bl], b ≠ bd
  na : ∀ b ∈ [bu, bt, bm, bk, bl], b ≠ ba
  laid : laid ≤ 1099511627776
theorem docK_ok {h : Hp} {t528 t272 bd bl o bt bm ba bk bu laid : Nat} (hk : docK t528 t272 h bd bl o = some (bt, bm, ba, bk, bu, laid)) : DocF h t528 t272 bd bl o bt bm ba bk bu laid := by
  unfold docK at hk
  split at hk
  · rename_i bt' ba' laid' bu' ed hown
    split at hk
    · rename_i bm' bk' ck x1 x2 x3 x4 x5 x xs y hT hA hU hL
      split at hk
      · rename_i hc
        simp only [Bool.and_eq_true] at hc
        obtain ⟨⟨⟨⟨⟨c1, c2⟩, c3⟩, c4⟩, c5⟩, c6⟩ := hc
        split at hk
        · rename_i hz
          simp only [Option.some.injEq, Prod.mk.injEq] at hk
          obtain ⟨rfl, rfl, rfl, rfl, rfl, rfl⟩ := hk
          have hlow : ∀ b ∈ [bd, bt', bm', ba', bk', bu', bl], b < h.next := fun b hb => Nat.le_of_ble_eq_true (List.all_eq_true.1 c3 b hb)
          obtain ⟨r, hr⟩ := zO_eq hz
          refine ⟨⟨ed, ownB_eq hown, hlow bd (by simp)⟩, hT, ⟨ck, x1, x2, x3, x4, x5, ambO_eq hA, c2⟩, ⟨x, xs, ambO_eq hU⟩, ?_, ⟨y, r, hL, hr⟩, hlow, fun b hb => dist_ne c4 hb, fun b hb => dist_ne c5 hb, Nat.le_of_ble_eq_true c6⟩
          unfold twoI at c1
          split at c1
          · rename_i y' hy
            split at c1
            · rename_i y1 y2 ys hl
              exact ⟨y', y1, y2, ys, hy, hl⟩
            · cases c1
          · cases c1
        · cases hk
      · cases hk
    · cases hk
  · cases hk
variable {P : Program} {Y : Fns}
theorem docOf_ok (H : VmHyp P Y) {f t528 t272 : Nat} (hw : ∀ (h : Hp) (bd ed bt ba bk bn bu o laid : Nat) (c ck : Cap) (x1 x2 x3 x4 x5 : V) (y1 y2 : Int) (xs : List V), Tab h bt → bt ≠ bd → Own h bd [.ptr (some (bt, 0)), .slice (some (ba, 0)) 1 (.tl 0), .int .i64 (laid : Int), .int .i64 2, .slice (some (bu, 0)) 0 (.tl 0)] ed →
      h.get ba = some (ambB [.slice (some (bk, 0)) 2 ck, x1, x2, x3, x4, x5] t528) → ba < h.next → ba ≠ bd → [x1, x2, x3, x4, x5].all V.isCell = true → loadL h bk 0 2 = some [.int .i64 y1, .int .i64 y2] → bk < h.next → bk ≠ bd →
      h.get bu = some (ambB xs t272) → 1 ≤ xs.length → bu < h.next → bu ≠ bd → bu ≠ ba → Ints h (some (bn, o)) (List.replicate 65536 0) → bn < h.next → bn ≠ bd → laid ≤ 1099511627776 →
      CW P Y f [.ptr (some (bd, 0)), .int .i64 0, .int .i64 2, .slice (some (bn, o)) 65536 c] none h (fun q => ∃ h', q = .ret .nilIface none h'))
    (g : FuncId) (args : List V) (md : Option Md) (h : Hp) (r : CR) (hr : docOf f t528 t272 g args md h = some r) (rs : List Value) (kind : CallKind) (μ : PM) (w : World) (c0 cs : List Frame)
    (R : Rel P μ h w) (ha : VRs μ args rs) (hc : Cal μ kind c0 md cs) : COk P g kind c0 (lone (Frame.enter P g rs.toArray kind) cs w) μ h w r := by
  unfold docOf at hr
  split at hr
  · rename_i hgf
    obtain rfl := Nat.eq_of_beq_eq_true hgf
    split at hr
    · rename_i bd bl o n c
      split at hr
      · rename_i hn
        obtain rfl : n = 65536 := Nat.eq_of_beq_eq_true hn
        split at hr
        · rename_i bt bm ba bk bu laid hk
          cases hr
          obtain ⟨⟨ed, own⟩, tab, ⟨ck, x1, x2, x3, x4, x5, all1, all2⟩, ⟨x, xs, und⟩, ⟨yk, y1, y2, ys, two1, two2⟩, ⟨yz, rz, zer1, zer2⟩, low, nd, na, hlaid⟩ := docK_ok hk
          have same : ∀ b ∈ [bd, ba, bu], (keepW h (pick h [bt, bm, bk, bl]) [bd, ba, bu]).get b = h.get b := fun b hb => by
            simp only [List.mem_cons, List.not_mem_nil, or_false] at hb
            rcases hb with rfl | rfl | rfl
            · rw [own.is]; exact keepW_in own.is (by simp)
            · rw [all1]; exact keepW_in all1 (by simp)
            · rw [und]; exact keepW_in und (by simp)
          have live : ∀ b ∈ [bt, bm, bk, bl], ∀ y, h.get b = some (.cells y) → ∃ y', (keepW h (pick h [bt, bm, bk, bl]) [bd, ba, bu]).get b = some (.cells y') ∧ y'.l = y.l := fun b hb y hy => by
            by_cases hk : b ∈ [bd, ba, bu]
            · exact ⟨y, (same b hk).trans hy, rfl⟩
            · exact ⟨rob y, (keepW_out hk).trans (pick_mem hy hb), rfl⟩
          have hnx : (keepW h (pick h [bt, bm, bk, bl]) [bd, ba, bu]).next = h.next := (keepW_next _ _ _).trans (pick_next _ _)
          have hK : ∀ b, b < h.next → (b ∈ [bd, ba, bu] ∧ (keepW h (pick h [bt, bm, bk, bl]) [bd, ba, bu]).get b = h.get b) ∨ Part h (keepW h (pick h [bt, bm, bk, bl]) [bd, ba, bu]) b := fun b hb => by
            by_cases hk : b ∈ [bd, ba, bu]
            · exact .inl ⟨hk, same b hk⟩
            · refine .inr ?_
              unfold Part
              rw [keepW_out hk]
              exact pick_or h hb _
          generalize keepW h (pick h [bt, bm, bk, bl]) [bd, ba, bu] = h0 at same live hnx hK
          have ld1 : ∀ b ∈ [bt, bm, bk, bl], ∀ o v, load1 h b o = some v → load1 h0 b o = some v := fun b hb o v hv => by
            unfold load1 at hv ⊢
            split at hv
            · rename_i y hy
              obtain ⟨y', e1, e2⟩ := live b hb y hy
              rw [e1]
              show y'.l[o]? = some v
              rw [e2]
              exact hv
            · cases hv
          have hT : Tab h0 bt := by
            unfold tabB at tab
            split at tab
            · rename_i bm' o' e1 e2
              split at tab
              · rename_i hc
                cases tab
                simp only [Bool.and_eq_true] at hc
                obtain ⟨⟨⟨⟨⟨⟨⟨q0, q1⟩, q2⟩, q3⟩, q4⟩, q5⟩, q6⟩, q7⟩ := hc
                obtain rfl : o' = 0 := Nat.eq_of_beq_eq_true q0
                refine ⟨by rw [hnx]; exact low bt (by simp), ?_, bm, by rw [hnx]; exact low bm (by simp), ld1 bt (by simp) _ _ e2, ld1 bm (by simp) _ _ (isIv_eq q1), ld1 bm (by simp) _ _ (isIv_eq q2), ld1 bm (by simp) _ _ (isIv_eq q3), ld1 bm (by simp) _ _ (isIv_eq q4), ld1 bm (by simp) _ _ (isIv_eq q5)⟩
                unfold isTwo at e1
                split at e1
                · rename_i a n c hl
                  obtain rfl : n = 2 := Nat.eq_of_beq_eq_true e1
                  exact ⟨a, c, ld1 bt (by simp) _ _ hl⟩
                · cases e1
              · cases tab
            · cases tab
          have hown : Own h0 bd [.ptr (some (bt, 0)), .slice (some (ba, 0)) 1 (.tl 0), .int .i64 (laid : Int), .int .i64 2, .slice (some (bu, 0)) 0 (.tl 0)] ed := ⟨(same bd (by simp)).trans own.is, by rw [hnx]; exact own.low⟩
          have hbk : loadL h0 bk 0 2 = some [.int .i64 y1, .int .i64 y2] := by
            obtain ⟨y', e1, e2⟩ := live bk (by simp) yk two1
            unfold loadL
            rw [e1]
            dsimp only
            rw [e2, two2]
            simp
          have hI : Ints h0 (some (bl, o)) (List.replicate 65536 0) := by
            obtain ⟨y', e1, e2⟩ := live bl (by simp) yz zer1
            refine ⟨fun r hr => ?_, .inr ⟨bl, o, rfl, ⟨_, e1, ?_, ?_⟩, by rw [hnx]; exact low bl (by simp)⟩⟩
            · obtain ⟨y, _, rfl⟩ := List.mem_map.1 hr
              rfl
            · have := congrArg List.length zer2
              simp only [List.length_drop, List.length_append, List.length_replicate] at this
              rw [flat_zeros, List.length_replicate, e2]
              omega
            · rw [flat_zeros, List.length_replicate, e2, zer2, List.take_append_of_le_length (by rw [List.length_replicate]; omega), List.take_of_length_le (by rw [List.length_replicate]; omega)]
          exact kill_ok H R ha hc hnx hK rfl (hw h0 bd ed bt ba bk bl bu o laid c ck x1 x2 x3 x4 x5 y1 y2 (x :: xs) hT (nd bt (by simp)) hown ((same ba (by simp)).trans all1) (by rw [hnx]; exact low ba (by simp)) (nd ba (by simp)) all2 hbk (by rw [hnx]; exact low bk (by simp)) (nd bk (by simp))
            ((same bu (by simp)).trans und) (by simp) (by rw [hnx]; exact low bu (by simp)) (nd bu (by simp)) (na bu (by simp)) hI (by rw [hnx]; exact low bl (by simp)) (nd bl (by simp)) hlaid)
        · cases hr
      · cases hr
    · cases hr
  · cases hr
end Go.Vm
