/- parse.Parse at 65536 as: known. -/
import Derived.Test.YtmkhdddeikoceaaGreatDoorWpP3
import Derived.Test.YtmkhdddeikoceaaGreatDoorVmBig
set_option linter.unusedVariables false
set_option linter.unusedSimpArgs false
namespace Go.Vm
open Go.RowKit
def z1 : V → Bool
  | .int .i64 (.ofNat 0) => true
  | _ => false
def zC : Nat → List V → Option (List V)
  | 0, l => some l
  | k + 1, x :: l => match z1 x with | true => zC k l | false => none
  | _ + 1, [] => none
def zO : Nat → Nat → List V → Bool
  | 0, _, _ => true
  | k + 1, m, l => match zC m l with | some r => zO k m r | none => false
theorem z1_eq {v : V} (h : z1 v = true) : v = .int .i64 0 := by
  unfold z1 at h
  split at h
  · rfl
  · cases h
theorem zC_eq : ∀ {k : Nat} {l r : List V}, zC k l = some r → l = List.replicate k (.int .i64 0) ++ r
  | 0, l, r, h => by simpa [zC] using h
  | k + 1, [], r, h => by cases h
  | k + 1, x :: l, r, h => by
    unfold zC at h
    split at h
    · rename_i hx
      rw [z1_eq hx, zC_eq h, List.replicate_succ, List.cons_append]
    · cases h
theorem zO_eq : ∀ {k m : Nat} {l : List V}, zO k m l = true → ∃ r, l = List.replicate (k * m) (.int .i64 0) ++ r
  | 0, m, l, _ => ⟨l, by simp⟩
  | k + 1, m, l, h => by
    unfold zO at h
    split at h
    · rename_i r hr
      obtain ⟨r2, h2⟩ := zO_eq h
      refine ⟨r2, ?_⟩
      rw [zC_eq hr, h2, ← List.append_assoc, List.replicate_append_replicate, Nat.succ_mul, Nat.add_comm]
    · cases h
def isIv (k : IntKind) (n : Nat) : Option V → Bool
  | some (.int k' (.ofNat m)) => decide (k = k') && Nat.beq m n
  | _ => false
theorem isIv_eq {k : IntKind} {n : Nat} {o : Option V} (h : isIv k n o = true) : o = some (.int k (n : Int)) := by
  unfold isIv at h
  split at h
  · simp only [Bool.and_eq_true, decide_eq_true_eq] at h
    obtain ⟨rfl, h⟩ := h
    rw [Nat.eq_of_beq_eq_true h]
    rfl
  · cases h
def isTwo : Option V → Bool
  | some (.slice _ n _) => Nat.beq n 2
  | _ => false
def tabB (h : Hp) (bt : Nat) : Option Nat :=
  match isTwo (load1 h bt 1), load1 h bt 8 with
  | true, some (.ptr (some (bm, o))) => if Nat.beq o 0 && isIv .i64 3 (load1 h bm 0) && isIv .u64 1 (load1 h bm 62) && isIv .u64 1 (load1 h bm 64) && isIv .u64 2 (load1 h bm 123) && isIv .u64 0 (load1 h bm 184) && Nat.blt bt h.next && Nat.blt bm h.next then some bm else none
  | _, _ => none
theorem tabB_tab {h : Hp} {bt bm : Nat} (hb : tabB h bt = some bm) {l : List Nat} (h1 : bt ∈ l) (h2 : bm ∈ l) : Tab (pick h l) bt := by
  unfold tabB at hb
  split at hb
  · rename_i bm' o e1 e2
    split at hb
    · rename_i hc
      cases hb
      simp only [Bool.and_eq_true] at hc
      obtain ⟨⟨⟨⟨⟨⟨⟨c0, c1⟩, c2⟩, c3⟩, c4⟩, c5⟩, c6⟩, c7⟩ := hc
      have c6 : bt < h.next := Nat.le_of_ble_eq_true c6
      have c7 : bm < h.next := Nat.le_of_ble_eq_true c7
      obtain rfl : o = 0 := Nat.eq_of_beq_eq_true c0
      refine ⟨by rw [pick_next]; exact c6, ?_, bm, by rw [pick_next]; exact c7, load1_pick h1 e2, load1_pick h2 (isIv_eq c1), load1_pick h2 (isIv_eq c2), load1_pick h2 (isIv_eq c3), load1_pick h2 (isIv_eq c4), load1_pick h2 (isIv_eq c5)⟩
      unfold isTwo at e1
      split at e1
      · rename_i a n c hl
        obtain rfl : n = 2 := Nat.eq_of_beq_eq_true e1
        exact ⟨a, c, load1_pick h1 hl⟩
      · cases e1
    · cases hb
  · cases hb
theorem flat_zeros (N : Nat) : ((List.replicate N (0 : Int)).map fun n => [iv n]).flatten = List.replicate N (iv 0) := by simp [List.map_replicate, List.flatten_replicate_singleton]
/-- The call: its arguments, what they lead to, what it returns. -/
def bigOf (f t e g7 : Nat) : FuncId → List V → Option Md → Hp → Option CR := fun g args md h =>
  match Nat.beq g f with
  | true => (match md, args with
    | none, [.ptr (some (bt, 0)), .slice (some (bl, o)) n c] => (match Nat.beq n 65536 && Nat.blt bl h.next && Nat.blt g7 h.next with
      | true => (match tabB h bt, load1 h g7 0, h.get bl with
        | some bm, some (.iface et (.ptr (some (ge, 0)))), some (.cells x) => (match Nat.blt ge h.next && zO 256 256 (x.l.drop o) with
          | true => some (.ret (bigV 65536 t h.next) none (h.new (bigB 65536 et ge e)))
          | false => none)
        | _, _, _ => none)
      | false => none)
    | _, _ => none)
  | false => none
variable {P : Program} {Y : Fns}
theorem bigOf_ok (H : VmHyp P Y) {f t e g7 : Nat} (hw : ∀ (h : Hp) (bt bl o et ge : Nat) (c : Cap), Tab h bt → Ints h (some (bl, o)) (List.replicate 65536 0) → load1 h g7 0 = some (.iface et (.ptr (some (ge, 0)))) → g7 < h.next →
      CW P Y f [.ptr (some (bt, 0)), .slice (some (bl, o)) 65536 c] none h (fun q => ∃ h' bn, Grow h h' ∧ h.next ≤ bn ∧ Own h' bn [.int .i64 (65536 : Nat), .iface et (.ptr (some (ge, 0)))] e ∧ q = .ret (.tuple [.agg [.int .i64 (65536 : Nat), .slice none 0 (.ex 0), .slice none 0 (.ex 0)], .iface t (.ptr (some (bn, 0)))]) none h'))
    (g : FuncId) (args : List V) (md : Option Md) (h : Hp) (r : CR) (hr : bigOf f t e g7 g args md h = some r) (rs : List Value) (kind : CallKind) (μ : PM) (w : World) (c0 cs : List Frame)
    (R : Rel P μ h w) (ha : VRs μ args rs) (hc : Cal μ kind c0 md cs) : COk P g kind c0 (lone (Frame.enter P g rs.toArray kind) cs w) μ h w r := by
  unfold bigOf at hr
  split at hr
  · rename_i hgf
    obtain rfl := Nat.eq_of_beq_eq_true hgf
    split at hr
    · rename_i bt bl o n c
      split at hr
      · rename_i hn
        simp only [Bool.and_eq_true] at hn
        obtain ⟨⟨hn1, hn2⟩, hn3⟩ := hn
        have hn2 : bl < h.next := Nat.le_of_ble_eq_true hn2
        have hn3 : g7 < h.next := Nat.le_of_ble_eq_true hn3
        obtain rfl : n = 65536 := Nat.eq_of_beq_eq_true hn1
        split at hr
        · rename_i bm et ge x e1 e2 e3
          split at hr
          · rename_i hz
            simp only [Bool.and_eq_true] at hz
            have hge : ge < h.next := Nat.le_of_ble_eq_true hz.1
            obtain ⟨rr, hrr⟩ := zO_eq hz.2
            cases hr
            have hT : Tab (pick h [bt, bm, bl, g7]) bt := tabB_tab e1 (by simp) (by simp)
            have hx := pick_mem (l := [bt, bm, bl, g7]) e3 (by simp)
            have hI : Ints (pick h [bt, bm, bl, g7]) (some (bl, o)) (List.replicate 65536 0) := by
              refine ⟨fun r hr => ?_, .inr ⟨bl, o, rfl, ⟨_, hx, ?_, ?_⟩, by rw [pick_next]; exact hn2⟩⟩
              · obtain ⟨y, _, rfl⟩ := List.mem_map.1 hr
                rfl
              · have := congrArg List.length hrr
                simp only [List.length_drop, List.length_append, List.length_replicate] at this
                rw [flat_zeros]
                rw [List.length_replicate]
                show o + 65536 ≤ x.l.length
                omega
              · rw [flat_zeros]
                rw [List.length_replicate]
                show (x.l.drop o).take 65536 = _
                rw [hrr, List.take_append_of_le_length (by rw [List.length_replicate]; omega), List.take_of_length_le (by rw [List.length_replicate]; omega)]
            refine big_ok H R ha hc (pick_next _ _) (fun b hb => pick_or h hb _) hge ((hw _ bt bl o et ge c hT hI (load1_pick (by simp) e2) (by rw [pick_next]; exact hn3)).mono fun q hq => ?_)
            obtain ⟨h', bn, g1, g2, g3, rfl⟩ := hq
            exact ⟨h', bn, g2, g3.is, rfl⟩
          · cases hr
        · cases hr
      · cases hr
    · cases hr
  · cases hr
end Go.Vm
