/- What is known of a call already, third part: a call that is shown once and for all for great lists; of what was there it looks at named blocks alone and turns nothing, and it returns one block of its own. -/
import Derived.Test.YtmkhdddeikoceaaGreatDoorWpEnd
set_option linter.unusedVariables false
set_option linter.unusedSimpArgs false
namespace Go.Vm
open Go.RowKit
variable {P : Program} {μ : PM} {h : Hp} {w : World}
/-- A block that is looked at alone. -/
def rob (x : Blk) : Blk := { x with rw := false, frz := (0, 1) }
theorem ObR.rob {l : Loc} {x : Blk} (h : ObR P μ w l (.cells x)) : ObR P μ w l (.cells (rob x)) := by
  obtain ⟨c, e, fz, h1, h2, h3, h4, h5, h6, h7⟩ := h
  exact ⟨c, e, fz, h1, h2, fun h => (by cases h), fun h => (by cases h), fun _ h => (by cases h), fun _ h => (by cases h), fun _ h => absurd h (by show (0 : Nat) ≠ 1; omega)⟩
theorem cut_ro {h0 : Hp} (R : Rel P μ h w) (hn : h0.next = h.next) (hK : ∀ b, b < h.next → h0.get b = some .dead ∨ ∃ x, h.get b = some (.cells x) ∧ h0.get b = some (.cells (rob x))) :
    Rel P μ h0 w ∧ ∀ r, Unw true μ h0 r := by
  refine ⟨⟨fun b l hb => ?_, fun b l hb => by rw [hn]; exact R.dom b l hb, fun b1 l1 b2 l2 e1 e2 hne hr => ?_, R.glob, R.low⟩, fun r b l hb hr => ?_⟩
  · rcases hK b (R.dom b l hb) with g1 | ⟨x, g1, g2⟩
    · exact ⟨_, g1, trivial⟩
    · obtain ⟨o, q1, q2⟩ := R.ob b l hb
      rw [g1] at q1
      cases q1
      exact ⟨_, g2, q2.rob⟩
  · rcases hK b1 (R.dom b1 l1 e1) with g1 | ⟨x, g1, g2⟩
    · exact .inl g1
    · rcases hK b2 (R.dom b2 l2 e2) with p1 | ⟨y, p1, p2⟩
      · exact .inr (.inl p1)
      · exact .inr (.inr ⟨_, _, g2, p2, rfl, rfl, .inl (by show (0 : Nat) ≠ 1; omega)⟩)
  · rcases hK b (R.dom b l hb) with g1 | ⟨x, g1, g2⟩
    · exact .inl g1
    · exact .inr ⟨rfl, _, g2, rfl⟩
/-- A heap of which named blocks alone are alive. -/
def deadT : Nat → T Ob
  | 0 => .nil
  | n + 1 => (deadT n).set (Pos.of n) .dead
theorem deadT_get : ∀ {n b : Nat}, b < n → (deadT n).get (Pos.of b) = some .dead
  | n + 1, b, hb => by
    unfold deadT
    by_cases h : b = n
    · subst h
      exact T.get_set_same _ _ _
    · rw [T.get_set_ne (fun e => h (Pos.of_inj e).symm)]
      exact deadT_get (by omega)
def pick (h : Hp) : List Nat → Hp
  | [] => { t := deadT h.next, next := h.next }
  | b :: l => match h.get b with
    | some (.cells x) => (pick h l).put b (.cells (rob x))
    | _ => pick h l
theorem pick_next (h : Hp) : ∀ l, (pick h l).next = h.next
  | [] => rfl
  | b :: l => by
    unfold pick
    split
    · rw [next_put]; exact pick_next h l
    · exact pick_next h l
theorem pick_or (h : Hp) {b : Nat} (hb : b < h.next) : ∀ l, (pick h l).get b = some .dead ∨ ∃ x, h.get b = some (.cells x) ∧ (pick h l).get b = some (.cells (rob x))
  | [] => .inl (deadT_get hb)
  | c :: l => by
    unfold pick
    split
    · rename_i x hx
      by_cases hc : c = b
      · subst hc
        exact .inr ⟨x, hx, get_put_same _ _ _⟩
      · rw [get_put_ne _ hc]
        exact pick_or h hb l
    · exact pick_or h hb l
theorem pick_mem {h : Hp} {b : Nat} {x : Blk} (hx : h.get b = some (.cells x)) : ∀ {l : List Nat}, b ∈ l → (pick h l).get b = some (.cells (rob x))
  | c :: l, hm => by
    unfold pick
    by_cases hc : c = b
    · subst hc
      rw [hx]
      exact get_put_same _ _ _
    · have hm' : b ∈ l := by
        rcases List.mem_cons.1 hm with e | e
        · exact absurd e.symm hc
        · exact e
      split
      · rw [get_put_ne _ hc]
        exact pick_mem hx hm'
      · exact pick_mem hx hm'
theorem load1_pick {h : Hp} {b o : Nat} {v : V} {l : List Nat} (hm : b ∈ l) (hv : load1 h b o = some v) : load1 (pick h l) b o = some v := by
  unfold load1 at hv ⊢
  split at hv
  · rename_i x hx
    rw [pick_mem hx hm]
    exact hv
  · cases hv
/-- What the call returns: numbers and empty lists, and a pointer to a new block in an interface value. -/
def bigV (n : Nat) (t b : Nat) : V := .tuple [.agg [.int .i64 n, .slice none 0 (.ex 0), .slice none 0 (.ex 0)], .iface t (.ptr (some (b, 0)))]
def bigB (n : Nat) (et ge e : Nat) : Ob := newBlk [.int .i64 n, .iface et (.ptr (some (ge, 0)))] e
theorem big_ok {Y : Fns} (H : VmHyp P Y) {f : FuncId} {args : List V} {rs : List Value} {h0 : Hp} {kind : CallKind} {c0 cs : List Frame} {n t et ge e : Nat} (R : Rel P μ h w) (ha : VRs μ args rs) (hc : Cal μ kind c0 none cs)
    (hn : h0.next = h.next) (hK : ∀ b, b < h.next → h0.get b = some .dead ∨ ∃ x, h.get b = some (.cells x) ∧ h0.get b = some (.cells (rob x))) (hge : ge < h.next)
    (hcw : CW P Y f args none h0 (fun q => ∃ h' bn, h0.next ≤ bn ∧ h'.get bn = some (bigB n et ge e) ∧ q = .ret (bigV n t bn) none h')) :
    COk P f kind c0 (lone (Frame.enter P f rs.toArray kind) cs w) μ h w (.ret (bigV n t h.next) none (h.new (bigB n et ge e))) := by
  cases hc with | none hk =>
  subst hk
  obtain ⟨R0, hu⟩ := cut_ro R hn hK
  obtain ⟨k, r, hr1, hr2, h', bn, hbn, hob, rfl⟩ := hcw
  have hcall := (H.evm k).call f args rs none .normal μ h0 w c0 c0 R0 ha (.none rfl)
  rw [hr1] at hcall
  obtain ⟨μ', w', cs', r, fr, k1, k2, k3, k4, k5, k6, k7, k8⟩ := hcall
  have hcs := k4.normal_inv rfl
  subst hcs
  have hsame : ∀ r, r < w.heap.size → w'.heap[r]? = w.heap[r]? := fun r hr => (k1.frame true r hr (hu r)).1
  -- the value
  cases k3 with | tuple hl =>
  cases hl with | cons hl1 hl =>
  cases hl with | cons hl2 hl =>
  cases hl
  cases hl2 with | iface hp =>
  cases hp with | @ptr _ _ lb hμ =>
  let ν : PM := fun b => if b = h.next then some lb else μ b
  have hνn : ν h.next = some lb := if_pos rfl
  have hle : μ.le ν := fun b l hb => by
    show (if b = h.next then some lb else μ b) = some l
    rw [if_neg (Nat.ne_of_lt (R.dom b l hb))]
    exact hb
  have hinv : ∀ b l, ν b = some l → (b = h.next ∧ l = lb) ∨ (b < h.next ∧ μ b = some l) := fun b l hb => by
    have hb' : (if b = h.next then some lb else μ b) = some l := hb
    split at hb'
    · rename_i he; exact .inl ⟨he, (Option.some.inj hb').symm⟩
    · exact .inr ⟨R.dom b l hb', hb'⟩
  obtain ⟨o, q1, q2⟩ := k2.ob bn lb hμ
  rw [hob] at q1
  cases q1
  have hnew : w.heap.size ≤ lb.r := by
    rcases Nat.lt_or_ge lb.r w.heap.size with hlt | hge'
    · rcases (k1.frame true lb.r hlt (hu _)).2 bn lb hμ rfl with q | ⟨_, x, q, q3⟩
      · rw [hob] at q; cases q
      · rw [hob] at q
        cases q
        cases q3
    · exact hge'
  have hobn : ObR P ν w' lb (bigB n et ge e) := by
    obtain ⟨c, e', fz, h1, h2, h3, h4, h5, h6, h7⟩ := q2
    refine ⟨c, e', fz, h1, fun i v hv => ?_, h3, h4, h5, h6, h7⟩
    obtain ⟨r, g1, g2⟩ := h2 i v hv
    refine ⟨r, g1, ?_⟩
    match i, hv with
    | 0, hv =>
      cases hv
      cases g2
      exact .int _ _
    | 1, hv =>
      cases hv
      cases g2 with | iface g2 =>
      cases g2 with | @ptr _ _ lg hg =>
      refine .iface (.ptr (hle _ _ ?_))
      rcases k1.new _ _ hg with hx | hx
      · exact hx
      · omega
  have R2 : Rel P ν (h.new (bigB n et ge e)) w' := by
    refine ⟨fun b l hb => ?_, fun b l hb => ?_, fun b1 l1 b2 l2 e1 e2 hne hr => ?_, fun g hg => hle _ _ (R.glob g hg), fun b l hb => ?_⟩
    · rcases hinv b l hb with ⟨rfl, rfl⟩ | ⟨k1', k2'⟩
      · exact ⟨_, get_new_same _ _, hobn⟩
      · obtain ⟨o, q1, q2⟩ := R.ob b l k2'
        exact ⟨o, (get_new _ k1').trans q1, q2.frame hle (hsame _ (R.low b l k2'))⟩
    · rw [next_new]
      rcases hinv b l hb with ⟨rfl, rfl⟩ | ⟨k1', k2'⟩
      · omega
      · omega
    · rcases hinv b1 l1 e1 with ⟨rfl, rfl⟩ | ⟨m1, m2⟩
      · rcases hinv b2 l2 e2 with ⟨rfl, rfl⟩ | ⟨p1, p2⟩
        · exact absurd rfl hne
        · have := R.low b2 l2 p2
          omega
      · rcases hinv b2 l2 e2 with ⟨rfl, rfl⟩ | ⟨p1, p2⟩
        · have := R.low b1 l1 m2
          omega
        · rw [get_new _ m1, get_new _ p1]
          exact R.sep b1 l1 b2 l2 m2 p2 hne hr
    · rcases hinv b l hb with ⟨rfl, rfl⟩ | ⟨k1', k2'⟩
      · exact k2.low bn _ hμ
      · exact Nat.lt_of_lt_of_le (R.low b l k2') k1.size
  have E2 : Ext μ h w ν (h.new (bigB n et ge e)) w' := by
    refine ⟨hle, Nat.le_succ _, fun b l hb => ?_, k1.os, k1.tape, k1.output, k1.size, fun ro r hr u => ⟨hsame r hr, fun b l hb hlr => ?_⟩⟩
    · rcases hinv b l hb with ⟨rfl, rfl⟩ | ⟨m1, m2⟩
      · exact .inr (Nat.le_refl _)
      · exact .inl m2
    · rcases hinv b l hb with ⟨rfl, rfl⟩ | ⟨m1, m2⟩
      · omega
      · rw [get_new _ m1]
        exact u b l m2 hlr
  have hagg : ∀ {r}, VR μ' (.agg [.int .i64 n, .slice none 0 (.ex 0), .slice none 0 (.ex 0)]) r → VR ν (.agg [.int .i64 n, .slice none 0 (.ex 0), .slice none 0 (.ex 0)]) r := fun h => by
    cases h with | agg h =>
    cases h with | cons h1 h =>
    cases h with | cons h2 h =>
    cases h with | cons h3 h =>
    cases h
    exact .agg (.cons (h1.scalar rfl) (.cons (h2.scalar rfl) (.cons (h3.scalar rfl) .nil)))
  exact ⟨ν, w', _, _, fr, E2, R2, .tuple (.cons (hagg hl1) (.cons (.iface (.ptr hνn)) .nil)), .none rfl, k5, k6, k7, k8⟩
end Go.Vm
