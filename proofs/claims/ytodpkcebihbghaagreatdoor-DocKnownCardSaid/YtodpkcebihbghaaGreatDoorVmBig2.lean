/- What is known of a call already, third part: a call that is shown once and for all for great lists; of what was there it looks at named blocks alone and turns nothing, and it returns one block of its own. -/
import Derived.Test.YtodpkcebihbghaaGreatDoorWpEnd
set_option linter.unusedVariables false
set_option linter.unusedSimpArgs false
namespace Go.Vm
open Go.RowKit
variable {P : Program} {μ : PM} {h : Hp} {w : World}
/-- A block that is looked at alone. -/
def rob (x : Blk) : Blk := { x with rw := false, frz := (0, 1) }
theorem ObR.rob {l : Loc} {x : Blk} (h : ObR P μ w l (.cells x)) : ObR P μ w l (.cells (rob x)) := by
  obtain ⟨c, e, fz, h1, h2, h3, h4, h5, h6, h7⟩ := h
  exact ⟨c, e, fz, h1, h2, fun h => (by cases h), fun h => (by cases h), fun _ h => (by cases h), fun _ h => (by cases h), fun _ h => absurd h (by show (0 : Nat) ≠ 1; omega)⟩
/-- A heap of which named blocks alone are alive. -/
def deadT : Nat → T Ob
  | 0 => .nil
  | n + 1 => (deadT n).set (Pos.of n) .dead
theorem deadT_get : ∀ {n b : Nat}, b < n → (deadT n).get (Pos.of b) = some .dead
  | n + 1, b, hb => by
    unfold deadT
    by_cases h : b = n
    · subst h
      exact T.get_set_same _ _ _
    · rw [T.get_set_ne (fun e => h (Pos.of_inj e).symm)]
      exact deadT_get (by omega)
def pick (h : Hp) : List Nat → Hp
  | [] => { t := deadT h.next, next := h.next }
  | b :: l => match h.get b with
    | some (.cells x) => (pick h l).put b (.cells (rob x))
    | _ => pick h l
theorem pick_next (h : Hp) : ∀ l, (pick h l).next = h.next
  | [] => rfl
  | b :: l => by
    unfold pick
    split
    · rw [next_put]; exact pick_next h l
    · exact pick_next h l
theorem pick_or (h : Hp) {b : Nat} (hb : b < h.next) : ∀ l, (pick h l).get b = some .dead ∨ ∃ x, h.get b = some (.cells x) ∧ (pick h l).get b = some (.cells (rob x))
  | [] => .inl (deadT_get hb)
  | c :: l => by
    unfold pick
    split
    · rename_i x hx
      by_cases hc : c = b
      · subst hc
        exact .inr ⟨x, hx, get_put_same _ _ _⟩
      · rw [get_put_ne _ hc]
        exact pick_or h hb l
    · exact pick_or h hb l
theorem pick_mem {h : Hp} {b : Nat} {x : Blk} (hx : h.get b = some (.cells x)) : ∀ {l : List Nat}, b ∈ l → (pick h l).get b = some (.cells (rob x))
  | c :: l, hm => by
    unfold pick
    by_cases hc : c = b
    · subst hc
      rw [hx]
      exact get_put_same _ _ _
    · have hm' : b ∈ l := by
        rcases List.mem_cons.1 hm with e | e
        · exact absurd e.symm hc
        · exact e
      split
      · rw [get_put_ne _ hc]
        exact pick_mem hx hm'
      · exact pick_mem hx hm'
end Go.Vm
/- What is known of a call already, fourth part: a call that turns named blocks, of which nothing is known afterwards, and returns a value without blocks. -/
namespace Go.Vm
open Go.RowKit
variable {P : Program} {μ : PM} {h : Hp} {w : World}
def kill (h : Hp) : List Nat → Hp
  | [] => h
  | b :: l => (kill h l).put b .dead
theorem kill_next (h : Hp) : ∀ l, (kill h l).next = h.next
  | [] => rfl
  | b :: l => kill_next h l
theorem kill_in (h : Hp) {b : Nat} : ∀ {l : List Nat}, b ∈ l → (kill h l).get b = some .dead
  | c :: l, hm => by
    unfold kill
    by_cases hc : c = b
    · subst hc
      exact get_put_same _ _ _
    · rw [get_put_ne _ hc]
      exact kill_in h ((List.mem_cons.1 hm).resolve_left fun e => hc e.symm)
theorem kill_out (h : Hp) {b : Nat} : ∀ {l : List Nat}, b ∉ l → (kill h l).get b = h.get b
  | [], _ => rfl
  | c :: l, hm => by
    unfold kill
    rw [get_put_ne _ fun e => hm (by rw [e]; exact List.mem_cons_self)]
    exact kill_out h fun e => hm (List.mem_cons_of_mem _ e)
/-- Named blocks as they are, over others. -/
def keepW (h q : Hp) : List Nat → Hp
  | [] => q
  | b :: l => match h.get b with
    | some o => (keepW h q l).put b o
    | none => keepW h q l
theorem keepW_next (h q : Hp) : ∀ l, (keepW h q l).next = q.next
  | [] => rfl
  | b :: l => by
    unfold keepW
    split
    · rw [next_put]; exact keepW_next h q l
    · exact keepW_next h q l
theorem keepW_in {h q : Hp} {b : Nat} {o : Ob} (ho : h.get b = some o) : ∀ {l : List Nat}, b ∈ l → (keepW h q l).get b = some o
  | c :: l, hm => by
    unfold keepW
    by_cases hc : c = b
    · subst hc
      rw [ho]
      exact get_put_same _ _ _
    · have hm' := (List.mem_cons.1 hm).resolve_left fun e => hc e.symm
      split
      · rw [get_put_ne _ hc]
        exact keepW_in ho hm'
      · exact keepW_in ho hm'
theorem keepW_out {h q : Hp} {b : Nat} : ∀ {l : List Nat}, b ∉ l → (keepW h q l).get b = q.get b
  | [], _ => rfl
  | c :: l, hm => by
    unfold keepW
    have hm' : b ∉ l := fun e => hm (List.mem_cons_of_mem _ e)
    split
    · rw [get_put_ne _ fun e => hm (by rw [e]; exact List.mem_cons_self)]
      exact keepW_out hm'
    · exact keepW_out hm'
/-- Each block is as it was, or looked at alone, or dead. -/
def Part (h h0 : Hp) (b : Nat) : Prop := h0.get b = some .dead ∨ (∃ x, h.get b = some (.cells x) ∧ h0.get b = some (.cells (rob x)))
theorem cut_w {h0 : Hp} {Kl : List Nat} (R : Rel P μ h w) (hn : h0.next = h.next) (hK : ∀ b, b < h.next → (b ∈ Kl ∧ h0.get b = h.get b) ∨ Part h h0 b) :
    Rel P μ h0 w ∧ (∀ ro r, Unw ro μ h r → Unw true μ h0 r) ∧ (∀ b l, μ b = some l → b ∉ Kl → h.get b ≠ some .dead → Unw true μ h0 l.r) := by
  have unw : ∀ ro r, Unw ro μ h r → Unw true μ h0 r := fun ro r u b l hb hr => by
    rcases hK b (R.dom b l hb) with ⟨_, g⟩ | g | ⟨x, g1, g2⟩
    · rw [g]
      rcases u b l hb hr with q | ⟨_, x, q1, q2⟩
      · exact .inl q
      · exact .inr ⟨rfl, x, q1, q2⟩
    · exact .inl g
    · exact .inr ⟨rfl, _, g2, rfl⟩
  refine ⟨⟨fun b l hb => ?_, fun b l hb => by rw [hn]; exact R.dom b l hb, fun b1 l1 b2 l2 e1 e2 hne hr => ?_, R.glob, R.low⟩, unw, fun b l hb hk hd b2 l2 hb2 hr => ?_⟩
  · obtain ⟨o, q1, q2⟩ := R.ob b l hb
    rcases hK b (R.dom b l hb) with ⟨_, g⟩ | g | ⟨x, g1, g2⟩
    · exact ⟨o, g.trans q1, q2⟩
    · exact ⟨_, g, trivial⟩
    · rw [g1] at q1
      cases q1
      exact ⟨_, g2, q2.rob⟩
  · have hs := R.sep b1 l1 b2 l2 e1 e2 hne hr
    rcases hK b1 (R.dom b1 l1 e1) with ⟨_, g⟩ | g | ⟨x, g1, g2⟩
    · rcases hK b2 (R.dom b2 l2 e2) with ⟨_, p⟩ | p | ⟨y, p1, p2⟩
      · rw [g, p]; exact hs
      · exact .inr (.inl p)
      · rcases hs with q | q | ⟨x1, x2, q1, q2, q3, q4, _⟩
        · exact .inl (g.trans q)
        · rw [p1] at q; cases q
        · exact .inr (.inr ⟨x1, _, g.trans q1, p2, q3, rfl, .inr (.inl (by show (0 : Nat) ≠ 1; omega))⟩)
    · exact .inl g
    · rcases hK b2 (R.dom b2 l2 e2) with ⟨_, p⟩ | p | ⟨y, p1, p2⟩
      · rcases hs with q | q | ⟨x1, x2, q1, q2, q3, q4, _⟩
        · rw [g1] at q; cases q
        · exact .inr (.inl (p.trans q))
        · exact .inr (.inr ⟨_, x2, g2, p.trans q2, rfl, q4, .inl (by show (0 : Nat) ≠ 1; omega)⟩)
      · exact .inr (.inl p)
      · exact .inr (.inr ⟨_, _, g2, p2, rfl, rfl, .inl (by show (0 : Nat) ≠ 1; omega)⟩)
  · by_cases he : b2 = b
    · subst he
      rcases hK b2 (R.dom b2 l2 hb2) with ⟨g, _⟩ | g | ⟨x, g1, g2⟩
      · exact absurd g hk
      · exact .inl g
      · exact .inr ⟨rfl, _, g2, rfl⟩
    · rcases hK b2 (R.dom b2 l2 hb2) with ⟨_, g⟩ | g | ⟨x, g1, g2⟩
      · rcases R.sep b l b2 l2 hb hb2 (Ne.symm he) hr.symm with q | q | ⟨x1, x2, q1, q2, q3, q4, _⟩
        · exact absurd q hd
        · exact .inl (g.trans q)
        · exact .inr ⟨rfl, x2, g.trans q2, q4⟩
      · exact .inl g
      · exact .inr ⟨rfl, _, g2, rfl⟩
theorem kill_ok {Y : Fns} (H : VmHyp P Y) {f : FuncId} {args : List V} {rs : List Value} {h0 : Hp} {kind : CallKind} {c0 cs : List Frame} {Kl : List Nat} {v : V} (R : Rel P μ h w) (ha : VRs μ args rs) (hc : Cal μ kind c0 none cs)
    (hn : h0.next = h.next) (hK : ∀ b, b < h.next → (b ∈ Kl ∧ h0.get b = h.get b) ∨ Part h h0 b) (hv : scalarV v = true)
    (hcw : CW P Y f args none h0 (fun q => ∃ h', q = .ret v none h')) :
    COk P f kind c0 (lone (Frame.enter P f rs.toArray kind) cs w) μ h w (.ret v none (kill h Kl)) := by
  cases hc with | none hk =>
  subst hk
  obtain ⟨R0, hu, hp⟩ := cut_w R hn hK
  obtain ⟨k, r, hr1, hr2, h', rfl⟩ := hcw
  have hcall := (H.evm k).call f args rs none .normal μ h0 w c0 c0 R0 ha (.none rfl)
  rw [hr1] at hcall
  obtain ⟨μ', w', cs', r, fr, k1, k2, k3, k4, k5, k6, k7, k8⟩ := hcall
  have hcs := k4.normal_inv rfl
  subst hcs
  have R2 : Rel P μ (kill h Kl) w' := by
    refine ⟨fun b l hb => ?_, fun b l hb => by rw [kill_next]; exact R.dom b l hb, fun b1 l1 b2 l2 e1 e2 hne hr => ?_, R.glob, fun b l hb => Nat.lt_of_lt_of_le (R.low b l hb) k1.size⟩
    · by_cases hm : b ∈ Kl
      · exact ⟨_, kill_in h hm, trivial⟩
      · obtain ⟨o, q1, q2⟩ := R.ob b l hb
        refine ⟨o, (kill_out h hm).trans q1, ?_⟩
        by_cases hd : o = .dead
        · subst hd; trivial
        · exact q2.frame (.refl _) (k1.frame true l.r (R.low b l hb) (hp b l hb hm (fun e => hd (by rw [q1] at e; exact Option.some.inj e)))).1
    · by_cases hm1 : b1 ∈ Kl
      · exact .inl (kill_in h hm1)
      · by_cases hm2 : b2 ∈ Kl
        · exact .inr (.inl (kill_in h hm2))
        · rw [kill_out h hm1, kill_out h hm2]
          exact R.sep b1 l1 b2 l2 e1 e2 hne hr
  have E2 : Ext μ h w μ (kill h Kl) w' := by
    refine ⟨.refl _, by rw [kill_next]; exact Nat.le_refl _, fun b l hb => .inl hb, k1.os, k1.tape, k1.output, k1.size, fun ro r hr u => ⟨(k1.frame true r hr (hu ro r u)).1, fun b l hb hlr => ?_⟩⟩
    by_cases hm : b ∈ Kl
    · exact .inl (kill_in h hm)
    · rw [kill_out h hm]
      exact u b l hb hlr
  exact ⟨μ, w', _, _, fr, E2, R2, k3.scalar hv, .none rfl, k5, k6, k7, k8⟩
end Go.Vm
