/- What is known of a call already, second part: a function without arguments that turns nothing and returns data of its own making, run once from the start; its blocks are laid at the heap's end. -/
import Derived.Test.YtdkcppbjpmepbaaGreatDoorVmSum
set_option linter.unusedVariables false
set_option linter.unusedSimpArgs false
namespace Go.Vm
open Go.RowKit
variable {P : Program} {μ : PM} {h : Hp} {w : World}

/-- From here the frame of f0 comes to an end that returns v, in the heap he. -/
def GoesF (P : Program) (f0 : FuncId) (v : V) (he : Hp) (c : Cfg) : Prop :=
  ∀ (w0 : World) (μ : PM) (c0 : List Frame) (m : Machine) (w : World), CfgR P μ f0 c0 c m w → Kept w0 μ c.s.h w →
    ∃ w' fr μ' r, Kept w0 μ' he w' ∧ Rel P μ' he w' ∧ VR μ' v r ∧ StepsIn I0 P m (lone fr c0 w') ∧ fr.fn = f0 ∧ fr.leaving P w' (.returned r)
theorem goesF_chunk {X : Fns} (H : VmHyp P X) {f0 : FuncId} {N G : Nat} {v : V} {he : Hp} {l : List Cmd} {c : Cfg} {x : Cut} (hG : P.globals.size = G)
    (hr : runC (Mach.fast P X N) l c = x.fill (runC (Mach.fast P X N) l c) ∧ agreeC lookF G x (mkT x.hl) (runC (Mach.fast P X N) l c) = true) (hg : cfgOk P x.cfg → GoesF P f0 v he x.cfg) (hok : cfgOk P c) : GoesF P f0 v he c := by
  obtain ⟨h1, h2⟩ := hr
  rw [Mach.fast_eq] at h1 h2
  rw [lookF_eq] at h2
  subst hG
  cases hc : runC (Mach.std P X (evN P X N)) l c with
  | none => rw [hc] at h2; cases h2
  | some c1 =>
    rw [hc] at h1 h2
    simp only [Cut.fill, Option.some.injEq] at h1
    simp only [agreeC, Bool.and_eq_true] at h2
    obtain ⟨st, f, nt, k, s⟩ := c1
    simp only [Cfg.mk.injEq] at h1
    obtain ⟨e1, rfl, rfl, rfl, -⟩ := h1
    intro w0 μ c0 m w hR hK
    obtain ⟨g1, μ', w', m', g2, g3, g4⟩ := run_sound (H.ev N) (ext_ok H.ext) H.num H.fns l c _ hc hok hR
    obtain ⟨b, a, cs, rfl, q1, q2, q3, q4, q5⟩ := g3
    obtain ⟨a1, a2⟩ := agree_sound' h2.1 q4
    have hk' := hK.ext g2
    have hst := stR_cut _ _ _ _ h2.2 e1 q5
    obtain ⟨w2, fr, μ2, r, m1, m0, m2, m3, m4⟩ := hg ⟨g1.1, g1.2.1, suspOk_cut _ _ (stSame_len _ _ h2.2) e1 g1.2.2⟩ w0 _ c0 _ w' ⟨b, a, cs, rfl, q1, q2, q3, a1, hst⟩ ⟨hk'.os, hk'.tape, hk'.output, hk'.size, fun r hr => ⟨(hk'.same r hr).1, a2 r (hk'.same r hr).2⟩⟩
    exact ⟨w2, fr, μ2, r, m1, m0, m2, g4.trans m3, m4⟩
def s0of (h : Hp) : S := { F := .nil, ds := [], md := none, h }
def endF (X : Look) (G : Nat) (M : Mach) (v : V) (hl : List (Nat × Ob)) (t : T Ob) (nx : Nat) (r : Option Cfg) : Bool := match r with
  | some c => c.st.isEmpty && (match c.k with | .code .ret :: _ => true | _ => false) && (match M.fn c.f with
    | some fn => (match M.leave fn c.s with
      | .ret v' _ h' => V.beq v' v && V.kept (fun b => (X.kg t b).isSome) v && agree X G 0 (s0of h') [] [] hl t nx
      | _ => false)
    | none => false)
  | none => false
theorem goesF_ret {X : Fns} (H : VmHyp P X) {f0 : FuncId} {N G : Nat} {v : V} {hl : List (Nat × Ob)} {nx : Nat} {l : List Cmd} {c : Cfg} (hG : P.globals.size = G)
    (hr : endF lookF G (Mach.fast P X N) v hl (mkT hl) nx (runC (Mach.fast P X N) l c) = true) (hok : cfgOk P c) : GoesF P f0 v { t := mkT hl, next := nx } c := by
  rw [Mach.fast_eq, lookF_eq] at hr
  subst hG
  cases hc : runC (Mach.std P X (evN P X N)) l c with
  | none => rw [hc] at hr; cases hr
  | some c1 =>
    rw [hc] at hr
    simp only [endF, Bool.and_eq_true, List.isEmpty_iff] at hr
    obtain ⟨⟨e1, e2⟩, e3⟩ := hr
    intro w0 μ c0 m w hR hK
    obtain ⟨g1, μ', w', m', g2, g3, g4⟩ := run_sound (H.ev N) (ext_ok H.ext) H.num H.fns l c _ hc hok hR
    obtain ⟨b, a, cs, rfl, q1, q2, q3, q4, q5⟩ := g3
    rw [e1] at q5
    obtain ⟨q5, rfl⟩ := q5
    split at e3
    · rename_i fn hf
      have hf' : P.funcs[c1.f]? = some fn := hf
      split at e2
      · rename_i k hk
        split at e3
        · rename_i v' md h' hl
          simp only [Bool.and_eq_true] at e3
          obtain ⟨⟨e3, e4⟩, e5⟩ := e3
          rw [V.beq_eq _ _ e3] at hl
          have hl' : leaveV P (evN P X N) fn c1.s.F none c1.s.ds .returning c1.s.h = .ret v md h' := hl
          have hlv := leave_sound (H.ev N) H.num (n := c1.nt) (kind := .normal) (c0 := cs) (omd := none) (F := c1.s.F) hf' (fnOk_res g1.1 hf').2.2 c1.s.ds .returning c1.s.h μ' w' { b.atR a (.code .ret :: k) with mode := .returning } cs q4.rel q4.fr q4.df trivial q1 q2 (.none rfl)
          rw [hl'] at hlv
          obtain ⟨μ2, w2, cs2, r, fr, x1, x2, x3, x4, x5, x6, x7, x8⟩ := hlv
          obtain rfl := x4.normal_inv rfl
          have hk2 := (hK.ext g2).ext x1
          obtain ⟨y1, y2, y3⟩ := x8
          rw [hk] at g4
          obtain ⟨a1, a2⟩ := agree_sound' (nt := 0) (μ := μ2) (w := w2) (a := { tmps := #[], defers := [] }) (cs := []) e5 ⟨x2, ⟨rfl, fun i hi => absurd hi (Nat.not_lt_zero _)⟩, trivial, .none rfl⟩
          exact ⟨w2, fr, _, r, ⟨hk2.os, hk2.tape, hk2.output, hk2.size, fun r hr => ⟨(hk2.same r hr).1, a2 r (hk2.same r hr).2⟩⟩, a1.rel, x3.keep e4, g4.trans (.head trivial (stepR_ret q3) x5), by rw [x6, q5], y1, y2, x7, y3⟩
        · cases e3
      · cases e2
    · cases e3

/-! ### Blocks laid elsewhere -/
mutual
def V.up (n d : Nat) : V → V
  | .ptr (some (b, o)) => .ptr (some (b - n + d, o))
  | .slice (some (b, o)) l c => .slice (some (b - n + d, o)) l c
  | .map (some b) => .map (some (b - n + d))
  | .yield b => .yield (b - n + d)
  | .func f a b => .func f (V.ups n d a) (V.ups n d b)
  | .iface t a => .iface t (V.up n d a)
  | .agg l => .agg (V.ups n d l)
  | .tuple l => .tuple (V.ups n d l)
  | v => v
def V.ups (n d : Nat) : List V → List V
  | [] => []
  | x :: l => V.up n d x :: V.ups n d l
end
theorem ups_map (n d : Nat) : ∀ l : List V, V.ups n d l = l.map (V.up n d)
  | [] => rfl
  | x :: l => by simp [V.ups, ups_map n d l]
theorem VR.up {K : Nat → Bool} {ν : PM} {n d : Nat} (hK : ∀ b l, K b = true → μ b = some l → ν (b - n + d) = some l) {v : V} {r : Value} (h : VR μ v r) (hs : V.kept K v = true) : VR ν (V.up n d v) r := by
  refine VR.rec (μ := μ) (motive_1 := fun v r _ => V.kept K v = true → VR ν (V.up n d v) r) (motive_2 := fun l m _ => V.kepts K l = true → VRs ν (V.ups n d l) m)
    ?_ ?_ ?_ ?_ ?_ ?_ ?_ ?_ ?_ ?_ ?_ ?_ ?_ ?_ ?_ ?_ ?_ ?_ h hs
  · intro b _; exact .bool b
  · intro k n _; exact .int k n
  · intro s _; exact .str s
  · intro _; exact .ptrN
  · intro b o l h hs; exact .ptr (hK _ _ (by simpa [V.kept] using hs) h)
  · intro n c h _; exact .sliceN h
  · intro b o len cap c l a h hc hl ha hs; exact .slice (hK _ _ (by simpa [V.kept] using hs) h) hc hl ha
  · intro _; exact .mapN
  · intro b l h hs; exact .map (hK _ _ (by simpa [V.kept] using hs) h)
  · intro f fs cs fs' cs' _ _ h1 h2 hs
    simp only [V.kept, Bool.and_eq_true] at hs
    exact .func (h1 hs.1) (h2 hs.2)
  · intro b l h hs; exact .yield (hK _ _ (by simpa [V.kept] using hs) h)
  · intro _; exact .nilFunc
  · intro t v v' _ h1 hs; exact .iface (h1 (by simpa [V.kept] using hs))
  · intro _; exact .nilIface
  · intro l l' _ h1 hs; exact .agg (h1 (by simpa [V.kept] using hs))
  · intro l l' _ h1 hs; exact .tuple (h1 (by simpa [V.kept] using hs))
  · intro _; exact .nil
  · intro v l v' l' _ _ h1 h2 hs
    simp only [V.kepts, Bool.and_eq_true] at hs
    exact .cons (h1 hs.1) (h2 hs.2)
def Ob.up (n d : Nat) : Ob → Ob
  | .cells x => .cells { x with l := V.ups n d x.l }
  | .map es k => .map (es.map fun e => (V.up n d e.1, V.up n d e.2.1, e.2.2)) k
  | o => o
def obNew (K : Nat → Bool) : Ob → Bool
  | .cells x => x.rw && V.kepts K x.l
  | .map es _ => es.all fun e => V.kept K e.1 && V.kept K e.2.1
  | .dead => true
  | _ => false
theorem ObR.up {K : Nat → Bool} {ν : PM} {n d : Nat} (hK : ∀ b l, K b = true → μ b = some l → ν (b - n + d) = some l) {l : Loc} {o : Ob} (h : ObR P μ w l o) (hk : obNew K o = true) : ObR P ν w l (o.up n d) := by
  cases o with
  | cells x =>
    simp only [obNew, Bool.and_eq_true] at hk
    obtain ⟨c, e, fz, h1, h2, h3, h4, h5, h6, h7⟩ := h
    have hlen : (V.ups n d x.l).length = x.l.length := by rw [ups_map, List.length_map]
    refine ⟨c, e, fz, h1, fun i v hv => ?_, h3, h4, fun a b => ?_, fun a b => ?_, h7⟩
    · dsimp only at hv
      rw [ups_map, List.getElem?_map] at hv
      cases hx : x.l[i]? with
      | none => rw [hx] at hv; cases hv
      | some v0 =>
        rw [hx] at hv
        cases hv
        obtain ⟨r, k1, k2⟩ := h2 i v0 hx
        rw [kepts_all] at hk
        exact ⟨r, k1, k2.up hK (List.all_eq_true.1 hk.2 v0 (List.mem_of_getElem? hx))⟩
    · dsimp only; rw [hlen]; exact h5 a b
    · dsimp only; rw [hlen]; exact h6 a b
  | map es k =>
    obtain ⟨a, h1, h2⟩ := h
    refine ⟨a, h1, ?_⟩
    have hk' : ∀ e ∈ es, V.kept K e.1 = true ∧ V.kept K e.2.1 = true := fun e he => by
      have := List.all_eq_true.1 hk e he
      simpa using this
    generalize a.toList = m at h2
    clear hk h1
    induction es generalizing m with
    | nil => cases m with | nil => trivial | cons _ _ => exact h2.elim
    | cons e es ih =>
      obtain ⟨k, v, b⟩ := e
      cases m with
      | nil => exact h2.elim
      | cons y m =>
        obtain ⟨q1, q2, q3, q4⟩ := h2
        have := hk' (k, v, b) List.mem_cons_self
        exact ⟨q1.up hK this.1, q2.up hK this.2, q3, ih (fun e he => hk' e (List.mem_cons_of_mem _ he)) m q4⟩
  | dead => trivial
  | loop _ => cases hk
  | deferred b => cases hk
/-- The blocks from n on, laid from d on. -/
def paste (n d : Nat) : List (Nat × Ob) → T Ob → T Ob
  | [], t => t
  | (b, o) :: l, t => match Nat.ble n b with
    | true => (paste n d l t).set (Pos.of (b - n + d)) (o.up n d)
    | false => paste n d l t
theorem paste_low {n d : Nat} (t : T Ob) {c : Nat} (hc : c < d) : ∀ l : List (Nat × Ob), (paste n d l t).get (Pos.of c) = t.get (Pos.of c)
  | [] => rfl
  | (b, o) :: l => by
    simp only [paste]
    split
    · rw [T.get_set_ne (fun e => by have := Pos.of_inj e; omega)]; exact paste_low t hc l
    · exact paste_low t hc l
theorem paste_hi {n d : Nat} (t : T Ob) {c : Nat} {o : Ob} (hc : n ≤ c) : ∀ l : List (Nat × Ob), (mkT l).get (Pos.of c) = some o → (paste n d l t).get (Pos.of (c - n + d)) = some (o.up n d)
  | [], h => by simp [mkT, T.get_nil] at h
  | (b, q) :: l, h => by
    simp only [mkT] at h
    simp only [paste]
    by_cases hb : b = c
    · subst hb
      rw [T.get_set_same] at h
      cases h
      rw [Nat.ble_eq_true_of_le hc]
      exact T.get_set_same _ _ _
    · rw [T.get_set_ne (fun e => hb (Pos.of_inj e))] at h
      split
      · rename_i hnb
        have := Nat.le_of_ble_eq_true hnb
        rw [T.get_set_ne (fun e => by have := Pos.of_inj e; omega)]
        exact paste_hi t hc l h
      · exact paste_hi t hc l h
def newKeys (n : Nat) (t : T Ob) : Nat → Bool := fun b => Nat.ble n b && (t.get (Pos.of b)).isSome
def newFit (n nx : Nat) (v : V) (hl : List (Nat × Ob)) : Bool := Nat.ble n nx && V.kept (newKeys n (mkT hl)) v && hl.all fun e => !Nat.ble n e.1 || obNew (newKeys n (mkT hl)) e.2
theorem new_ok {f : FuncId} {fn : Func} {c : Code} {v : V} {hl he : List (Nat × Ob)} {n nx : Nat} (hf : P.funcs[f]? = some fn) (hb : fn.body = some c) (hok : startFit P.globals.size hl n = true) (hnew : newFit n nx v he = true)
    (hg : GoesF P f v { t := mkT he, next := nx } { st := [], f := f, nt := fn.ntmps, k := [.code c], s := { F := .nil, ds := [], md := none, h := { t := mkT hl, next := n } } })
    (hhas : startHas hl h = true) (R : Rel P μ h w) {c0 cs : List Frame} {kind : CallKind} (hc : Cal μ kind c0 none cs) :
    COk P f kind c0 (lone (Frame.enter P f #[] kind) cs w) μ h w (.ret (V.up n h.next v) none { t := paste n h.next he h.t, next := h.next + (nx - n) }) := by
  cases hc with | none hk =>
  subst hk
  obtain ⟨R0, hu⟩ := start_cut hok hhas R
  let b : Frame := { (default : Frame) with fn := f, kind := .normal, roundOf := none }
  have henter : Frame.enter P f #[] .normal = b.atR { tmps := #[] ++ Array.replicate (fn.ntmps - (#[] : Array Value).size) undef, defers := [] } [.code c] := by
    simp [Frame.enter, Frame.atR, hf, hb, b]
  have hfr := enter_fr (μ := μ.keep (startKeys (mkT hl))) (args := []) (rs := []) .nil (n := fn.ntmps) (Nat.zero_le _)
  obtain ⟨w', fr, μ', r, h1, h2, h3, h4, h5, h6⟩ := hg w _ c0 _ w ⟨b, { tmps := #[] ++ Array.replicate (fn.ntmps - (#[] : Array Value).size) undef, defers := [] }, c0, rfl, rfl, rfl, rfl, ⟨R0, hfr, trivial, .none rfl⟩, rfl, rfl⟩ ⟨rfl, rfl, rfl, Nat.le_refl _, fun r _ => ⟨rfl, hu r⟩⟩
  unfold newFit at hnew
  simp only [Bool.and_eq_true, List.all_eq_true, Bool.or_eq_true, Bool.not_eq_true'] at hnew
  obtain ⟨⟨hn1, hn2⟩, hn3⟩ := hnew
  have hnx := Nat.le_of_ble_eq_true hn1
  let ν : PM := fun b => if b < h.next then μ b else μ' (b - h.next + n)
  have hlow : ∀ b l, μ b = some l → ν b = some l := fun b l hb => by
    show (if b < h.next then μ b else _) = _
    rw [if_pos (R.dom b l hb)]; exact hb
  have hK : ∀ b l, newKeys n (mkT he) b = true → μ' b = some l → ν (b - n + h.next) = some l := fun b l hb hl => by
    have : n ≤ b := by
      simp only [newKeys, Bool.and_eq_true] at hb
      exact Nat.le_of_ble_eq_true hb.1
    show (if b - n + h.next < h.next then _ else μ' (b - n + h.next - h.next + n)) = _
    rw [if_neg (by omega), show b - n + h.next - h.next + n = b by omega]
    exact hl
  have hinv : ∀ b l, ν b = some l → (b < h.next ∧ μ b = some l) ∨ (h.next ≤ b ∧ μ' (b - h.next + n) = some l) := fun b l hb => by
    have hb' : (if b < h.next then μ b else μ' (b - h.next + n)) = some l := hb
    split at hb'
    · rename_i hlt; exact .inl ⟨hlt, hb'⟩
    · rename_i hlt; exact .inr ⟨by omega, hb'⟩
  let h2' : Hp := { t := paste n h.next he h.t, next := h.next + (nx - n) }
  have gold : ∀ b, b < h.next → h2'.get b = h.get b := fun b hb => paste_low h.t hb he
  have hobn : ∀ b o, n ≤ b → (mkT he).get (Pos.of b) = some o → obNew (newKeys n (mkT he)) o = true := fun b o hb ho => by
    rcases hn3 _ (mkT_mem he b o ho) with h7 | h7
    · rw [Nat.ble_eq_true_of_le hb] at h7; cases h7
    · exact h7
  have gnew : ∀ b l, h.next ≤ b → μ' (b - h.next + n) = some l → ∃ o, (mkT he).get (Pos.of (b - h.next + n)) = some o ∧ obNew (newKeys n (mkT he)) o = true ∧ ObR P μ' w' l o ∧ h2'.get b = some (o.up n h.next) := fun b l hb hl => by
    obtain ⟨o, k1, k2⟩ := h2.ob _ _ hl
    refine ⟨o, k1, hobn _ _ (by omega) k1, k2, ?_⟩
    have := paste_hi (n := n) (d := h.next) h.t (by omega) he k1
    rwa [show b - h.next + n - n + h.next = b by omega] at this
  -- a block of its own that lies where there was something is dead
  have hdead : ∀ b l, h.next ≤ b → μ' (b - h.next + n) = some l → l.r < w.heap.size → h2'.get b = some .dead := fun b l hb hl hr => by
    obtain ⟨o, k1, k2, k3, k4⟩ := gnew b l hb hl
    rcases (h1.same l.r hr).2 _ _ hl rfl with q | ⟨_, x, q1, q2⟩
    · have : (some o : Option Ob) = some .dead := k1.symm.trans q
      cases this
      exact k4
    · have : (some o : Option Ob) = some (.cells x) := k1.symm.trans q1
      cases this
      simp only [obNew, Bool.and_eq_true] at k2
      rw [q2] at k2
      cases k2.1
  have hsame : ∀ r, r < w.heap.size → w'.heap[r]? = w.heap[r]? := fun r hr => (h1.same r hr).1
  have R2 : Rel P ν h2' w' := by
    refine ⟨fun b l hb => ?_, fun b l hb => ?_, fun b1 l1 b2 l2 e1 e2 hne hr => ?_, fun g hg => hlow _ _ (R.glob g hg), fun b l hb => ?_⟩
    · rcases hinv b l hb with ⟨k1, k2⟩ | ⟨k1, k2⟩
      · obtain ⟨o, q1, q2⟩ := R.ob b l k2
        exact ⟨o, (gold b k1).trans q1, q2.frame hlow (hsame _ (R.low b l k2))⟩
      · obtain ⟨o, q1, q2, q3, q4⟩ := gnew b l k1 k2
        exact ⟨_, q4, q3.up hK q2⟩
    · rcases hinv b l hb with ⟨k1, k2⟩ | ⟨k1, k2⟩
      · show b < h.next + (nx - n); omega
      · have hd : b - h.next + n < nx := h2.dom _ _ k2
        show b < h.next + (nx - n); omega
    · rcases hinv b1 l1 e1 with ⟨k1, k2⟩ | ⟨k1, k2⟩
      · rcases hinv b2 l2 e2 with ⟨m1, m2⟩ | ⟨m1, m2⟩
        · rw [gold b1 k1, gold b2 m1]; exact R.sep b1 l1 b2 l2 k2 m2 hne hr
        · exact .inr (.inl (hdead b2 l2 m1 m2 (by rw [← hr]; exact R.low b1 l1 k2)))
      · rcases hinv b2 l2 e2 with ⟨m1, m2⟩ | ⟨m1, m2⟩
        · exact .inl (hdead b1 l1 k1 k2 (by rw [hr]; exact R.low b2 l2 m2))
        · obtain ⟨o1, p1, p2, p3, p4⟩ := gnew b1 l1 k1 k2
          obtain ⟨o2, q1, q2, q3, q4⟩ := gnew b2 l2 m1 m2
          have hsh := h2.sep _ l1 _ l2 k2 m2 (by omega) hr
          rw [p4, q4]
          rcases hsh with g | g | ⟨x1, x2, g1, g2, g3, _⟩
          · have : (some o1 : Option Ob) = some .dead := p1.symm.trans g
            cases this; exact .inl rfl
          · have : (some o2 : Option Ob) = some .dead := q1.symm.trans g
            cases this; exact .inr (.inl rfl)
          · have : (some o1 : Option Ob) = some (.cells x1) := p1.symm.trans g1
            cases this
            simp only [obNew, Bool.and_eq_true] at p2
            rw [g3] at p2
            cases p2.1
    · rcases hinv b l hb with ⟨k1, k2⟩ | ⟨k1, k2⟩
      · exact Nat.lt_of_lt_of_le (R.low b l k2) h1.size
      · exact h2.low _ _ k2
  have E2 : Ext μ h w ν h2' w' := by
    refine ⟨hlow, Nat.le_add_right _ _, fun b l hb => ?_, h1.os, h1.tape, h1.output, h1.size, fun ro r hr u => ⟨hsame r hr, fun b l hb hlr => ?_⟩⟩
    · rcases hinv b l hb with ⟨k1, k2⟩ | ⟨k1, k2⟩
      · exact .inl k2
      · exact .inr k1
    · rcases hinv b l hb with ⟨k1, k2⟩ | ⟨k1, k2⟩
      · rw [gold b k1]; exact u b l k2 hlr
      · exact .inl (hdead b l k1 k2 (by rw [hlr]; exact hr))
  obtain ⟨g1, g2, g3, fn', g4, g5⟩ := h6
  refine ⟨ν, w', c0, r, fr, E2, R2, h3.up hK hn2, .none rfl, ?_, h5, g3, g1, g2, fn', g4, g5⟩
  rw [henter]
  exact h4
def sumNew (f : FuncId) (v : V) (n nx : Nat) (hl he : List (Nat × Ob)) : FuncId → List V → Option Md → Hp → Option CR := fun g args md h =>
  match Nat.beq g f with
  | true => if args.isEmpty && md.isNone && startHas hl h then some (.ret (V.up n h.next v) none { t := paste n h.next he h.t, next := h.next + (nx - n) }) else none
  | false => none
theorem sumNew_ok {f : FuncId} {fn : Func} {c : Code} {v : V} {hl he : List (Nat × Ob)} {n nx : Nat} (hf : P.funcs[f]? = some fn) (hb : fn.body = some c) (hok : startFit P.globals.size hl n = true) (hnew : newFit n nx v he = true)
    (hg : GoesF P f v { t := mkT he, next := nx } { st := [], f := f, nt := fn.ntmps, k := [.code c], s := { F := .nil, ds := [], md := none, h := { t := mkT hl, next := n } } })
    (g : FuncId) (args : List V) (md : Option Md) (h : Hp) (r : CR) (hr : sumNew f v n nx hl he g args md h = some r) (rs : List Value) (kind : CallKind) (μ : PM) (w : World) (c0 cs : List Frame)
    (R : Rel P μ h w) (ha : VRs μ args rs) (hc : Cal μ kind c0 md cs) : COk P g kind c0 (lone (Frame.enter P g rs.toArray kind) cs w) μ h w r := by
  unfold sumNew at hr
  split at hr
  · rename_i hgf
    obtain rfl := Nat.eq_of_beq_eq_true hgf
    split at hr
    · rename_i hh
      simp only [Bool.and_eq_true, List.isEmpty_iff, Option.isNone_iff_eq_none] at hh
      obtain ⟨⟨rfl, rfl⟩, hhas⟩ := hh
      cases hr
      cases ha
      exact new_ok hf hb hok hnew hg hhas R hc
    · cases hr
  · cases hr
end Go.Vm
