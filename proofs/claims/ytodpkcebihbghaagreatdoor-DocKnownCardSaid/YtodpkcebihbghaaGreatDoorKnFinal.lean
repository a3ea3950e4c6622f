/- The card of DocKnown: called in any world that lays the listed package-level variables as the program's text does, the law returns true; no memory that was there is changed. The run is one closed computation of a virtual machine that is proved sound for the model. -/
import Derived.Test.YtodpkcebihbghaaGreatDoorKnC1
import Derived.Test.YtodpkcebihbghaaGreatDoorKnC2
import Derived.Test.YtodpkcebihbghaaGreatDoorKnC3
import Derived.Test.YtodpkcebihbghaaGreatDoorKnC4
import Derived.Test.YtodpkcebihbghaaGreatDoorKnC5
import Derived.Test.YtodpkcebihbghaaGreatDoorKnWit
import Derived.Test.YtodpkcebihbghaaGreatDoorKnFacts
import Derived.Test.YtodpkcebihbghaaGreatDoorCards
import Derived.Test.YtodpkcebihbghaaGreatDoorTie
import Derived.WalkKit
import Derived.ProofKit
import Derived.OpenShut
import Derived.Deep.DeepHandedRow
set_option linter.unusedVariables false
set_option linter.unusedSimpArgs false
namespace Go.Proofs.YtodpkcebihbghaaGreatDoor
open Go Go.Vm Go.ChangeShapes Go.WideShapes Go.ChangeAt Go.RowKit
set_option maxRecDepth 100000
theorem globs : Tryz.prog.globals.size = 19 := by kernel_rfl
theorem codeOk : itemsOk Tryz.prog 175 [.code body3] = true := by
  have h := hyp.fns.ok 3 (by kernel_rfl)
  unfold okFn at h
  rw [Tryz.func3] at h
  have hb : Tryz.f3.body = some body3 := by kernel_rfl
  dsimp only at h
  rw [hb] at h
  simp only [Bool.and_eq_true] at h
  have h1 := h.1
  rw [Tryz.ntmps3] at h1
  simp [itemsOk, itemOk, h1]
theorem cfgOk0 : cfgOk Tryz.prog { st := [], f := 3, nt := 175, k := [.code body3], s := s0 } :=
  ⟨⟨hyp.fns.ok 3 (by kernel_rfl), fun fn hf => by rw [Tryz.func3] at hf; cases hf; exact Tryz.ntmps3⟩, codeOk, fun t ht => by cases ht⟩
/-- The whole run. -/
theorem run : Goes Tryz.prog 3 175 (.bool true) [.code body3] s0 :=
  GoesC.goes (goesC_chunk hypS globs c1 (goesC_chunk hypS globs c2 (goesC_chunk hypS globs c3 (goesC_chunk hypS globs c4 (goesC_ret hypS c5)))) cfgOk0)
theorem errTy : ErrTy Tryz.prog 24 416 434 9 #[("Error", 358)] { name := "s", type := 9, offset := 0, embedded := Bool.false, tag := "", pkgPath := "errors", byteOffset := 0 } where
  hi := Tryz.underlying24
  hrow := fun u h => typeName_ptr_named (nm := "errors.errorString") (by rw [show "*" ++ "errors.errorString" = "*errors.errorString" from by decide]; kernel_rfl) (by kernel_rfl) (by decide) u (by rw [show "*" ++ "errors.errorString" = "*errors.errorString" from by decide]; exact h)
  hp := Tryz.underlying416
  he := Tryz.underlying434
  hft := rfl
  hfo := rfl
  hs := Tryz.underlying9
  hc := by kernel_rfl
  hcs := by kernel_rfl
theorem sent0 {W : World} (h : laidMet Tryz.prog (laid.filter fun x => x.2.handleName?.isNone) W) : ∃ a, SentAt W 416 0 [100, 111, 118, 101, 116, 97, 105, 108, 58, 32, 97, 114, 103, 117, 109, 101, 110, 116] a :=
  sent_of_laid errTy (n := "dovetail/api.ErrArg") (by kernel_rfl) (by kernel_rfl) h (List.mem_filter.2 ⟨List.mem_of_getElem? (i := 2) rfl, rfl⟩)
theorem sent4 {W : World} (h : laidMet Tryz.prog (laid.filter fun x => x.2.handleName?.isNone) W) : ∃ a, SentAt W 416 4 [100, 111, 118, 101, 116, 97, 105, 108, 58, 32, 115, 121, 110, 116, 97, 120] a :=
  sent_of_laid errTy (n := "dovetail/api.ErrSyntax") (by kernel_rfl) (by kernel_rfl) h (List.mem_filter.2 ⟨List.mem_of_getElem? (i := 3) rfl, rfl⟩)
theorem sent5 {W : World} (h : laidMet Tryz.prog (laid.filter fun x => x.2.handleName?.isNone) W) : ∃ a, SentAt W 416 5 [100, 111, 118, 101, 116, 97, 105, 108, 58, 32, 98, 111, 117, 110, 100, 115] a :=
  sent_of_laid errTy (n := "dovetail/api.ErrBounds") (by kernel_rfl) (by kernel_rfl) h (List.mem_filter.2 ⟨List.mem_of_getElem? (i := 4) rfl, rfl⟩)
theorem sent6 {W : World} (h : laidMet Tryz.prog (laid.filter fun x => x.2.handleName?.isNone) W) : ∃ a, SentAt W 416 6 [100, 111, 118, 101, 116, 97, 105, 108, 58, 32, 110, 111, 116, 32, 97, 110, 32, 111, 112, 101, 114, 97, 116, 111, 114, 32, 103, 114, 97, 109, 109, 97, 114] a :=
  sent_of_laid errTy (n := "dovetail/api.ErrNotOperator") (by kernel_rfl) (by kernel_rfl) h (List.mem_filter.2 ⟨List.mem_of_getElem? (i := 5) rfl, rfl⟩)
theorem sent7 {W : World} (h : laidMet Tryz.prog (laid.filter fun x => x.2.handleName?.isNone) W) : ∃ a, SentAt W 416 7 [100, 111, 118, 101, 116, 97, 105, 108, 58, 32, 116, 119, 111, 32, 114, 101, 108, 97, 116, 105, 111, 110, 115] a :=
  sent_of_laid errTy (n := "dovetail/api.ErrMatrix") (by kernel_rfl) (by kernel_rfl) h (List.mem_filter.2 ⟨List.mem_of_getElem? (i := 6) rfl, rfl⟩)
theorem sent8 {W : World} (h : laidMet Tryz.prog (laid.filter fun x => x.2.handleName?.isNone) W) : ∃ a, SentAt W 416 8 [100, 111, 118, 101, 116, 97, 105, 108, 58, 32, 116, 111, 111, 32, 98, 105, 103] a :=
  sent_of_laid errTy (n := "dovetail/api.ErrTooBig") (by kernel_rfl) (by kernel_rfl) h (List.mem_filter.2 ⟨List.mem_of_getElem? (i := 7) rfl, rfl⟩)
theorem sent9 {W : World} (h : laidMet Tryz.prog (laid.filter fun x => x.2.handleName?.isNone) W) : ∃ a, SentAt W 416 9 [100, 111, 118, 101, 116, 97, 105, 108, 58, 32, 114, 101, 102, 117, 115, 101, 100] a :=
  sent_of_laid errTy (n := "dovetail/api.ErrRefused") (by kernel_rfl) (by kernel_rfl) h (List.mem_filter.2 ⟨List.mem_of_getElem? (i := 8) rfl, rfl⟩)
theorem sent2 {W : World} (h : laidMet Tryz.prog (laid.filter fun x => x.2.handleName?.isNone) W) : ∃ a, SentAt W 416 2 [100, 111, 118, 101, 116, 97, 105, 108, 58, 32, 99, 117, 116] a :=
  sent_of_laid errTy (n := "dovetail/api.ErrCut") (by kernel_rfl) (by kernel_rfl) h (List.mem_filter.2 ⟨List.mem_of_getElem? (i := 9) rfl, rfl⟩)
theorem sent10 {W : World} (h : laidMet Tryz.prog (laid.filter fun x => x.2.handleName?.isNone) W) : ∃ a, SentAt W 416 10 [100, 111, 118, 101, 116, 97, 105, 108, 58, 32, 112, 108, 97, 110] a :=
  sent_of_laid errTy (n := "dovetail/api.ErrPlan") (by kernel_rfl) (by kernel_rfl) h (List.mem_filter.2 ⟨List.mem_of_getElem? (i := 10) rfl, rfl⟩)
theorem sent11 {W : World} (h : laidMet Tryz.prog (laid.filter fun x => x.2.handleName?.isNone) W) : ∃ a, SentAt W 416 11 [100, 111, 118, 101, 116, 97, 105, 108, 58, 32, 110, 97, 109, 101] a :=
  sent_of_laid errTy (n := "dovetail/api.ErrName") (by kernel_rfl) (by kernel_rfl) h (List.mem_filter.2 ⟨List.mem_of_getElem? (i := 11) rfl, rfl⟩)
theorem sent12 {W : World} (h : laidMet Tryz.prog (laid.filter fun x => x.2.handleName?.isNone) W) : ∃ a, SentAt W 416 12 [100, 111, 118, 101, 116, 97, 105, 108, 58, 32, 116, 114, 101, 101] a :=
  sent_of_laid errTy (n := "dovetail/api.ErrTree") (by kernel_rfl) (by kernel_rfl) h (List.mem_filter.2 ⟨List.mem_of_getElem? (i := 12) rfl, rfl⟩)
theorem sent1 {W : World} (h : laidMet Tryz.prog (laid.filter fun x => x.2.handleName?.isNone) W) : ∃ a, SentAt W 416 1 [100, 111, 118, 101, 116, 97, 105, 108, 58, 32, 108, 111, 110, 103] a :=
  sent_of_laid errTy (n := "dovetail/api.ErrLong") (by kernel_rfl) (by kernel_rfl) h (List.mem_filter.2 ⟨List.mem_of_getElem? (i := 13) rfl, rfl⟩)
theorem sent13 {W : World} (h : laidMet Tryz.prog (laid.filter fun x => x.2.handleName?.isNone) W) : ∃ a, SentAt W 416 13 [100, 111, 118, 101, 116, 97, 105, 108, 58, 32, 102, 111, 114, 109] a :=
  sent_of_laid errTy (n := "dovetail/api.ErrForm") (by kernel_rfl) (by kernel_rfl) h (List.mem_filter.2 ⟨List.mem_of_getElem? (i := 14) rfl, rfl⟩)
theorem sent14 {W : World} (h : laidMet Tryz.prog (laid.filter fun x => x.2.handleName?.isNone) W) : ∃ a, SentAt W 416 14 [100, 111, 118, 101, 116, 97, 105, 108, 58, 32, 115, 117, 109] a :=
  sent_of_laid errTy (n := "dovetail/api.ErrSum") (by kernel_rfl) (by kernel_rfl) h (List.mem_filter.2 ⟨List.mem_of_getElem? (i := 15) rfl, rfl⟩)
theorem sent3 {W : World} (h : laidMet Tryz.prog (laid.filter fun x => x.2.handleName?.isNone) W) : ∃ a, SentAt W 416 3 [100, 111, 118, 101, 116, 97, 105, 108, 58, 32, 110, 111, 110, 101] a :=
  sent_of_laid errTy (n := "dovetail/api.ErrNone") (by kernel_rfl) (by kernel_rfl) h (List.mem_filter.2 ⟨List.mem_of_getElem? (i := 16) rfl, rfl⟩)
theorem sent15 {W : World} (h : laidMet Tryz.prog (laid.filter fun x => x.2.handleName?.isNone) W) : ∃ a, SentAt W 416 15 [115, 116, 97, 99, 107, 58, 32, 97, 32, 112, 105, 101, 99, 101, 32, 116, 104, 97, 116, 32, 109, 97, 121, 32, 110, 111, 116, 32, 98, 101] a :=
  sent_of_laid errTy (n := "dovetail/stack.errForm") (by kernel_rfl) (by kernel_rfl) h (List.mem_filter.2 ⟨List.mem_of_getElem? (i := 17) rfl, rfl⟩)
theorem obR_ro {P : Program} {μ : PM} {W : World} {r off : Nat} {l : List V} {frz : Nat × Nat} {c : Array Value} {t : TypeId} {f : Nat × Nat} (hh : W.heap[r]? = some (.cells c t f)) (hc : CellR μ l c off) (hz : frz.1 = frz.2 → f.2 ≤ f.1) : ObR P μ W ⟨r, off, 0⟩ (ro1 l frz) :=
  ⟨c, t, f, hh, hc, (fun h => by cases h), (fun h => by cases h), (fun _ h => by cases h), (fun _ h => by cases h), fun _ h => hz h⟩
theorem tabR {P : Program} {μ : PM} {W : World} {r : Nat} {k : IntKind} {zs : List Int} (h : ∃ c t', W.heap[r]? = some (.cells c t' (0, 0)) ∧ c.toList = zs.map fun z => Value.int k z) : ObR P μ W ⟨r, 0, 0⟩ (ro1 (zs.map fun n => V.int k n) (0, 0)) := by
  obtain ⟨c, t, t1, t2⟩ := h
  refine obR_ro t1 (fun i v hv => ?_) (fun _ => Nat.le_refl _)
  rw [List.getElem?_map] at hv
  cases hz : zs[i]? with
  | none => rw [hz] at hv; cases hv
  | some z =>
    rw [hz] at hv
    simp only [Option.map_some, Option.some.injEq] at hv
    subst hv
    refine ⟨.int k z, ?_, .int _ _⟩
    rw [Nat.zero_add, ← Array.getElem?_toList, t2, List.getElem?_map, hz]
    rfl
theorem big : 19 < (begin Tryz.prog (fun _ _ => 0) default).world.heap.size := of_decide_eq_true (by kernel_rfl)
theorem start {W : World} (hL : laidMetH Tryz.prog laid W) (hS : W.ShapedOpen Tryz.prog) : ∃ μ, Rel Tryz.prog μ h0 W ∧ ∀ r, Unw true μ h0 r := by
  obtain ⟨h1, h2⟩ := laid_split hL
  obtain ⟨a0, k0⟩ := sent0 h1
  obtain ⟨a4, k4⟩ := sent4 h1
  obtain ⟨a5, k5⟩ := sent5 h1
  obtain ⟨a6, k6⟩ := sent6 h1
  obtain ⟨a7, k7⟩ := sent7 h1
  obtain ⟨a8, k8⟩ := sent8 h1
  obtain ⟨a9, k9⟩ := sent9 h1
  obtain ⟨a2, k2⟩ := sent2 h1
  obtain ⟨a10, k10⟩ := sent10 h1
  obtain ⟨a11, k11⟩ := sent11 h1
  obtain ⟨a12, k12⟩ := sent12 h1
  obtain ⟨a1, k1⟩ := sent1 h1
  obtain ⟨a13, k13⟩ := sent13 h1
  obtain ⟨a14, k14⟩ := sent14 h1
  obtain ⟨a3, k3⟩ := sent3 h1
  obtain ⟨a15, k15⟩ := sent15 h1
  have tb18 := tab_of_laid (n := "math/bits.deBruijn64tab") (g := 18) (zs := tab18) (k := .u8) (by kernel_rfl) (by kernel_rfl) Tryz.underlying368 Tryz.underlying5 (by kernel_rfl) (by kernel_rfl) (by decide) h1 (List.mem_filter.2 ⟨List.mem_of_getElem? (i := 0) rfl, rfl⟩)
  obtain ⟨ht, hf, hd⟩ := handle_of_laid (n := "errors.errorType") (d := Rows.laid_errors_errorType) (g := 16) (u := 150) (ty := 24) (name := [101, 114, 114, 111, 114]) (by kernel_rfl) rfl rfl (by kernel_rfl) (by kernel_rfl) h2 (List.mem_filter.2 ⟨List.mem_of_getElem? (i := 1) rfl, rfl⟩)
  have hW : 19 < W.heap.size := by
    obtain ⟨o, _, ho, _⟩ := hS.2 19 (by rw [globs]; exact Nat.le_refl _) big
    exact (Array.getElem?_eq_some_iff.1 ho).1
  let A : Nat → Addr := fun g => match g with
    | 0 => a0
    | 4 => a4
    | 5 => a5
    | 6 => a6
    | 7 => a7
    | 8 => a8
    | 9 => a9
    | 2 => a2
    | 10 => a10
    | 11 => a11
    | 12 => a12
    | 1 => a1
    | 13 => a13
    | 14 => a14
    | 3 => a3
    | 15 => a15
    | _ => default
  refine ⟨_, rel_start (P := Tryz.prog) (W := W) (tp := 416) (G := 19) (sents := sents) (ex := ex) (A := A) globs (by kernel_rfl) hW (fun e he => ?_) (fun e he => ?_)⟩
  · simp only [sents, List.mem_cons, List.not_mem_nil, or_false] at he
    rcases he with rfl | rfl | rfl | rfl | rfl | rfl | rfl | rfl | rfl | rfl | rfl | rfl | rfl | rfl | rfl | rfl
    · exact k0
    · exact k4
    · exact k5
    · exact k6
    · exact k7
    · exact k8
    · exact k9
    · exact k2
    · exact k10
    · exact k11
    · exact k12
    · exact k1
    · exact k13
    · exact k14
    · exact k3
    · exact k15
  · simp only [ex, List.mem_cons, List.not_mem_nil, or_false] at he
    rcases he with rfl | rfl | rfl | rfl
    · exact tabR tb18
    · refine obR_ro hd (fun i v hv => ?_) (fun h => by cases h)
      cases i with
      | zero =>
        simp only [List.getElem?_cons_zero, Option.some.injEq] at hv
        subst hv
        refine ⟨_, rfl, .iface (.agg (l' := [typeHandle Tryz.prog 24]) (.single ?_))⟩
        have hm : startM 19 sents A 19 = some ⟨19, 0, 0⟩ := rfl
        have := VR.ptr (o := 24) hm
        have e : typeHandle Tryz.prog 24 = .pointer (some ⟨19, 0 + 24, none⟩) := by kernel_rfl
        rw [e]
        exact this
      | succ i => simp at hv
    · trivial
    · trivial
theorem called {W : World} (hL : laidMetH Tryz.prog laid W) (hS : W.ShapedOpen Tryz.prog) : Calls Tryz.prog 3 #[] W fun e W' => e = .returned (.bool true) ∧ Same0 W W' := by
  obtain ⟨μ, R, hu⟩ := start hL hS
  have hb : Tryz.f3.body = some body3 := by kernel_rfl
  exact calls_of_goes Tryz.func3 hb (by rw [Tryz.ntmps3]; exact run) R fun r _ => hu r
theorem kept_of_same {W W' : World} (h : Same0 W W') (may : MemPlace → Prop) : W.keptBut W' may := by
  obtain ⟨h1, h2, h3, h4, h5⟩ := h
  refine ⟨h1, h3, fun i hi => ?_⟩
  rw [h5 i hi]
  cases W.heap[i]? with
  | none => rfl
  | some o => cases o <;> first | exact ⟨rfl, rfl, rfl, fun _ _ => rfl⟩ | exact .inr ⟨rfl, rfl⟩ | rfl
theorem contract (H : Type) (enc : TypeId × Value → H) (W : World) (args : Array Value) (ds gs : List (DataW H)) (before : List MemPlace)
    (hW : DataW.Whole enc Tryz.prog Tryz.f3.params.toList Rows.docKnownSpec.vars false W args.toList ds gs before) (hL : laidMetH Tryz.prog laid W) (hS : W.ShapedOpen Tryz.prog) :
    Calls Tryz.prog 3 args W fun e W' => ∃ v, e = .returned v ∧ Rows.docKnownSpec.post enc Tryz.prog Tryz.f3 false true false false W args v W' := by
  have hW' := hW
  obtain ⟨p, q, hA0, hV, rfl, hfz, hnd⟩ := hW
  have hA : DataW.TrodAll enc Tryz.prog W 0 (fun _ => true) true Tryz.f3.params.toList args.toList ds p := hA0
  rw [Tryz.params3] at hA
  obtain ⟨hargs, rfl, rfl⟩ := trodAll_nil hA
  obtain rfl : args = #[] := by cases args; simp_all
  obtain ⟨rfl, rfl⟩ := trodVars_none hV
  refine (called hL hS).mono fun e W' ⟨he, hw⟩ => ?_
  subst he
  refine ⟨_, rfl, _, _, _, [], [], [], hW', ?_, ?_, ?_, kept_of_same hw _, fun h => by cases h⟩
  · exact trodAll_mk1 (shut_bool Tryz.underlying4 true)
  · exact trodAll_mk0
  · rfl
theorem lifted (os : Os) (started : os.Started) (H : Type) (enc : TypeId × Value → H) (F : Stop.Interp) :
    ReturnsInHanded {} Tryz.checked os 3 .any ((OpenSpec.ofChange Rows.docKnownSpec).preRow enc Tryz.prog Tryz.f3 Rows.docKnownRow.domain false Rows.docKnownRow.laid) (((OpenSpec.ofChange Rows.docKnownSpec).at F).post enc Tryz.prog Tryz.f3 false true false false) := by
  refine returnsInHanded_of_row (C := Tryz.checked) (s := OpenSpec.ofChange Rows.docKnownSpec) (by kernel_rfl) started (by kernel_rfl) Tryz.func3 (wit os enc) ?_
  intro W base args ds gs before hval hW _ _ _ hL hS _
  exact contract H enc W args ds gs before hW hL hS
theorem said : Rows.DocKnownSaid :=
  OpenClaim.holds_of_cond 3 Tryz.f3 rfl rfl rfl rfl rfl rfl rfl ⟨rfl, rfl, rfl, rfl, rfl⟩ rfl rfl rfl rfl rfl fNamed Tryz.func3 fClosed fInst fWrap
    (fun os started H enc _ F => by rw [OpenClaim.pre_eq_preRow]; exact lifted os started H enc F)
/-- THE CARD. -/
theorem docKnown_card : Rows.DocKnownCardSaid :=
  Claim7.holds_tied_plain_at .later [] _ _ _ _ said (fun _ h => by cases h) fText (fun _ h => by cases h) docKnown_row_tie rfl ⟨rfl, rfl⟩ fMain rfl plain fGoes
end Go.Proofs.YtodpkcebihbghaaGreatDoor
