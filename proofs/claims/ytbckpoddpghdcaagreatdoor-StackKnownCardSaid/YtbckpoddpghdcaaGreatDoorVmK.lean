/- The closed run as the kernel sees it. -/
import Derived.Test.YtbckpoddpghdcaaGreatDoorVmE
import Derived.Test.YtbckpoddpghdcaaGreatDoorVmFin
import Derived.Test.YtbckpoddpghdcaaGreatDoorVmStart
import Derived.Test.YtbckpoddpghdcaaGreatDoorVmIns
import Derived.Test.YtbckpoddpghdcaaGreatDoorVmExt
namespace Go.Vm
set_option linter.unusedSimpArgs false
set_option linter.unusedVariables false
variable {P : Program}

noncomputable def evQ (E : Q.Env) (X : Fns) : Nat → Ev
  | 0 => evBad
  | n + 1 => Q.evS E X (evQ E X n)
theorem evQ_eq (X : Fns) : ∀ n, evQ (Q.Env.fast P) X n = evN P X n
  | 0 => rfl
  | n + 1 => by
    show Q.evS (Q.Env.fast P) X (evQ (Q.Env.fast P) X n) = Go.Vm.evS P X (evN P X n)
    rw [evQ_eq X n, Q.fast_eq, Q.evS_eq]
noncomputable def lookF : Look := { hg := fun h b => Q.getN h.t b, fg := fun F t => Q.getP (Pos.of t) F, kg := fun t b => Q.getN t b }
theorem lookF_eq : lookF = Look.std := by
  unfold lookF Look.std
  congr 1
  · funext h b; exact Q.getN_eq _ _
  · funext F t; exact Q.getP_eq _ _
  · funext t b; exact Q.getN_eq _ _
theorem oprQ_eq : Q.opr (Q.Env.fast P) = opr := by rw [Q.fast_eq, Q.opr_eq]
/-- The parts of a program that the virtual machine leans on. -/
structure VmHyp (P : Program) (X : Fns) : Prop where
  mixed : P.follows .mixedOrders = true
  ext : ExtHyp P
  num : NumOk P
  fns : FnsOk P X
theorem VmHyp.ev {X : Fns} (H : VmHyp P X) (n : Nat) : EvOk P (evN P X n) :=
  evN_ok (ext_ok H.ext) H.num H.fns (fun _ hev => draw_ok H.mixed (ext_ok H.ext) H.num hev) n
def isRet (v : V) : CR → Bool
  | .ret v' _ _ => V.beq v' v
  | _ => false
/-- The code at a path. -/
def subC : List Nat → Code → Code
  | [], c => c
  | i :: p, c => match c with
    | .seq a b | .cond _ a b => subC p (match i with | 0 => a | _ => b)
    | .block _ b | .loop b | .scope b => subC p b
    | c => c
/-- The functions whose bits are set in a number have been looked at. -/
theorem ok_of_mask {m N : Nat} {X : Fns} (hX : ∀ f, X.ok f = m.testBit f) (hm : m < 2 ^ N) (h : ((List.range N).all fun f => !m.testBit f || Q.okFn (Q.Env.fast P) f) = true) : ∀ f, X.ok f = true → okFn P f = true := fun f hf => by
  rw [hX] at hf
  have hlt : f < N := by
    rcases Nat.lt_or_ge f N with h1 | h1
    · exact h1
    · rw [Nat.testBit_lt_two_pow (Nat.lt_of_lt_of_le hm (Nat.pow_le_pow_right (by omega) h1))] at hf
      cases hf
  have := List.all_eq_true.1 h f (List.mem_range.2 hlt)
  rw [hf, Q.fast_eq, Q.okFn_eq] at this
  simpa using this
theorem num_of_all (h : (P.funcs.toList.all fun fn => !(fn.name == "runtime.NumGoroutine")) = true) : NumOk P := fun f fn hf he => by
  have := List.all_eq_true.1 h fn (Array.mem_toList_iff.2 (Array.mem_of_getElem? hf))
  rw [he] at this
  simp at this
theorem origin_of_all (h : (P.funcs.toList.all fun fn => fn.body.isSome || (Extern.allNextRows.lookup fn.origin).isNone) = true) : ∀ (f : FuncId) (fn : Func), P.funcs[f]? = some fn → fn.body = none → (Extern.allNextRows.lookup fn.origin).isNone = true := fun f fn hf hb => by
  have := List.all_eq_true.1 h fn (Array.mem_toList_iff.2 (Array.mem_of_getElem? hf))
  rw [hb] at this
  simpa using this
theorem pack_of_all (h : ((List.range P.types.size).all fun t => !P.packed t && !P.holdsPacked P.depth t && !P.methodsOfAPack P.depth t) = true) : ∀ t, t < P.types.size → P.packed t = false ∧ P.holdsPacked P.depth t = false ∧ P.methodsOfAPack P.depth t = false := fun t ht => by
  have := List.all_eq_true.1 h t (List.mem_range.2 ht)
  simpa [and_assoc] using this
end Go.Vm
