/- The trace, by index. -/
import Derived.Test.YtbckpoddpghdcaaGreatDoorVmTrace
namespace Go.Vm
set_option linter.unusedSimpArgs false
set_option linter.unusedVariables false
variable {P : Program} {ev : Ev} {ops : Array Oper} {bf : Array Nat}

def TRec.nextF (r : TRec) : Frm := setO r.o.dst r.v r.F
def TRec.nextH (r : TRec) : Hp := match r.kd with | .al ob => r.h.new ob | .eff h' => h' | _ => r.h
theorem Tr.length {l : List Oper} {t : Nat} {d : DS} {tr : List TRec} {s' : S} (h : Tr P ev ops bf l t d tr s') : tr.length = l.length := by
  induction h with
  | nil => rfl
  | _ => simp [*]
theorem Tr.op {l : List Oper} {t : Nat} {d : DS} {tr : List TRec} {s' : S} (h : Tr P ev ops bf l t d tr s') : ∀ (k : Nat) (r : TRec), tr[k]? = some r → l[k]? = some r.o := by
  induction h with
  | nil => intro k r hr; simp at hr
  | _ =>
    rename_i ih
    intro k r hr
    cases k with
    | zero => simp at hr; subst hr; rfl
    | succ k => simpa using ih k r (by simpa using hr)
theorem Tr.head {l : List Oper} {t : Nat} {d : DS} {tr : List TRec} {s' : S} (h : Tr P ev ops bf l t d tr s') : ∀ (r : TRec), tr[0]? = some r → r.F = d.s.F ∧ r.h = d.s.h := by
  cases h with
  | nil => intro r hr; simp at hr
  | _ => intro r hr; simp at hr; subst hr; exact ⟨rfl, rfl⟩
theorem Tr.succ {l : List Oper} {t : Nat} {d : DS} {tr : List TRec} {s' : S} (h : Tr P ev ops bf l t d tr s') : ∀ (k : Nat) (r r' : TRec), tr[k]? = some r → tr[k + 1]? = some r' → r'.F = r.nextF ∧ r'.h = r.nextH := by
  induction h with
  | nil => intro k r r' hr; simp at hr
  | _ =>
    rename_i kk ih
    intro k r r' hr hr'
    cases k with
    | zero =>
      simp only [List.getElem?_cons_zero, Option.some.injEq] at hr
      subst hr
      exact kk.head r' (by simpa using hr')
    | succ k => exact ih k r r' (by simpa using hr) (by simpa using hr')
end Go.Vm
