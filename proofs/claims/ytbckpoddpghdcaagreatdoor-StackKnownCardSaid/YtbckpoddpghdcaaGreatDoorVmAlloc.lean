/- What makes one block. -/
import Derived.Test.YtbckpoddpghdcaaGreatDoorVmRead
import Derived.Laws.MakeOwn
namespace Go.Vm
open Go.RowKit
set_option linter.unusedSimpArgs false
set_option linter.unusedVariables false

variable {P : Program} {μ : PM} {h : Hp} {w : World} {F : Frm} {a : Act}

/-- A block is made, whatever else there is: its object; the value. -/
def AllocR (P : Program) (μ : PM) (s : Sem Next) (ob : Ob) (f : Nat → V) : Prop :=
  ∃ (obj : Obj) (cap : Nat) (r : Nat → Value), (∀ w, s.run P w = .ok (.value (r w.heap.size)) (w.alloc obj)) ∧
    (∀ (ν : PM) (n : Nat) (g : Nat), ν n = some ⟨g, 0, cap⟩ → VR ν (f n) (r g)) ∧
    (∀ (w : World) (ν : PM), μ.le ν → ObR P ν (w.alloc obj) ⟨w.heap.size, 0, cap⟩ ob)

theorem newBlk_ob {l : List V} {c : List Value} (e : TypeId) (hc : VRs μ l c) (cap : Nat) (w : World) (ν : PM) (hle : μ.le ν) : ObR P ν (w.alloc (.cells c.toArray e)) ⟨w.heap.size, 0, cap⟩ (newBlk l e) :=
  ⟨c.toArray, e, (0, 0), alloc_last _ _, (CellR.of_list hc).mono hle, fun _ j _ h2 _ _ => by omega, fun _ => rfl, fun _ _ => ⟨rfl, by simp [hc.length]⟩, (fun h => by cases h), (fun _ _ => Nat.le_refl _)⟩

theorem reps_length (n : Nat) (z : List V) : (reps n z).length = n * z.length := by
  induction n with
  | zero => simp [reps]
  | succ n ih => simp only [reps, List.length_append, ih]; rw [Nat.add_mul]; omega
theorem reps_get (z : List V) : ∀ (n i : Nat), i < n * z.length → (reps n z)[i]? = z[i % z.length]?
  | 0, i, h => by simp at h
  | n + 1, i, h => by
    have h' : i < n * z.length + z.length := by rwa [Nat.add_mul, Nat.one_mul] at h
    simp only [reps]
    by_cases hi : i < z.length
    · rw [List.getElem?_append_left hi, Nat.mod_eq_of_lt hi]
    · rw [List.getElem?_append_right (by omega), reps_get z n _ (by omega)]
      congr 1
      exact (Nat.mod_eq_sub_mod (by omega)).symm
theorem made_sound {z : List V} {zv : Value} (hz : VRs μ z zv.cells.toList) {n s : Nat} (hs : z.length = s) (hpos : n * s ≠ 0) : VRs μ (reps n z) (madeCells zv.cells (n * s)).toList := by
  have hzl : zv.cells.size = s := by rw [← Array.length_toList, ← hz.length, hs]
  refine VRs.of_get (by rw [reps_length, hs, Array.length_toList, size_madeCells]) fun i v r hv hr => ?_
  have hi : i < n * s := by
    have := (List.getElem?_eq_some_iff.1 hr).1
    rwa [Array.length_toList, size_madeCells] at this
  have hs0 : 0 < s := Nat.pos_of_ne_zero fun h0 => by subst h0; simp at hpos
  rw [reps_get z n i (by rw [hs]; exact hi), hs] at hv
  obtain ⟨r', h1, h2⟩ := hz.get hv
  have hm : i % s < zv.cells.size := by rw [hzl]; exact Nat.mod_lt _ hs0
  simp only [madeCells, Array.getElem?_toList, Array.getElem?_map, Array.getElem?_range, if_pos hi, Option.map_some, Option.some.injEq, hzl] at hr
  rw [Array.getElem?_toList, Array.getElem?_eq_getElem hm] at h1
  rw [getElem!_pos zv.cells (i % s) hm] at hr
  rw [← hr, Option.some.inj h1]
  exact h2

theorem placesE_spec (s : Nat) : ∀ (ps : List (Nat × Operand)), (placesE s F ps).length = ps.length ∧
    ∀ (i o n : Nat) (v : V) (j : Nat) (x : Operand), (placesE s F ps)[i]? = some (o, n, v) → ps[i]? = some (j, x) → o = j * s ∧ n = s ∧ v = opr F x
  | [] => by simp [placesE]
  | (j, x) :: ps => by
    obtain ⟨h1, h2⟩ := placesE_spec s ps
    refine ⟨by simp [placesE, h1], fun i o n v j' x' ha hb => ?_⟩
    cases i with
    | zero => simp [placesE] at ha hb; obtain ⟨rfl, rfl, rfl⟩ := ha; obtain ⟨rfl, rfl⟩ := hb; exact ⟨rfl, rfl, rfl⟩
    | succ i => exact h2 i o n v j' x' (by simpa [placesE] using ha) (by simpa using hb)

theorem alloc_sound {o : Oper} {ob : Ob} {f : Nat → V} (ok : OpOk P μ F a o) (hr : allocV P F o = some (ob, f)) : AllocR P μ (execOp a.eval o) ob f := by
  obtain ⟨opd, typ⟩ := ok
  unfold OpR at opd
  unfold opTypes at typ
  unfold allocV at hr
  unfold execOp
  cases ho : o.op <;> simp only [ho] at hr typ opd ⊢ <;> try (exfalso; cases hr; done)
  case alloc t =>
    simp only [Option.map_eq_some_iff, Prod.mk.injEq] at hr
    obtain ⟨z, hz, rfl, rfl⟩ := hr
    obtain ⟨zv, h1, h2⟩ := zeroT_sound (μ := μ) hz
    refine ⟨.cells zv.cells t, 0, fun g => .pointer (some ⟨g, 0, none⟩), fun w => ?_, fun ν n g hn => .ptr (o := 0) hn, fun w ν hle => ?_⟩
    · rw [Sem.run_bind, Instr.alloc, Sem.run_bind, h2 w]
      rfl
    · have := newBlk_ob (P := P) t h1 0 w ν hle
      rwa [Array.toArray_toList] at this
  case box t x =>
    split at hr
    · simp only [Option.some.injEq, Prod.mk.injEq] at hr
      obtain ⟨rfl, rfl⟩ := hr
      have hx := (opd x (by simp [Op.operands])).cells
      refine ⟨.cells (a.eval x).cells t, 0, fun g => .pointer (some ⟨g, 0, none⟩), fun w => rfl, fun ν n g hn => .ptr (o := 0) hn, fun w ν hle => ?_⟩
      have := newBlk_ob (P := P) t hx 0 w ν hle
      rwa [Array.toArray_toList] at this
    · cases hr
  case buildSlice t n ps =>
    split at hr
    · rename_i e ht
      obtain ⟨i, hi⟩ := wf_slice (typ t (by simp)) ht
      have hsi : sizeT P e = i.size := sizeT_info hi
      split at hr
      · cases hr
      · rename_i hbig
        split at hr
        · rename_i z hz
          split at hr
          · rename_i hzl
            simp only [Option.map_eq_some_iff, Prod.mk.injEq] at hr
            obtain ⟨l, hl, rfl, rfl⟩ := hr
            have hfill : ∀ m : List Value, VRs μ (reps n z) m → ∃ m', Instr.fill (fun i => some (i * sizeT P e, sizeT P e)) m.toArray (ps.map fun (i, x) => (i, a.eval x)).toList = some m'.toArray ∧ VRs μ l m' := fun m hm => by
              obtain ⟨q1, q2⟩ := placesE_spec (F := F) (sizeT P e) ps.toList
              have := fill_sound (pl := fun i => some (i * sizeT P e, sizeT P e)) (placesE (sizeT P e) F ps.toList) (ps.map fun (i, x) => (i, a.eval x)).toList _ l m hl hm (by simp [q1]) (fun i o n v j r ha hb => by
                simp only [Array.toList_map, List.getElem?_map, Option.map_eq_some_iff] at hb
                obtain ⟨⟨j', x⟩, hx, he⟩ := hb
                simp only [Prod.mk.injEq] at he
                obtain ⟨rfl, rfl⟩ := he
                obtain ⟨rfl, rfl, rfl⟩ := q2 i o n v j' x ha hx
                refine ⟨rfl, opd x ?_⟩
                have hmem := Array.mem_toList_iff.1 (List.mem_of_getElem? hx)
                simp only [Op.operands]
                simp only [List.mem_toArray, List.mem_map, Array.mem_toList_iff, Array.mem_map]
                exact ⟨(j', x), hmem, rfl⟩)
              exact this
            by_cases h0 : n * sizeT P e = 0
            · rw [if_pos h0] at hz
              simp only [Option.some.injEq] at hz
              subst hz
              have hm : VRs μ (reps n []) [] := by
                have : reps n ([] : List V) = [] := List.eq_nil_of_length_eq_zero (by rw [reps_length]; simp)
                rw [this]; exact .nil
              obtain ⟨m', g1, g2⟩ := hfill [] hm
              refine ⟨.cells m'.toArray e, n, fun g => .slice (some ⟨g, 0, none⟩) n n, fun w => ?_, fun ν b g hb => .slice (o := 0) hb rfl (Nat.le_refl _) (fun _ => rfl), fun w ν hle => newBlk_ob e g2 n w ν hle⟩
              have hb' : ¬ n * i.size > 2 ^ 24 := by rw [← hsi]; exact hbig
              have h0' : n * i.size = 0 := by rw [← hsi]; exact h0
              rw [hsi] at g1
              simp only [Sem.run_bind, Instr.buildSlice, run_underlying ht, Result.andThen_ok, sizeOf, typeInfo, run_program, hi, Sem.run_pure, if_neg hb', h0', if_true, Array.range_zero', Array.map_empty, g1, newRow, run_newObj_alloc]
              rw [if_neg (by decide)]
              rfl
            · rw [if_neg h0] at hz
              obtain ⟨zv, h1, h2⟩ := zeroT_sound (μ := μ) hz
              have hzl' : z.length = sizeT P e := by simpa [h0] using hzl
              obtain ⟨m', g1, g2⟩ := hfill _ (made_sound h1 hzl' h0)
              rw [Array.toArray_toList, madeCells, hsi] at g1
              refine ⟨.cells m'.toArray e, n, fun g => .slice (some ⟨g, 0, none⟩) n n, fun w => ?_, fun ν b g hb => .slice (o := 0) hb rfl (Nat.le_refl _) (fun _ => rfl), fun w ν hle => newBlk_ob e g2 n w ν hle⟩
              have hb' : ¬ n * i.size > 2 ^ 24 := by rw [← hsi]; exact hbig
              have h0' : ¬ n * i.size = 0 := by rw [← hsi]; exact h0
              simp only [Sem.run_bind, Instr.buildSlice, run_underlying ht, Result.andThen_ok, sizeOf, typeInfo, run_program, hi, Sem.run_pure, if_neg hb', if_neg h0', h2 w, g1, newRow, run_newObj_alloc]
          · cases hr
        · cases hr
    · cases hr
  case makeMap t r =>
    cases r with
    | some x => exfalso; cases hr
    | none =>
      simp only at hr
      split at hr
      · simp only [Option.some.injEq, Prod.mk.injEq] at hr
        obtain ⟨rfl, rfl⟩ := hr
        exact ⟨.map #[] 0, 0, fun g => .map (some g), fun w => rfl, fun ν n g hn => .map hn, fun w ν hle => ⟨#[], alloc_last _ _, trivial⟩⟩
      · cases hr
  case makeSlice t l c =>
    split at hr
    · rename_i e l0 c0 ht hl hc
      split at hr
      · rename_i hb
        simp only [Bool.and_eq_true, decide_eq_true_eq] at hb
        obtain ⟨⟨⟨b1, b2⟩, b3⟩, b4⟩ := hb
        have hl' := opd l (by simp [Op.operands])
        have hc' := opd c (by simp [Op.operands])
        rw [hl] at hl'; rw [hc] at hc'
        have hl2 := hl'.int_inv
        have hc2 := hc'.int_inv
        obtain ⟨i, hi⟩ := wf_slice (typ t (by simp)) ht
        have hsi : sizeT P e = i.size := sizeT_info hi
        simp only [hi, Option.map_some, Option.getD_some] at b4
        rw [hl2, hc2]
        split at hr
        · rename_i z hz
          split at hr
          · rename_i hzl
            simp only [Option.some.injEq, Prod.mk.injEq] at hr
            obtain ⟨rfl, rfl⟩ := hr
            have fin : ∀ cells : List Value, VRs μ (reps c0.toNat z) cells → (∀ w, (Instr.makeSlice t (.int .i64 l0) (.int .i64 c0)).run P w = .ok (.slice (some ⟨w.heap.size, 0, none⟩) l0.toNat c0.toNat) (w.alloc (.cells cells.toArray e))) →
                AllocR P μ (do Pure.pure (.value (← Instr.makeSlice t (.int .i64 l0) (.int .i64 c0))) : Sem Next) (newBlk (reps c0.toNat z) e) (fun n => .slice (some (n, 0)) l0.toNat (.ex c0.toNat)) := fun cells hv hrun =>
              ⟨.cells cells.toArray e, c0.toNat, fun g => .slice (some ⟨g, 0, none⟩) l0.toNat c0.toNat, fun w => by rw [Sem.run_bind, hrun w]; rfl, fun ν b g hb => .slice (o := 0) hb rfl (by omega) (fun _ => rfl), fun w ν hle => newBlk_ob e hv c0.toNat w ν hle⟩
            by_cases h0 : c0.toNat * sizeT P e = 0
            · rw [if_pos h0] at hz
              simp only [Option.some.injEq] at hz
              subst hz
              have hm : VRs μ (reps c0.toNat []) [] := by
                have : reps c0.toNat ([] : List V) = [] := List.eq_nil_of_length_eq_zero (by rw [reps_length]; simp)
                rw [this]; exact .nil
              refine fin [] hm fun w => ?_
              have wl : IntKind.i64.wrap l0 = l0 := by rw [IntKind.wrap_i64]; omega
              have wc : IntKind.i64.wrap c0 = c0 := by rw [IntKind.wrap_i64]; omega
              have n1 : ¬ c0 < 0 := by omega
              have n2 : ¬ (281474976710656 < (i.bytes : Int) * c0) := by omega
              have n3 : ¬ l0 < 0 := by omega
              have n4 : ¬ c0 < l0 := by omega
              have h0' : c0.toNat * i.size = 0 := by rw [← hsi]; exact h0
              simp [Instr.makeSlice, run_underlying ht, asInt, asIntOf, typeInfo, hi, sizeOf, wl, wc, n1, n2, n3, n4, h0', newRow, Array.range_zero']
            · rw [if_neg h0] at hz
              have hzl' : z.length = sizeT P e := by simpa [h0] using hzl
              unfold zeroT at hz
              simp only [Option.bind_eq_some_iff, Option.map_eq_some_iff, hi, Option.some.injEq] at hz
              obtain ⟨zv, ⟨_, rfl, hzv⟩, q, hq, rfl⟩ := hz
              refine fin _ (made_sound (toV_sound zv hq).cells hzl' h0) fun w => ?_
              rw [run_make w t e i zv ht hi hzv .i64 .i64 l0 c0 b1 b2 (by omega) (by omega), Array.toArray_toList, hsi]
          · cases hr
        · cases hr
      · cases hr
    · cases hr
end Go.Vm
