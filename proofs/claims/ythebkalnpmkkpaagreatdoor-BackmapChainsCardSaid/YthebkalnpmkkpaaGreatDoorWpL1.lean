/- The kit's functions over lists of single cells: lent with a mark behind, still as they were. -/
import Derived.Test.YthebkalnpmkkpaaGreatDoorWpF12
import Derived.Test.YthebkalnpmkkpaaGreatDoorWpK4
set_option linter.unusedVariables false
set_option linter.unusedSimpArgs false
namespace Go.Vm
variable {P : Program} {Y : Fns} {I : Ids}
/-- A slice of single cells. -/
def Cl (h : Hp) (a : Option (Nat × Nat)) (vs : List V) : Prop := Sl h 1 a (vs.map fun v => [v])
theorem Cl.grow {h h' : Hp} {a : Option (Nat × Nat)} {vs : List V} (s : Cl h a vs) (g : Grow h h') : Cl h' a vs := Sl.grow s g
theorem Ints.cl {h : Hp} {a : Option (Nat × Nat)} {l : List Int} (s : Ints h a l) : Cl h a (l.map iv) := by
  unfold Cl
  rw [List.map_map]
  exact s
theorem Strs.cl {h : Hp} {a : Option (Nat × Nat)} {l : List (List UInt8)} (s : Strs h a l) : Cl h a (l.map V.str) := by
  unfold Cl
  rw [List.map_map]
  exact s
theorem Cl.ints {h : Hp} {a : Option (Nat × Nat)} {l : List Int} (s : Cl h a (l.map iv)) : Ints h a l := by
  unfold Cl at s
  rw [List.map_map] at s
  exact s
theorem Cl.strs {h : Hp} {a : Option (Nat × Nat)} {l : List (List UInt8)} (s : Cl h a (l.map V.str)) : Strs h a l := by
  unfold Cl at s
  rw [List.map_map] at s
  exact s
theorem ones_flat : ∀ vs : List V, (vs.map fun v => [v]).flatten = vs
  | [] => rfl
  | v :: vs => by simp [ones_flat vs]
theorem Cl.get {h : Hp} {a : Option (Nat × Nat)} {vs : List V} (s : Cl h a vs) {i : Nat} (hi : i < vs.length) : ∃ b o, a = some (b, o) ∧ load1 h b (o + i) = some vs[i] ∧ b < h.next := by
  obtain ⟨b, o, h1, h2⟩ := Sl.at s (i := i) (by simpa using hi)
  have := h2.load1 (i := 0) (by simp)
  exact ⟨b, o, h1, by simpa using this, h2.low⟩
theorem Cl.src {h : Hp} {a : Option (Nat × Nat)} {vs : List V} (s : Cl h a vs) (c : Cap) : srcCells h 1 (.slice a vs.length c) = some (vs.length, vs) := by
  rcases Sl.pl s with h0 | ⟨b, o, rfl, hat⟩
  · obtain rfl : vs = [] := by simpa using h0
    cases a with
    | none => rfl
    | some p => obtain ⟨b, o⟩ := p; simp [srcCells]
  · show (if vs.length * 1 = 0 then some (vs.length, []) else (loadL h b o (vs.length * 1)).map fun m => (vs.length, m)) = _
    by_cases hz : vs.length * 1 = 0
    · rw [if_pos hz]
      rw [Nat.mul_one] at hz
      rw [List.eq_nil_of_length_eq_zero hz]
    · rw [if_neg hz, Nat.mul_one]
      have := hat.loadL
      rw [ones_flat] at this
      rw [this]; rfl
theorem gE1_same {f kd : Nat} (H : FnIs P Y f 26 [.tmp 4] (gE1 kd)) {h : Hp} {a b : Option (Nat × Nat)} {c d : Cap} {vs : List V} (hl : Cl h a vs) (hm : Cl h b vs) (he : ∀ v ∈ vs, eqK kd v v = some true) {n m : Nat} (hn : n = vs.length) (hm' : m = vs.length) (hb : n ≤ 9223372036854775807) :
    CW P Y f [.slice a n c, .slice b m d] none h (fun q => q = .ret (.bool true) none h) := by
  subst hn hm'
  refine CW_ic H (Nat.le_of_ble_eq_true rfl) ?_
  unfold gE1
  have e1 : ((vs.length : Int) == (vs.length : Int)) = true := bq_eq rfl
  simp only [zaa, zab, zac, zae, zaf, zai, zaj, zak, zal, zam, zap, zaq, zax, zay, zbi, zbk, zbl, zbm, Nat.reduceEqDiff, Option.map_some, Nat.reduceAdd, zcq, zct, Bool.not_true, Nat.zero_add, a_t, a_v, zdo, zdp, zdu, zeo, zep, if_true, if_false, e1]
  refine s_loop (fun j st => ∃ (i : Nat) (F : Frm), j + i = vs.length ∧ st = ⟨F, [], none, h⟩ ∧ gt F 0 = .slice a vs.length c ∧ gt F 1 = .slice b vs.length d ∧ gt F 5 = .int .i64 i) vs.length
    ⟨0, _, rfl, rfl, by simp only [zbk, Nat.reduceEqDiff, if_true, if_false], by simp only [zbk, Nat.reduceEqDiff, if_true, if_false], by simp only [zbk, Nat.reduceEqDiff, if_true, if_false]; rfl⟩ ?_
  rintro j _ ⟨i, F, hk, rfl, q0, q1, q5⟩
  by_cases hi : i < vs.length
  · have e2 : decide ((i : Int) < (vs.length : Int)) = true := decide_eq_true (by omega)
    obtain ⟨ba, oa, rfl, hla, _⟩ := hl.get hi
    obtain ⟨bb, ob, rfl, hlb, _⟩ := hm.get hi
    have e4 := he vs[i] (List.getElem_mem hi)
    have w1 : IntKind.i64.wrap ((i : Int) + 1) = ((i + 1 : Nat) : Int) := by rw [wrap_i64 (by omega) (by omega)]; rfl
    simp only [zaa, zab, zac, zad, zae, zaf, zai, zaj, zak, zal, zam, zao, zap, zaq, zax, zay, zbc, zbg, zbi, zbk, Nat.reduceEqDiff, Option.map_some, zch, zck, zct, Bool.and_self, Bool.not_true, Nat.mul_one, Int.toNat_natCast, zdh, a_t, a_v, zdo, zdp, zdt, zdu, zed, zee, zef, zeg, zeo, zep, if_true, if_false, q0, q1, q5, e2, hla, hlb, e4, w1]
    exact ⟨j - 1, by omega, i + 1, _, by omega, rfl, by simp only [zbk, Nat.reduceEqDiff, if_false, q0], by simp only [zbk, Nat.reduceEqDiff, if_false, q1], by simp only [zbk, Nat.reduceEqDiff, if_true, if_false]⟩
  · have e2 : decide ((i : Int) < (vs.length : Int)) = false := decide_eq_false (by omega)
    simp only [zaa, zac, zae, zag, zah, zai, zaj, zak, zal, zam, zap, zaq, zax, zay, zba, zbe, zbi, zbk, Nat.reduceEqDiff, zck, r_1, a_t, a_v, zdo, zdp, zdt, zeo, zep, if_true, if_false, q0, q5, e2]
/-- Cells that were lent, a mark behind. -/
structure LentC (n : Nat) (h : Hp) (v : V) (vs : List V) (mk : V) (e : Nat) : Prop where
  is : ∃ b, v = .slice (some (b, 0)) vs.length (.tl 0) ∧ h.get b = some (ambB (vs ++ [mk]) e) ∧ n ≤ b ∧ b < h.next
theorem LentC.grow {n : Nat} {h h' : Hp} {v : V} {vs : List V} {mk : V} {e : Nat} (s : LentC n h v vs mk e) (g : Grow h h') : LentC n h' v vs mk e := by
  obtain ⟨b, h1, h2, h3, h4⟩ := s
  exact ⟨b, h1, (g.get b h4).trans h2, h3, Nat.lt_of_lt_of_le h4 g.next⟩
theorem LentC.low {n k : Nat} {h : Hp} {v : V} {vs : List V} {mk : V} {e : Nat} (s : LentC n h v vs mk e) (hk : k ≤ n) : LentC k h v vs mk e := by
  obtain ⟨b, h1, h2, h3, h4⟩ := s
  exact ⟨b, h1, h2, by omega, h4⟩
theorem LentC.cl {n : Nat} {h : Hp} {v : V} {vs : List V} {mk : V} {e : Nat} (s : LentC n h v vs mk e) : ∃ b, v = .slice (some (b, 0)) vs.length (.tl 0) ∧ Cl h (some (b, 0)) vs := by
  obtain ⟨b, h1, h2, _, h3⟩ := s
  refine ⟨b, h1, ⟨fun r hr => ?_, .inr ⟨b, 0, rfl, ?_⟩⟩⟩
  · obtain ⟨x, _, rfl⟩ := List.mem_map.1 hr; rfl
  · rw [ones_flat]; exact at_amb h2 h3
theorem gL1_ok {f e bytes : Nat} {z mk : V} {zz : List V} (H : FnIs P Y f 14 [.tmp 2] (gL1 e z mk)) (T : TyIs P e 1 bytes zz) (f2 : fillV (reps 1 [z]) [(0, 1, mk)] = some [mk]) (hmk : mk.isCell = true) {h : Hp} {a : Option (Nat × Nat)} {c : Cap} {vs : List V} (hl : Cl h a vs) (hc : vs.all V.isCell = true) {n : Nat} (hn : n = vs.length)
    (hb : 2 * (n + 1) * bytes ≤ 281474976710656) (hb2 : n + 1 ≤ 4611686018427387904) :
    CW P Y f [.slice a n c] none h (fun q => ∃ v h', Grow h h' ∧ LentC h.next h' v vs mk e ∧ q = .ret v none h') := by
  subst hn
  refine CW_ic H (Nat.le_of_ble_eq_true rfl) ?_
  unfold gL1
  obtain ⟨v1, h1, ha1, s1, k1⟩ := app_nil T (by omega) h (hl.src c) (by rw [Nat.mul_one]) hc (by have : 2 * vs.length * bytes ≤ 2 * (vs.length + 1) * bytes := Nat.mul_le_mul_right _ (by omega); omega) (by omega)
  have g2 := Grow.new h1 (newBlk [mk] e)
  have o2 := Own.of_new h1 [mk] e
  generalize hh2 : h1.new (newBlk [mk] e) = h2 at g2 o2
  have s2 := s1.grow g2
  have hn2 : h.next ≤ h2.next := Nat.le_trans k1.next g2.next
  obtain ⟨v2, h3, ha2, s3, k3, _, b, rfl⟩ := app_ok T (by omega) s2 hn2 (src_own o2 rfl (by omega)) rfl (by omega) (by simp [hmk]) (k := vs.length) (by rw [Nat.mul_one]) hb hb2
  obtain ⟨b', k', hv, hlen, hget, hnb, hlt⟩ : ∃ b' k', V.slice (some (b, 0)) (vs.length + 1) (.tl 0) = .slice (some (b', 0)) k' (.tl 0) ∧ (vs ++ [mk]).length = k' * 1 ∧ h3.get b' = some (ambB (vs ++ [mk]) e) ∧ h.next ≤ b' ∧ b' < h3.next := by
    rcases s3.is with ⟨hv, _⟩ | h5
    · cases hv
    · exact h5
  cases hv
  have e1 : decide (0 ≤ vs.length) = true := by simp
  have e2 : decide (vs.length ≤ vs.length + 1) = true := by simp
  simp only [zaa, zac, zah, zai, zaj, zak, zal, zam, zaq, zax, zay, zbi, zbk, List.map_cons, List.map_nil, zbl, zbm, Nat.reduceEqDiff, Option.map_some, Bool.and_self, Nat.zero_add, Nat.add_zero, r_1, Nat.mul_one, Bool.true_and, zdj, zdm, Option.getD_none, Option.getD_some, Nat.zero_le, decide_true, Nat.sub_zero, Option.isSome_some, Bool.true_or, a_t, a_v, zdp, zeo, zep, zez, zfa, zfc, zfd, zfg, zfh, if_true, if_false, ha1, f2, hh2, ha2, e2]
  exact ⟨_, h3, (k1.trans ((g2.keep k1.next).trans k3)).grow, ⟨b, rfl, hget, hnb, hlt⟩, rfl⟩
theorem gK1_ok {f fq e kd : Nat} {mk : V} (H : FnIs P Y f 20 [.tmp 4] (gK1 e fq kd mk)) (HQ : FnIs P Y fq 26 [.tmp 4] (gE1 kd)) {h : Hp} {a : Option (Nat × Nat)} {c : Cap} {v : V} {vs : List V} {nn : Nat} (hl : LentC nn h v vs mk e) (hm : Cl h a vs) (he : ∀ v ∈ vs, eqK kd v v = some true) (hmk : eqK kd mk mk = some true) {n : Nat} (hn : n = vs.length) (hb : vs.length < 9223372036854775807) :
    CW P Y f [v, .slice a n c] none h (fun q => q = .ret (.bool true) none h) := by
  refine CW_ic H (Nat.le_of_ble_eq_true rfl) ?_
  obtain ⟨b, rfl, hcl⟩ := hl.cl
  obtain ⟨b', hv2, hget, _, hlow⟩ := hl
  cases hv2
  unfold gK1
  have hcap : capI h (some (b, 0)) e 1 (.tl 0) = vs.length + 1 := by
    unfold capI
    simp only [hget, ambB]
    simp
  have w1 : IntKind.i64.wrap ((vs.length : Int) + 1) = ((vs.length + 1 : Nat) : Int) := by rw [wrap_i64 (by omega) (by omega)]; rfl
  have e1 : decide (0 ≤ vs.length + 1) = true := by simp
  have e2 : decide (vs.length + 1 ≤ vs.length) = false := by simp
  have e3 : decide (vs.length + 1 ≤ vs.length + 1) = true := by simp
  have e5 : decide (vs.length ≤ vs.length) = true := by simp
  have e4 : decide ((vs.length : Int) < ((vs.length + 1 : Nat) : Int)) = true := decide_eq_true (by omega)
  have hld : load1 h b vs.length = some mk := by
    unfold load1
    rw [hget]
    simp [ambB]
  simp only [zaa, zac, zai, zaj, zak, zal, zam, zaq, zas, zax, zay, zbi, zbk, List.map_cons, List.map_nil, zbl, zbm, Nat.reduceEqDiff, Nat.reduceAdd, Nat.zero_add, a_t, a_v, zdp, zes, if_true, if_false]
  refine (gE1_same HQ hcl hm he rfl hn (by omega)).mono fun r hr => ?_
  simp only [hr, zah, zai, zaj, zak, zal, zam, zaq, zav, zax, zay, zbi, zbk, Nat.reduceEqDiff, Option.map_some, zch, zcu, Bool.and_self, Nat.zero_add, Nat.add_zero, zdb, zdc, zdg, r_1, Nat.mul_one, Int.toNat_natCast, zdh, zdj, zdm, Option.getD_none, Option.getD_some, Nat.zero_le, decide_true, Nat.sub_zero, Option.isSome_some, Bool.or_true, a_t, a_v, zdo, zdp, zdq, zdr, zdt, zdu, zed, zee, zef, zeg, zeo, zep, zez, zfa, zfc, zfd, if_true, if_false, Nat.reduceLeDiff, w1, e2, e4, e5, hcap, hld, hmk]
end Go.Vm
