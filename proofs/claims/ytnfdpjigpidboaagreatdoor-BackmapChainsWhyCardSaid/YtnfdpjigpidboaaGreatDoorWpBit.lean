/- Sets of numbers, as the virtual machine reckons them. -/
import Derived.Test.YtnfdpjigpidboaaGreatDoorWpLem
import Derived.Test.YtnfdpjigpidboaaGreatDoorUpPure
set_option linter.unusedVariables false
set_option linter.unusedSimpArgs false
namespace Go.Vm
open Ch
variable {P : Program}
/-- A set's value. -/
def uV (x : B64) : V := .int .u64 (x.toNat : Int)
theorem wrap_u64 {n : Nat} (h : n < 18446744073709551616) : IntKind.u64.wrap (n : Int) = (n : Int) := by
  unfold IntKind.wrap
  simp only [IntKind.bits, IntKind.signed, Bool.false_and, Bool.false_eq_true, if_false, show ((2 : Int) ^ (64 : Nat)) = 18446744073709551616 from rfl]
  omega
theorem ofInt_nat (x : B64) : BitVec.ofInt 64 (x.toNat : Int) = x := by
  rw [BitVec.ofInt_natCast, BitVec.ofNat_toNat, BitVec.setWidth_eq]
theorem b_or (t : TypeId) (c : Bool) (x y : B64) : binV P .or t c (uV x) (uV y) = some (uV (x ||| y)) := by
  show (intBits .or .u64 (x.toNat : Int) (y.toNat : Int)).map (V.int .u64) = _
  unfold intBits
  simp only [Option.map_some]
  rw [show IntKind.u64.bits = 64 from rfl, ofInt_nat, ofInt_nat, wrap_u64 (x ||| y).isLt]
  rfl
theorem b_and (t : TypeId) (c : Bool) (x y : B64) : binV P .and t c (uV x) (uV y) = some (uV (x &&& y)) := by
  show (intBits .and .u64 (x.toNat : Int) (y.toNat : Int)).map (V.int .u64) = _
  unfold intBits
  simp only [Option.map_some]
  rw [show IntKind.u64.bits = 64 from rfl, ofInt_nat, ofInt_nat, wrap_u64 (x &&& y).isLt]
  rfl
theorem b_andn (t : TypeId) (c : Bool) (x y : B64) : binV P .andNot t c (uV x) (uV y) = some (uV (x &&& ~~~ y)) := by
  show (intBits .andNot .u64 (x.toNat : Int) (y.toNat : Int)).map (V.int .u64) = _
  unfold intBits
  simp only [Option.map_some]
  rw [show IntKind.u64.bits = 64 from rfl, ofInt_nat, ofInt_nat, wrap_u64 (x &&& ~~~ y).isLt]
  rfl
theorem b_shl1 (t : TypeId) (c : Bool) {i : Nat} (hi : i < 64) : binV P .shl t c (.int .u64 1) (.int .i64 (i : Int)) = some (uV ((1 : B64) <<< i)) := by
  show (if (i : Int) < 0 then none else some (V.int .u64 (IntKind.u64.wrap (1 * 2 ^ (min (i : Int).toNat IntKind.u64.bits))))) = _
  rw [if_neg (by omega)]
  have e : min (i : Int).toNat IntKind.u64.bits = i := by
    rw [show IntKind.u64.bits = 64 from rfl]; simp; omega
  rw [e]
  have h2 : 2 ^ i < 18446744073709551616 := Nat.lt_of_lt_of_le (Nat.pow_lt_pow_right (by omega) hi) (by decide)
  have h3 : (1 : Int) * 2 ^ i = ((2 ^ i : Nat) : Int) := by simp
  rw [h3, wrap_u64 h2]
  have h4 : ((1 : B64) <<< i).toNat = 2 ^ i := by
    rw [BitVec.toNat_shiftLeft, Nat.shiftLeft_eq]
    simp only [BitVec.toNat_ofNat, Nat.reducePow, Nat.reduceMod, Nat.one_mul]
    rw [show BitVec.toNat (1 : B64) = 1 from rfl, Nat.one_mul]
    exact Nat.mod_eq_of_lt h2
  unfold uV
  rw [h4]
theorem b_shr (t : TypeId) (c : Bool) (x : B64) (k : IntKind) (i : Nat) (hi : i < 64) : binV P .shr t c (uV x) (.int k (i : Int)) = some (uV (x >>> i)) := by
  show (if (i : Int) < 0 then none else some (V.int .u64 ((x.toNat : Int).fdiv (2 ^ (min (i : Int).toNat IntKind.u64.bits))))) = _
  rw [if_neg (by omega)]
  have e : min (i : Int).toNat IntKind.u64.bits = i := by
    rw [show IntKind.u64.bits = 64 from rfl]; simp; omega
  rw [e]
  unfold uV
  congr 2
  rw [BitVec.toNat_ushiftRight, Nat.shiftRight_eq_div_pow]
  have : ((2 : Int) ^ i) = ((2 ^ i : Nat) : Int) := by simp
  rw [this, Int.fdiv_eq_ediv_of_nonneg _ (Int.natCast_nonneg _)]
  exact (Int.natCast_ediv _ _).symm
theorem e_u0 (x : B64) : eqK 1 (uV x) (.int .u64 0) = some (decide (x = 0)) := by
  show some ((x.toNat : Int) == 0) = _
  congr 1
  by_cases h : x = 0
  · subst h; rfl
  · have : x.toNat ≠ 0 := fun e => h (BitVec.eq_of_toNat_eq e)
    rw [bq_ne (by omega)]; exact (decide_eq_false h).symm
theorem e_u1 (x : B64) : eqK 1 (uV x) (.int .u64 1) = some (decide (x = 1)) := by
  show some ((x.toNat : Int) == 1) = _
  congr 1
  by_cases h : x = 1
  · subst h; rfl
  · have : x.toNat ≠ 1 := fun e => h (BitVec.eq_of_toNat_eq e)
    rw [bq_ne (by omega)]; exact (decide_eq_false h).symm
theorem e_uu (x y : B64) : eqK 1 (uV x) (uV y) = some (decide (x = y)) := by
  show some ((x.toNat : Int) == (y.toNat : Int)) = _
  congr 1
  by_cases h : x = y
  · subst h; simp
  · have : x.toNat ≠ y.toNat := fun e => h (BitVec.eq_of_toNat_eq e)
    rw [bq_ne (by omega)]; exact (decide_eq_false h).symm
theorem u_0 : V.int .u64 0 = uV 0 := id rfl
theorem u_1 : V.int .u64 1 = uV 1 := id rfl
theorem c_u (x : B64) : (uV x).cells = [uV x] := id rfl
theorem i_u (x : B64) : (uV x).isCell = true := id rfl
end Go.Vm
