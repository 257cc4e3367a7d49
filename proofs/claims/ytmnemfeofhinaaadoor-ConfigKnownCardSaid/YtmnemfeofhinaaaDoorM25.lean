/-
  Bits of numbers of 64 bits, as quotients and remainders.
-/
import Derived.Test.YtmnemfeofhinaaaDoorM24
import Derived.IntWalk
set_option linter.unusedSimpArgs false
set_option linter.unusedVariables false
set_option linter.unusedSectionVars false
namespace Go.Mini
open Go

section
variable {P : Program}
theorem bv_of (n : Nat) (hn : n < 18446744073709551616) : (BitVec.ofInt 64 (n : Int)).toNat = n := by
  rw [BitVec.ofInt_natCast, BitVec.toNat_ofNat, Nat.mod_eq_of_lt hn]
/-- The lowest bits. -/
theorem abin_low (y k m d : Nat) (hk : k ≤ 64) (hy : y < 18446744073709551616) (hm : m = 2 ^ k - 1) (hd : d = y % 2 ^ k) (ty : TypeId) (xo yo : Operand) : abin P .and ty xo yo (.int .u64 (y : Nat)) (.int .u64 (m : Nat)) = some (.int .u64 (d : Nat)) := by
  have hp : 2 ^ k ≤ 2 ^ 64 := Nat.pow_le_pow_right (by omega) hk
  have hq : 0 < 2 ^ k := Nat.pow_pos (by omega)
  rw [abin_and, show IntKind.u64.bits = 64 from rfl, BitVec.toNat_and, bv_of y hy, bv_of m (by omega), hm, Nat.and_two_pow_sub_one_eq_mod, ← hd]
  have hdl : d < 18446744073709551616 := by rw [hd]; exact Nat.lt_of_le_of_lt (Nat.mod_le _ _) hy
  simp (disch := omega)
/-- All but the lowest bits. -/
theorem abin_high (y k m d : Nat) (hk : k ≤ 64) (hy : y < 18446744073709551616) (hm : m = 2 ^ k - 1) (hd : d = y / 2 ^ k * 2 ^ k) (ty : TypeId) (xo yo : Operand) : abin P .andNot ty xo yo (.int .u64 (y : Nat)) (.int .u64 (m : Nat)) = some (.int .u64 (d : Nat)) := by
  have hp : 2 ^ k ≤ 2 ^ 64 := Nat.pow_le_pow_right (by omega) hk
  have hq : 0 < 2 ^ k := Nat.pow_pos (by omega)
  have hdy : d ≤ y := by rw [hd]; exact Nat.div_mul_le_self _ _
  have key : (BitVec.ofInt 64 (y : Int) &&& ~~~BitVec.ofInt 64 (m : Int)).toNat = d := by
    have e : (BitVec.ofInt 64 (y : Int) &&& ~~~BitVec.ofInt 64 (m : Int)) = BitVec.ofNat 64 d := by
      apply BitVec.eq_of_getLsbD_eq
      intro i hi
      simp only [BitVec.getLsbD_and, BitVec.getLsbD_not, hi, BitVec.getLsbD_ofNat, BitVec.ofInt_natCast, decide_true, Bool.true_and]
      rw [hm, hd, Nat.testBit_two_pow_sub_one, ← Nat.shiftLeft_eq, ← Nat.shiftRight_eq_div_pow, Nat.testBit_shiftLeft, Nat.testBit_shiftRight]
      by_cases h : i < k
      · simp [h]; omega
      · simp [h, show k ≤ i from by omega]
    rw [e, BitVec.toNat_ofNat, Nat.mod_eq_of_lt (show d < 2 ^ 64 by omega)]
  rw [abin_andNot, show IntKind.u64.bits = 64 from rfl, key]
  simp (disch := omega)
/-- Bits that stand apart. -/
theorem abin_join (a b k : Nat) (hb : b < 2 ^ k) (ha : a % 2 ^ k = 0) (d : Nat) (hd : d = a + b) (hl : d < 18446744073709551616) (ty : TypeId) (xo yo : Operand) : abin P .or ty xo yo (.int .u64 (a : Nat)) (.int .u64 (b : Nat)) = some (.int .u64 (d : Nat)) := by
  have hor : a ||| b = a + b := by
    have := Nat.shiftLeft_add_eq_or_of_lt hb (a / 2 ^ k)
    rw [Nat.shiftLeft_eq, Nat.div_mul_cancel (Nat.dvd_of_mod_eq_zero ha)] at this
    exact this.symm
  rw [abin_or, show IntKind.u64.bits = 64 from rfl, BitVec.toNat_or, bv_of a (by omega), bv_of b (by omega), hor, ← hd]
  simp (disch := omega)
theorem abin_join' (a b k : Nat) (hb : b < 2 ^ k) (ha : a % 2 ^ k = 0) (d : Nat) (hd : d = a + b) (hl : d < 18446744073709551616) (ty : TypeId) (xo yo : Operand) : abin P .or ty xo yo (.int .u64 (b : Nat)) (.int .u64 (a : Nat)) = some (.int .u64 (d : Nat)) := by
  have hor : a ||| b = a + b := by
    have := Nat.shiftLeft_add_eq_or_of_lt hb (a / 2 ^ k)
    rw [Nat.shiftLeft_eq, Nat.div_mul_cancel (Nat.dvd_of_mod_eq_zero ha)] at this
    exact this.symm
  rw [abin_or, show IntKind.u64.bits = 64 from rfl, BitVec.toNat_or, bv_of a (by omega), bv_of b (by omega), Nat.or_comm, hor, ← hd]
  simp (disch := omega)
/-- Shifts. -/
theorem shr_u64 (y k : Nat) (hk : k < 64) : ((y : Int).fdiv (2 ^ (min k IntKind.u64.bits))) = ((y / 2 ^ k : Nat) : Int) := by
  rw [show IntKind.u64.bits = 64 from rfl, show min k 64 = k from by omega, Int.fdiv_eq_ediv_of_nonneg _ (Int.le_of_lt (Int.pow_pos (by omega))), Int.natCast_ediv, Int.natCast_pow]
  rfl
theorem shl_u64 (y k : Nat) (hk : k < 64) (d : Nat) (hd : d = y * 2 ^ k) (hl : d < 18446744073709551616) : IntKind.u64.wrap ((y : Int) * 2 ^ (min k IntKind.u64.bits)) = (d : Nat) := by
  rw [show IntKind.u64.bits = 64 from rfl, show min k 64 = k from by omega]
  have e : (y : Int) * 2 ^ k = ((y * 2 ^ k : Nat) : Int) := by rw [Int.natCast_mul, Int.natCast_pow]; rfl
  rw [e, ← hd, IntWalk.u64_in _ (by omega)]
end

/-! ### One bit more -/
theorem mod_bit (R k : Nat) : R % 2 ^ (k + 1) = R % 2 ^ k + (R / 2 ^ k % 2) * 2 ^ k := by
  rw [Nat.pow_succ, Nat.mod_mul, Nat.mul_comm]
theorem bit_testBit (n k : Nat) : n / 2 ^ k % 2 = (n.testBit k).toNat := by
  rw [Nat.testBit_eq_decide_div_mod_eq]
  have : n / 2 ^ k % 2 = 0 ∨ n / 2 ^ k % 2 = 1 := by omega
  rcases this with h | h <;> simp [h]
end Go.Mini
