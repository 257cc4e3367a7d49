/-
  RamKeeps' plain law: what stands in a memory as a text, before and behind a write. No program.
-/
import Derived.Test.YtgafaelakjnemaaP1
set_option linter.unusedSimpArgs false
set_option linter.unusedVariables false
namespace Go.Proofs.Ytgafaelakjnemaa
open Go Go.Mini

theorem txt_extract (l : List UInt8) (a b : Nat) : (txt l).extract a b = txt ((l.take b).drop a) := by
  apply ByteArray.ext
  show ((txt l).extract a b).data = _
  rw [ByteArray.data_extract]
  apply Array.ext'
  rw [Array.toList_extract]
  show (l.extract a b) = _
  rw [List.extract_eq_take_drop, List.drop_take]
  rfl
theorem bytesM_at (M : Nat → Nat) (x n i : Nat) (hi : i < n) : (bytesM M x n)[i]? = some (UInt8.ofNat (M (x + i))) := by
  unfold bytesM
  simp [hi]
/-- What stands there first. -/
def firstL (l : List UInt8) : List UInt8 := l ++ List.replicate (4096 - l.length) 0
theorem first_length (l : List UInt8) (h : l.length ≤ 4096) : (firstL l).length = 4096 := by
  unfold firstL
  rw [List.length_append, List.length_replicate]
  omega
theorem first_bytes (l : List UInt8) (h : l.length ≤ 4096) : bytesM (lay (fun _ => 0) 0 l) 0 4096 = firstL l := by
  apply List.ext_getElem?
  intro i
  by_cases hi : i < 4096
  · rw [bytesM_at _ _ _ _ hi]
    unfold lay firstL
    by_cases hl : i < l.length
    · rw [if_pos (by omega), List.getElem?_append_left hl]
      rw [List.getElem?_eq_getElem (show 0 + i - 0 < l.length by omega), List.getElem?_eq_getElem hl]
      simp
    · rw [if_neg (by omega), List.getElem?_append_right (by omega), List.getElem?_replicate, if_pos (by omega)]
      rfl
  · rw [List.getElem?_eq_none (by rw [bytesM_length]; omega), List.getElem?_eq_none (by rw [first_length l h]; omega)]
theorem take_wr (M : Nat → Nat) (x y n : Nat) (h : x + n ≤ 4096) : (bytesM (wr M x y n) 0 4096).take x = (bytesM M 0 4096).take x := by
  apply List.ext_getElem?
  intro i
  rw [List.getElem?_take, List.getElem?_take]
  by_cases hi : i < x
  · rw [if_pos hi, if_pos hi, bytesM_at _ _ _ _ (by omega), bytesM_at _ _ _ _ (by omega)]
    unfold wr
    rw [if_neg (by omega)]
  · rw [if_neg hi, if_neg hi]
theorem drop_wr (M : Nat → Nat) (x y n : Nat) : (bytesM (wr M x y n) 0 4096).drop (x + n) = (bytesM M 0 4096).drop (x + n) := by
  apply List.ext_getElem?
  intro i
  rw [List.getElem?_drop, List.getElem?_drop]
  by_cases hi : x + n + i < 4096
  · rw [bytesM_at _ _ _ _ hi, bytesM_at _ _ _ _ hi]
    unfold wr
    rw [if_neg (by omega)]
  · rw [List.getElem?_eq_none (by rw [bytesM_length]; omega), List.getElem?_eq_none (by rw [bytesM_length]; omega)]
theorem at_wr (M : Nat → Nat) (x y n i : Nat) (h : x + n ≤ 4096) (hi : i < n) : (bytesM (wr M x y n) 0 4096)[x + i]? = some (UInt8.ofNat (y / 256 ^ i % 256)) := by
  rw [bytesM_at _ _ _ _ (by omega)]
  unfold wr
  rw [if_pos (by omega), show 0 + (x + i) - x = i from by omega]
theorem leN_wr (M : Nat → Nat) (x y n : Nat) : ∀ k, k ≤ n → leN (wr M x y n) x k = y % 256 ^ k := by
  intro k
  induction k with
  | zero => intro _; rw [Nat.pow_zero, Nat.mod_one]; rfl
  | succ k ih =>
    intro hk
    rw [leN_succ, ih (by omega), Nat.pow_succ, Nat.mod_mul]
    unfold wr
    rw [if_pos (by omega), Nat.add_sub_cancel_left, Nat.mul_comm]
theorem and_low (y k : Nat) : (BitVec.ofInt 64 (y : Int) &&& BitVec.ofInt 64 ((2 ^ k - 1 : Nat) : Int)).toNat = y % 2 ^ 64 % 2 ^ k ∨ 64 < k := by
  by_cases h : 64 < k
  · exact .inr h
  · refine .inl ?_
    have hp : 2 ^ k ≤ 2 ^ 64 := Nat.pow_le_pow_right (by omega) (by omega)
    have hq : 0 < 2 ^ k := Nat.pow_pos (by omega)
    rw [BitVec.toNat_and, BitVec.ofInt_natCast, BitVec.ofInt_natCast, BitVec.toNat_ofNat, BitVec.toNat_ofNat, Nat.mod_eq_of_lt (show 2 ^ k - 1 < 2 ^ 64 by omega), Nat.and_two_pow_sub_one_eq_mod]

end Go.Proofs.Ytgafaelakjnemaa
