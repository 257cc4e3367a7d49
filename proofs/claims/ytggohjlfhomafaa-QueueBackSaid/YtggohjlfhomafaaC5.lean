/-
  Numbers of bytes.
-/
import Derived.Test.YtggohjlfhomafaaC4
set_option linter.unusedSimpArgs false
set_option linter.unusedVariables false
set_option linter.unusedSectionVars false
namespace Go.Proofs.Ytggohjlfhomafaa
open Go Go.Mini Go.Proofs.Try

def numL : List UInt8 → Int
  | [] => 0
  | b :: l => (b.toNat : Int) + 256 * numL l
theorem numL_append (l : List UInt8) (b : UInt8) : numL (l ++ [b]) = numL l + (b.toNat : Int) * 256 ^ l.length := by
  induction l with
  | nil => simp [numL]
  | cons c l ih =>
    simp only [List.cons_append, numL, ih, List.length_cons, Int.pow_succ]
    rw [Int.mul_add, Int.mul_left_comm 256, ← Int.mul_comm (256 ^ l.length) 256]
    omega
theorem bAt_list (T : ByteArray) (k : Nat) (b : UInt8) (h : T.data.toList[k]? = some b) : bAt T k = b.toNat := by unfold bAt; rw [h]; rfl
theorem numTo_list (T : ByteArray) : ∀ k, k ≤ T.size → numTo T k = numL (T.data.toList.take k) := by
  intro k
  induction k with
  | zero => intro _; rfl
  | succ k ih =>
    intro hk
    have hlen : k < T.data.toList.length := by have : T.data.toList.length = T.size := rfl; omega
    obtain ⟨b, hb⟩ : ∃ b, T.data.toList[k]? = some b := ⟨_, List.getElem?_eq_getElem hlen⟩
    rw [numTo, ih (by omega), take_snoc hb, numL_append, bAt_list T k b hb, List.length_take, Nat.min_eq_left (by omega)]
theorem numL_range : ∀ l : List UInt8, 0 ≤ numL l ∧ numL l < 256 ^ l.length
  | [] => ⟨Int.le_refl _, by simp [numL]⟩
  | b :: l => by
    have ih := numL_range l
    have hb := UInt8.toNat_lt b
    simp only [numL, List.length_cons, Int.pow_succ]
    omega
theorem numL_range8 (l : List UInt8) (h : l.length ≤ 8) : 0 ≤ numL l ∧ numL l ≤ 18446744073709551615 := by
  have h1 := numL_range l
  have h2 : ((256 ^ l.length : Nat) : Int) ≤ ((256 ^ 8 : Nat) : Int) := Int.ofNat_le.2 (Nat.pow_le_pow_right (by omega) h)
  rw [show ((256 ^ 8 : Nat) : Int) = 18446744073709551616 from rfl, Int.natCast_pow 256 l.length, show ((256 : Nat) : Int) = 256 from rfl] at h2
  omega
theorem drop_cons {l : List UInt8} {k : Nat} {b : UInt8} (h : l[k]? = some b) : l.drop k = b :: l.drop (k + 1) := by
  obtain ⟨h1, h2⟩ := List.getElem?_eq_some_iff.1 h
  rw [List.drop_eq_getElem_cons h1, h2]

end Go.Proofs.Ytggohjlfhomafaa
