/-
  Where an entry leads: the plain law. No program.
-/
import Derived.Test.YtmlpcnpkidmlhaaM25
set_option linter.unusedSimpArgs false
set_option linter.unusedVariables false
set_option linter.unusedSectionVars false
namespace Go.Proofs.Ytmlpcnpkidmlhaa
open Go Go.Mini

def baseE (pte : Nat) : Nat := pte / 1024 % 17592186044416 * 4096
def paN (s pte va : Nat) : Nat := baseE pte / 2 ^ s * 2 ^ s + va % 2 ^ s
theorem baseE_lt (pte : Nat) : baseE pte < 72057594037927936 := by unfold baseE; omega
theorem paN_lt (s pte va : Nat) (hs : s ≤ 56) : paN s pte va < 72057594037927936 := by
  unfold paN
  have h1 := baseE_lt pte
  have hp : 0 < 2 ^ s := Nat.pow_pos (by omega)
  have h2 : va % 2 ^ s < 2 ^ s := Nat.mod_lt _ hp
  obtain ⟨c, hc⟩ : ∃ c, 72057594037927936 = 2 ^ s * c := ⟨2 ^ (56 - s), by rw [← Nat.pow_add, show s + (56 - s) = 56 from by omega]⟩
  have h3 : baseE pte / 2 ^ s < c := by rw [Nat.div_lt_iff_lt_mul hp, Nat.mul_comm, ← hc]; exact h1
  have h4 : (baseE pte / 2 ^ s + 1) * 2 ^ s ≤ c * 2 ^ s := Nat.mul_le_mul_right _ h3
  rw [Nat.add_mul, Nat.one_mul, Nat.mul_comm c, ← hc] at h4
  omega
theorem paN_bit (s pte va k : Nat) (hs : 12 ≤ s) (hk : k < 56) : paN s pte va / 2 ^ k % 2 = if k < s then va / 2 ^ k % 2 else pte / 2 ^ (k - 2) % 2 := by
  rw [bit_testBit, bit_testBit, bit_testBit]
  unfold paN
  rw [Nat.mul_comm, Nat.testBit_two_pow_mul_add _ (Nat.mod_lt _ (Nat.pow_pos (by omega)))]
  by_cases h : k < s
  · rw [if_pos h, if_pos h, Nat.testBit_mod_two_pow]
    simp [h]
  · rw [if_neg h, if_neg h, Nat.testBit_div_two_pow]
    unfold baseE
    rw [show k - s + s = k from by omega, show (4096 : Nat) = 2 ^ 12 from rfl, ← Nat.shiftLeft_eq, Nat.testBit_shiftLeft, show (17592186044416 : Nat) = 2 ^ 44 from rfl, Nat.testBit_mod_two_pow, show (1024 : Nat) = 2 ^ 10 from rfl, Nat.testBit_div_two_pow]
    have h12 : 12 ≤ k := by omega
    have h44 : k - 12 < 44 := by omega
    simp only [h12, h44, decide_true, Bool.true_and, ge_iff_le]
    rw [show k - 12 + 10 = k - 2 from by omega]

end Go.Proofs.Ytmlpcnpkidmlhaa
