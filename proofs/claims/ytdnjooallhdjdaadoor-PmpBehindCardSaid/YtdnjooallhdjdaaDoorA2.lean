/-
  The table of the lowest bits, and math/bits.TrailingZeros64.
-/
import Derived.Test.YtdnjooallhdjdaaDoorA1
set_option linter.unusedSimpArgs false
set_option linter.unusedVariables false
namespace Go.Proofs.YtdnjooallhdjdaaDoor
open Go Go.Mini Go.Proofs.Tryd

def tabN : List Nat := [0, 1, 56, 2, 57, 49, 28, 3, 61, 58, 42, 50, 38, 29, 17, 4, 62, 47, 59, 36, 45, 43, 51, 22, 53, 39, 33, 30, 24, 18, 12, 5, 63, 55, 48, 27, 60, 41, 37, 16, 46, 35, 44, 21, 52, 32, 23, 11, 54, 26, 40, 15, 34, 20, 31, 10, 25, 14, 19, 9, 13, 8, 7, 6]
def tab : Array Value := (tabN.map fun n : Nat => Value.int .u8 n).toArray
def ix (k : Nat) : Nat := (2 ^ k * 285870213051353865 % 18446744073709551616) / 288230376151711744
theorem ix_lt (k : Nat) : ix k < 64 := by unfold ix; omega
theorem tab_size : tab.size = 64 := rfl
theorem tab_at (k : Nat) (hk : k < 64) : tab[ix k]? = some (.int .u8 k) := by
  have h : ∀ k : Fin 64, tabN[(2 ^ k.val * 285870213051353865 % 18446744073709551616) / 288230376151711744]? = some k.val := by decide +kernel
  have := h ⟨k, hk⟩
  simp only at this
  unfold tab ix
  rw [List.getElem?_toArray, List.getElem?_map, this]
  rfl

theorem tz_ix {n k : Nat} (hpos : n ≠ 0) (hlt : n < 18446744073709551616) (hk : k < 64) (hla : n &&& 2 ^ 64 - n = 2 ^ k) : (IntKind.u64.wrap (IntKind.u64.wrap ↑(n % 2 ^ IntKind.u64.bits &&& (IntKind.u64.wrap (-(n : Int)) % 2 ^ IntKind.u64.bits).toNat) * 285870213051353865)).fdiv (2 ^ min 58 IntKind.u64.bits) = (ix k : Nat) := by
  have b1 : (2 : Nat) ^ IntKind.u64.bits = 18446744073709551616 := rfl
  have b2 : (2 : Int) ^ IntKind.u64.bits = 18446744073709551616 := rfl
  have b3 : (2 : Int) ^ min 58 IntKind.u64.bits = 288230376151711744 := rfl
  have b4 : n % 18446744073709551616 = n := Nat.mod_eq_of_lt hlt
  have b5 : (IntKind.u64.wrap (-(n : Int)) % 18446744073709551616).toNat = 2 ^ 64 - n := by rw [wrap64]; omega
  rw [b1, b2, b3, b4, b5, hla, Int.fdiv_eq_ediv_of_nonneg _ (by omega), wrap64, wrap64]
  have b6 : ((2 ^ k : Nat) : Int) % 18446744073709551616 = (2 ^ k : Nat) := by
    have h1 : 2 ^ k ≤ 2 ^ 63 := Nat.pow_le_pow_right (by omega) (by omega)
    generalize 2 ^ k = q at h1
    omega
  rw [b6]
  unfold ix
  generalize 2 ^ k = q
  omega

theorem tz_call {n k m : Nat} {h : Hp} {K : Value → Hp → Prop} (ht : h.blks 100 = some ⟨tab, 1, false⟩) (hn : n = 2 ^ k * (2 * m + 1)) (hlt : n < 18446744073709551616) (hk : k < 64) (hK : K (.int .i64 k) h) : ACall prog 21 [.int .u64 n] h K := by
  refine acallF_of tb0 func21 rfl rfl mixed (by kernel_rfl) fun hwf => ?_
  have hp : 0 < 2 ^ k := Nat.pow_pos (by omega)
  have hpos : n ≠ 0 := by rw [hn]; exact Nat.ne_of_gt (Nat.mul_pos hp (by omega))
  have hn0 : ¬ (n : Int) = 0 := by omega
  have hla := low_and k m hk (by rw [← hn]; exact hlt)
  rw [← hn] at hla
  obtain ⟨j, hj, e1, htab⟩ : ∃ j : Nat, j < 64 ∧ (IntKind.u64.wrap (IntKind.u64.wrap ↑(n % 2 ^ IntKind.u64.bits &&& (IntKind.u64.wrap (-(n : Int)) % 2 ^ IntKind.u64.bits).toNat) * 285870213051353865)).fdiv (2 ^ min 58 IntKind.u64.bits) = j ∧ tab[j]? = some (.int .u8 k) := ⟨ix k, ix_lt k, tz_ix hpos hlt hk hla, tab_at k hk⟩
  clear hla hn hp
  generalize tab = T at *
  simp -dsimp (disch := omega) [hn0, hpos, ht, e1, htab]
  exact RetF.same hwf (by simp) (Nat.zero_le _) (fun _ _ => rfl) hK

end Go.Proofs.YtdnjooallhdjdaaDoor
