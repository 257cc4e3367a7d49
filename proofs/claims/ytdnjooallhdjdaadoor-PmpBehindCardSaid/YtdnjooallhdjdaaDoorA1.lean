/-
  The small functions of the pmp; arrays of eight numbers.
-/
import Derived.Test.YtdnjooallhdjdaaDoorF
set_option linter.unusedSimpArgs false
set_option linter.unusedVariables false
namespace Go.Proofs.YtdnjooallhdjdaaDoor
open Go Go.Mini Go.Proofs.Tryd

def tb0 : Nat → Marks := fun _ => ⟨[], fun _ => True⟩
@[simp] theorem tb0_l (k : Nat) : (tb0 k).l = [] := id rfl
@[simp] theorem tb0_R (k x : Nat) : (tb0 k).R x := trivial

/-- Eight numbers. -/
def adr (A : Nat → Nat) : Array Value := ((List.range 8).map fun i => Value.int .u64 (A i)).toArray
@[simp] theorem adr_size (A : Nat → Nat) : (adr A).size = 8 := by simp [adr]
theorem adr_at (A : Nat → Nat) (i : Nat) (hi : i < 8) : (adr A)[i]? = some (.int .u64 (A i)) := by simp [adr, hi]
theorem adr_one (A : Nat → Nat) : oneAll (adr A).toList = true := by simp [adr, List.range_succ]
theorem adr_row (A : Nat → Nat) : (adr A).extract 0 8 = adr A := by
  apply Array.ext'; simp [adr, List.take_of_length_le]
theorem adr_set (A : Nat → Nat) (k v : Nat) (hk : k < 8) : (adr A).setIfInBounds k (.int .u64 v) = adr (fun i => if i = k then v else A i) := by
  apply Array.ext
  · simp
  · intro i h1 h2
    simp only [adr_size] at h2
    rw [Array.getElem_setIfInBounds (by simpa using h2)]
    simp only [adr, List.getElem_toArray, List.getElem_map, List.getElem_range]
    by_cases hik : i = k
    · simp [hik]
    · rw [if_neg (Ne.symm hik), if_neg hik]

theorem within_call {a b c d : Nat} {h : Hp} {K : Value → Hp → Prop} (hK : K (.bool (decide (c ≤ a) && decide (b ≤ d))) h) : ACall prog 20 [.agg #[.int .u64 a, .int .u64 b], .agg #[.int .u64 c, .int .u64 d]] h K := by
  refine acallF_of tb0 func20 rfl rfl mixed (by kernel_rfl) fun hwf => ?_
  by_cases h1 : c ≤ a
  · by_cases h2 : b ≤ d
    · have h1' : (c : Int) ≤ a := by omega
      have h2' : (b : Int) ≤ d := by omega
      simp -dsimp (disch := omega) [h1', h2']
      exact RetF.same hwf (by simp [h1, h2]) (Nat.zero_le _) (fun i hi => by simp (disch := omega)) hK
    · have h1' : (c : Int) ≤ a := by omega
      have h2' : ¬ (b : Int) ≤ d := by omega
      simp -dsimp (disch := omega) [h1', h2']
      exact RetF.same hwf (by simp [h1, h2]) (Nat.zero_le _) (fun i hi => by simp (disch := omega)) hK
  · have h1' : ¬ (c : Int) ≤ a := by omega
    simp -dsimp (disch := omega) [h1']
    exact RetF.same hwf (by simp [h1]) (Nat.zero_le _) (fun i hi => by simp (disch := omega)) hK
theorem meets_call {a b c d : Nat} {h : Hp} {K : Value → Hp → Prop} (hK : K (.bool (decide (a ≤ d) && decide (c ≤ b))) h) : ACall prog 22 [.agg #[.int .u64 a, .int .u64 b], .agg #[.int .u64 c, .int .u64 d]] h K := by
  refine acallF_of tb0 func22 rfl rfl mixed (by kernel_rfl) fun hwf => ?_
  by_cases h1 : a ≤ d
  · by_cases h2 : c ≤ b
    · have h1' : (a : Int) ≤ d := by omega
      have h2' : (c : Int) ≤ b := by omega
      simp -dsimp (disch := omega) [h1', h2']
      exact RetF.same hwf (by simp [h1, h2]) (Nat.zero_le _) (fun i hi => by simp (disch := omega)) hK
    · have h1' : (a : Int) ≤ d := by omega
      have h2' : ¬ (c : Int) ≤ b := by omega
      simp -dsimp (disch := omega) [h1', h2']
      exact RetF.same hwf (by simp [h1, h2]) (Nat.zero_le _) (fun i hi => by simp (disch := omega)) hK
  · have h1' : ¬ (a : Int) ≤ d := by omega
    simp -dsimp (disch := omega) [h1']
    exact RetF.same hwf (by simp [h1]) (Nat.zero_le _) (fun i hi => by simp (disch := omega)) hK

theorem wrap64 (n : Int) : IntKind.u64.wrap n = n % 18446744073709551616 := by simp [IntKind.wrap, IntKind.bits, IntKind.signed]
/-- How wide an access is, one at least. -/
def wid (w : Int) : Nat := (if w < 1 then 1 else w).toNat
theorem wid_pos (w : Int) : 1 ≤ wid w := by unfold wid; split <;> omega
def tb18 (s : Nat) : Nat → Marks := fun k => if k = 2 then ⟨[2, 4, 6], fun j => j ≠ s⟩ else ⟨[], fun _ => True⟩
theorem span_call {m k at_ : Nat} {w : Int} {h : Hp} {K : Value → Hp → Prop} (ha : at_ < 18446744073709551616) (hw : w ≤ 9223372036854775807)
    (hK : K (.tuple #[.agg #[.int .u64 at_, .int .u64 ((at_ + (wid w - 1)) % 18446744073709551616 : Nat)], .bool (decide (at_ + (wid w - 1) < 18446744073709551616))]) h) : ACall prog 18 [.agg #[.int .u8 m, .int .u8 k, .int .u64 at_, .int .i64 w]] h K := by
  refine acallF_of (tb18 (h.next + 1)) func18 rfl rfl mixed (by kernel_rfl) fun hwf => ?_
  have hwd : (if w < 1 then 1 else w) = (wid w : Int) := by unfold wid; split <;> omega
  have hwp := wid_pos w
  have hwl : wid w ≤ 9223372036854775807 := by unfold wid; split <;> omega
  simp -dsimp (disch := omega) [tb18, hwd]
  have e1 : IntKind.u64.wrap (at_ + ((wid w : Int) - 1)) = ((at_ + (wid w - 1)) % 18446744073709551616 : Nat) := by rw [wrap64]; omega
  have e2 : decide ((at_ : Int) ≤ IntKind.u64.wrap (at_ + ((wid w : Int) - 1))) = decide (at_ + (wid w - 1) < 18446744073709551616) := by rw [e1]; apply decide_eq_decide.2; omega
  refine ⟨fun j hj hR => by
    have hR' : j ≠ h.next + 1 := by simpa [Marks.at_R] using hR
    simp [Hp.blks_alloc, hR'], RetF.same hwf ?_ (Nat.zero_le _) (fun i hi => by simp (disch := omega)) hK⟩
  simp (disch := omega) [e1, e2]
  omega

/-! ### How many ones stand lowest -/
def onesF : Nat → Nat → Nat
  | 0, _ => 0
  | f + 1, a => if a % 2 = 1 then onesF f (a / 2) + 1 else 0
theorem onesF_le (f a : Nat) : onesF f a ≤ f := by
  induction f generalizing a with
  | zero => simp [onesF]
  | succ f ih => unfold onesF; split; have := ih (a / 2); omega; omega
theorem onesF_spec (f a : Nat) (ha : a < 2 ^ f) : ∃ j, a + 1 = 2 ^ onesF f a * (2 * j + 1) := by
  induction f generalizing a with
  | zero => exact ⟨0, by simp [onesF] at ha ⊢; omega⟩
  | succ f ih =>
    unfold onesF
    split
    · rename_i h1
      obtain ⟨j, hj⟩ := ih (a / 2) (by rw [Nat.pow_succ] at ha; omega)
      refine ⟨j, ?_⟩
      rw [Nat.pow_succ, Nat.mul_assoc, Nat.mul_comm 2, ← Nat.mul_assoc, ← hj]
      omega
    · exact ⟨a / 2, by omega⟩
def ones (a : Nat) : Nat := onesF 54 a

/-- The lowest bit of a number. -/
theorem low_and (k m : Nat) (hk : k < 64) (hm : 2 ^ k * (2 * m + 1) < 2 ^ 64) : (2 ^ k * (2 * m + 1)) &&& (2 ^ 64 - 2 ^ k * (2 * m + 1)) = 2 ^ k := by
  have hp : 2 ^ 64 = 2 ^ k * (2 * 2 ^ (63 - k)) := by rw [← Nat.pow_succ', ← Nat.pow_add]; congr 1; omega
  rw [hp] at hm ⊢
  have hm2 : 2 * m + 1 < 2 * 2 ^ (63 - k) := Nat.lt_of_mul_lt_mul_left hm
  rw [← Nat.mul_sub]
  have e1 : 2 * 2 ^ (63 - k) - (2 * m + 1) = 2 * (2 ^ (63 - k) - (m + 1)) + 1 := by omega
  rw [e1]
  apply Nat.eq_of_testBit_eq
  intro i
  rw [Nat.testBit_and, Nat.testBit_two_pow_mul, Nat.testBit_two_pow_mul, Nat.testBit_two_pow]
  by_cases hi : k ≤ i
  · rcases Nat.eq_or_lt_of_le hi with rfl | hi'
    · simp
    · obtain ⟨d, hd⟩ : ∃ d, i - k = d + 1 := ⟨i - k - 1, by omega⟩
      rw [hd, Nat.testBit_succ, Nat.testBit_succ, show (2 * m + 1) / 2 = m from by omega, show (2 * (2 ^ (63 - k) - (m + 1)) + 1) / 2 = 2 ^ (63 - k) - (m + 1) from by omega]
      rw [Nat.testBit_two_pow_sub_succ (by omega)]
      have : ¬ k = i := by omega
      simp [this]
      intros
      assumption
  · have : ¬ k = i := by omega
    simp [hi, this]

end Go.Proofs.YtdnjooallhdjdaaDoor
