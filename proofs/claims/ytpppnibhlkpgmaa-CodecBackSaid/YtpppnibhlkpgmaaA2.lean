/-
  Sums of texts.
-/
import Derived.Test.YtpppnibhlkpgmaaA1
namespace Go.Proofs.Ytpppnibhlkpgmaa
open Go Go.Mini Go.Proofs.Try

def sumTo (S : ByteArray) : Nat → Int
  | 0 => 1
  | k + 1 => (31 * sumTo S k + bAt S k) % 4294967296
theorem bAt_range (S : ByteArray) (k : Nat) : 0 ≤ bAt S k ∧ bAt S k ≤ 255 := by
  unfold bAt
  have := UInt8.toNat_lt ((S.data.toList[k]?).getD 0)
  omega
theorem sumTo_range (S : ByteArray) (k : Nat) : 0 ≤ sumTo S k ∧ sumTo S k ≤ 4294967295 := by
  cases k <;> simp only [sumTo] <;> omega

theorem sum_call {S : ByteArray} {h : Hp} {K : Value → Hp → Prop} (hl : (S.size : Int) ≤ 4611686018427387904) (hK : K (.int .u32 (sumTo S S.size)) h) : ACall prog 10 [.string S] h K := by
  refine acallF_of tb0 func10 rfl rfl mixed (by kernel_rfl) fun hwf => ?_
  simp -dsimp (disch := omega)
  refine awp_loop (fun t h' => h' = h ∧ ∃ k : Nat, t 0 = .string S ∧ t 7 = .int .i64 k ∧ t 6 = .int .i64 S.size ∧ t 3 = .int .u32 (sumTo S k) ∧ k ≤ S.size) (fun t _ => S.size - ivN (t 7)) ?_ ?_
  · simp -dsimp
    exact ⟨0, rfl, rfl, Nat.zero_le _⟩
  · rintro t _ ⟨rfl, k, h0, h7, h6, h3, hk⟩
    refine vcF_sound mixed (tb := tb0) _ (by kernel_rfl) ?_
    simp -dsimp (disch := omega) [h0, h7, h6, h3]
    refine CondF_dec (fun h1 => ?_) (fun h1 => ?_)
    · have b1 := bAt_range S k
      have b2 := sumTo_range S k
      simp -dsimp (disch := omega) [h0, h7, h6, h3]
      refine ⟨⟨k + 1, by simp, ?_, by omega⟩, ?_⟩
      · simp only [sumTo, IntKind.wrap_u32]; omega
      · simp [ivN]; omega
    · have : k = S.size := by omega
      subst this
      simp -dsimp (disch := omega) [h0, h7, h6, h3]
      exact RetF.same hwf (by simp [h3]) (Nat.zero_le _) (fun _ _ => rfl) hK

theorem refSum_call {S : ByteArray} {h : Hp} {K : Value → Hp → Prop} (hl : (S.size : Int) ≤ 4611686018427387904) (hK : K (.int .u32 (sumTo S S.size)) h) : ACall prog 11 [.string S] h K := by
  refine acallF_of tb0 func11 rfl rfl mixed (by kernel_rfl) fun hwf => ?_
  simp -dsimp (disch := omega)
  refine awp_loop (fun t h' => h' = h ∧ ∃ k : Nat, t 0 = .string S ∧ t 4 = .int .i64 k ∧ t 3 = .int .u64 (sumTo S k) ∧ k ≤ S.size) (fun t _ => S.size - ivN (t 4)) ?_ ?_
  · simp -dsimp
    exact ⟨0, rfl, rfl, Nat.zero_le _⟩
  · rintro t _ ⟨rfl, k, h0, h4, h3, hk⟩
    have b1 := bAt_range S k
    have b2 := sumTo_range S k
    refine vcF_sound mixed (tb := tb0) _ (by kernel_rfl) ?_
    simp -dsimp (disch := omega) [h0, h4, h3]
    refine CondF_dec (fun h1 => ?_) (fun h1 => ?_)
    · simp -dsimp (disch := omega) [h0, h4, h3]
      refine ⟨⟨k + 1, by simp, ?_, by omega⟩, ?_⟩
      · simp only [sumTo]
      · simp [ivN]; omega
    · have : k = S.size := by omega
      subst this
      simp -dsimp (disch := omega) [h0, h4, h3]
      exact RetF.same hwf (by simp [h3]) (Nat.zero_le _) (fun _ _ => rfl) hK

end Go.Proofs.Ytpppnibhlkpgmaa
