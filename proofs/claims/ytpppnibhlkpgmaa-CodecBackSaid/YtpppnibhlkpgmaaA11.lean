/-
  What was put is what is taken: the plain law; the lowest bytes of a number.
-/
import Derived.Test.YtpppnibhlkpgmaaA6
namespace Go.Proofs.Ytpppnibhlkpgmaa
open Go Go.Mini Go.Proofs.Try

def lowF (N w : Int) : Int := N % 256 ^ (wideF w).toNat
theorem low_call {N w : Int} {h : Hp} {K : Value → Hp → Prop} (hN : 0 ≤ N ∧ N ≤ 18446744073709551615) (hK : K (.int .u64 (lowF N w)) h) : ACall prog 23 [.int .u64 N, .int .i64 w] h K := by
  refine acallF_of tb0 func23 rfl rfl mixed (by kernel_rfl) fun hwf => ?_
  have hw := wideF_range w
  have hww : (if 8 < (if w < 1 then 1 else w) then 8 else (if w < 1 then 1 else w)) = wideF w := rfl
  have b1 : IntKind.u64.wrap (2 ^ min 8 IntKind.u64.bits) = 256 := by kernel_rfl
  have b2 : IntKind.u64.wrap (2 ^ min 16 IntKind.u64.bits) = 65536 := by kernel_rfl
  have b3 : IntKind.u64.wrap (2 ^ min 24 IntKind.u64.bits) = 16777216 := by kernel_rfl
  have b4 : IntKind.u64.wrap (2 ^ min 32 IntKind.u64.bits) = 4294967296 := by kernel_rfl
  have b5 : IntKind.u64.wrap (2 ^ min 40 IntKind.u64.bits) = 1099511627776 := by kernel_rfl
  have b6 : IntKind.u64.wrap (2 ^ min 48 IntKind.u64.bits) = 281474976710656 := by kernel_rfl
  have b7 : IntKind.u64.wrap (2 ^ min 56 IntKind.u64.bits) = 72057594037927936 := by kernel_rfl
  have ht : ∀ M : Int, N.tmod M = N % M := fun M => Int.tmod_eq_emod_of_nonneg hN.1
  have h7 : w < 1 ∨ w = 1 ∨ w = 2 ∨ w = 3 ∨ w = 4 ∨ w = 5 ∨ w = 6 ∨ w = 7 ∨ 8 ≤ w := by omega
  rcases h7 with h7 | rfl | rfl | rfl | rfl | rfl | rfl | rfl | h7
  · have h8 : wideF w = 1 := by unfold wideF; rw [if_pos h7]; rfl
    have h9 : ¬ 8 < w := by omega
    have h10 : ¬ w = 8 := by omega
    have h11 : w ≤ 8 := by omega
    simp -dsimp (disch := omega) [h7, h9, h10, h11, b1, ht]
    exact RetF.same hwf (by simp [lowF, h8]) (Nat.zero_le _) (fun _ _ => rfl) hK
  iterate 7
    simp -dsimp (disch := omega) [b1, b2, b3, b4, b5, b6, b7, ht]
    exact RetF.same hwf (by simp [lowF, wideF]) (Nat.zero_le _) (fun _ _ => rfl) hK
  · have h8 : wideF w = 8 := by have := wideF_range w; have : ¬ wideF w < 8 := by { unfold wideF; split <;> split at * <;> omega }; omega
    have e8 : lowF N w = N := by unfold lowF; rw [h8]; exact Int.emod_eq_of_lt hN.1 (by simp; omega)
    rw [e8] at hK
    have h9 : ¬ w < 1 := by omega
    by_cases h10 : w = 8
    · simp -dsimp (disch := omega) [h10]
      exact RetF.same hwf (by simp) (Nat.zero_le _) (fun _ _ => rfl) hK
    · have h11 : ¬ w ≤ 8 := by omega
      simp -dsimp (disch := omega) [h9, h10, h11]
      exact RetF.same hwf (by simp) (Nat.zero_le _) (fun _ _ => rfl) hK

theorem bAt_digs (N : Int) (w i : Nat) (hi : i < w) : bAt (txt (digs N w)) i = N / 256 ^ i % 256 := by
  rw [bAt_txt]
  have : (digs N w)[i]? = some (digAt N i) := by simp [digs, hi]
  rw [this]
  exact ofNat_toNat _ (by omega)
theorem mod_step (N : Int) (i : Nat) : N % 256 ^ (i + 1) = N % 256 ^ i + N / 256 ^ i % 256 * 256 ^ i := by
  have h1 := Int.emod_add_mul_ediv N (256 ^ i)
  have h2 := Int.emod_add_mul_ediv N (256 ^ (i + 1))
  have h3 := Int.emod_add_mul_ediv (N / 256 ^ i) 256
  rw [div256] at h3
  rw [Int.pow_succ] at h2 ⊢
  have : (256 : Int) ^ i * 256 * (N / (256 ^ i * 256)) = 256 ^ i * (256 * (N / 256 ^ (i + 1))) := by rw [Int.pow_succ, Int.mul_assoc]
  rw [this] at h2
  have h4 : (256 : Int) ^ i * (N / 256 ^ i) = 256 ^ i * (N / 256 ^ i % 256) + 256 ^ i * (256 * (N / 256 ^ (i + 1))) := by rw [← Int.mul_add, h3]
  rw [Int.mul_comm (N / 256 ^ i % 256)]
  omega
theorem numTo_digs (N : Int) (w : Nat) : ∀ i, i ≤ w → numTo (txt (digs N w)) i = N % 256 ^ i := by
  intro i
  induction i with
  | zero => intro _; simp [numTo]
  | succ i ih =>
    intro hi
    rw [numTo, ih (by omega), bAt_digs N w i (by omega), mod_step]

/-- Where the k-th field begins. -/
def pos (l : List (Int × Int)) (k : Nat) : Nat := (Go.Proofs.Ytpppnibhlkpgmaa.putL (l.take k)).length
theorem pos_zero (l : List (Int × Int)) : pos l 0 = 0 := by simp [pos, Go.Proofs.Ytpppnibhlkpgmaa.putL]
theorem pos_all (l : List (Int × Int)) : pos l l.length = (Go.Proofs.Ytpppnibhlkpgmaa.putL l).length := by simp [pos]
theorem pos_succ (l : List (Int × Int)) (k : Nat) (f : Int × Int) (hf : l[k]? = some f) : pos l (k + 1) = pos l k + (wideF f.2).toNat := by
  unfold pos; rw [take_snoc hf, putL_snoc, List.length_append, digs_length]
theorem putL_split (l : List (Int × Int)) (k : Nat) (f : Int × Int) (hf : l[k]? = some f) : Go.Proofs.Ytpppnibhlkpgmaa.putL l = Go.Proofs.Ytpppnibhlkpgmaa.putL (l.take k) ++ (digs f.1 (wideF f.2).toNat ++ Go.Proofs.Ytpppnibhlkpgmaa.putL (l.drop (k + 1))) := by
  conv => lhs; rw [← List.take_append_drop (k + 1) l, take_snoc hf]
  simp [Go.Proofs.Ytpppnibhlkpgmaa.putL]
theorem pos_le (l : List (Int × Int)) (k : Nat) (f : Int × Int) (hf : l[k]? = some f) : pos l (k + 1) ≤ (Go.Proofs.Ytpppnibhlkpgmaa.putL l).length := by
  rw [pos_succ l k f hf, putL_split l k f hf]
  simp [pos, digs_length]
/-- The bytes of the k-th field, out of the text or its beginning. -/
theorem txt_data_ (l : List UInt8) : (txt l).data = l.toArray := rfl
theorem piece (l : List (Int × Int)) (k c : Nat) (f : Int × Int) (hf : l[k]? = some f) (hc : pos l (k + 1) ≤ c) : (txt ((Go.Proofs.Ytpppnibhlkpgmaa.putL l).take c)).extract (pos l k) (pos l (k + 1)) = txt (digs f.1 (wideF f.2).toNat) := by
  apply ByteArray.ext
  apply Array.ext'
  rw [txt_data]
  have h1 := pos_succ l k f hf
  have : ((txt ((Go.Proofs.Ytpppnibhlkpgmaa.putL l).take c)).extract (pos l k) (pos l (k + 1))).data.toList = (((Go.Proofs.Ytpppnibhlkpgmaa.putL l).take c).take (pos l (k + 1))).drop (pos l k) := by
    simp [txt_data_, List.drop_take]
  rw [this, List.take_take, Nat.min_eq_left hc, putL_split l k f hf]
  rw [show pos l (k + 1) = (Go.Proofs.Ytpppnibhlkpgmaa.putL (l.take k)).length + (wideF f.2).toNat from h1, List.take_length_add_append]
  rw [show pos l k = (Go.Proofs.Ytpppnibhlkpgmaa.putL (l.take k)).length from rfl, List.drop_left]
  rw [List.take_left' (digs_length _ _)]

end Go.Proofs.Ytpppnibhlkpgmaa
