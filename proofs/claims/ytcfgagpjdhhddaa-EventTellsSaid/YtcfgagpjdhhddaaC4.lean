/-
  Sources: what is taken, and where they stand.
-/
import Derived.Test.YtcfgagpjdhhddaaC3
set_option linter.unusedSimpArgs false
set_option linter.unusedVariables false
set_option linter.unusedSectionVars false
namespace Go.Proofs.Ytcfgagpjdhhddaa
open Go Go.Mini Go.Proofs.Try

theorem left_call {h : Hp} {s p q : Nat} {S : ByteArray} {at_ left : Int} {torn : Bool} {K : Value → Hp → Prop} (hs : Srce h s p q S at_ left torn) (hK : K (.int .i64 left) h) : ACall prog 26 [.pointer (some ⟨s, 0, none⟩)] h K := by
  refine acallF_of tb0 func26 rfl rfl mixed (by kernel_rfl) fun hwf => ?_
  have h1 := hs.bs
  unfold srcB at h1
  simp -dsimp (disch := omega)
  refine is_some h1 rfl ?_
  simp -dsimp (disch := omega) [h1]
  exact RetF.same hwf (by simp) (Nat.zero_le _) (fun _ _ => rfl) hK
theorem fail_call {h : Hp} {s p q : Nat} {S : ByteArray} {at_ left : Int} {torn : Bool} {K : Value → Hp → Prop} (hs : Srce h s p q S at_ left torn) (hK : K (.int .i64 (if torn = true then 4 else 0)) h) : ACall prog 37 [.pointer (some ⟨s, 0, none⟩)] h K := by
  refine acallF_of tb0 func37 rfl rfl mixed (by kernel_rfl) fun hwf => ?_
  have h1 := hs.bs
  unfold srcB at h1
  simp -dsimp (disch := omega)
  refine is_some h1 rfl ?_
  cases torn
  · simp -dsimp (disch := omega) [h1]
    exact RetF.same hwf (by simp) (Nat.zero_le _) (fun _ _ => rfl) hK
  · simp -dsimp (disch := omega) [h1]
    exact RetF.same hwf (by simp) (Nat.zero_le _) (fun _ _ => rfl) hK
theorem of_call {S : ByteArray} {h : Hp} {K : Value → Hp → Prop} (hl : (S.size : Int) ≤ 4611686018427387904) (hK : ∀ h' s p q, Srce h' s p q S 0 S.size false → h.next ≤ s → h.next ≤ p → h.next ≤ q → Ext h h' → K (.pointer (some ⟨s, 0, none⟩)) h') : ACall prog 25 [.string S] h K := by
  refine acallF_of tb0 func25 rfl rfl mixed (by kernel_rfl) fun hwf => ?_
  simp -dsimp (disch := omega)
  refine RetF.all (by simp) (hK _ (h.next + 1) (h.next + 2) h.next ⟨?_, ?_, ?_, ?_, ?_, ?_, ?_, ?_, ?_, ?_, ?_, ?_⟩ ?_ ?_ ?_ ?_)
  · simp -dsimp (disch := omega) [srcB]
  · simp -dsimp (disch := omega)
  · simp -dsimp (disch := omega)
  · simp
  · simp
  · simp; omega
  · omega
  · omega
  · omega
  · omega
  · omega
  · exact hl
  · omega
  · omega
  · omega
  · exact ((Ext.alloc _ _).then_alloc _).then_alloc _

def numTo (T : ByteArray) : Nat → Int
  | 0 => 0
  | k + 1 => numTo T k + bAt T k * 256 ^ k
theorem numTo_range (T : ByteArray) (k : Nat) : 0 ≤ numTo T k ∧ numTo T k < 256 ^ k := by
  induction k with
  | zero => exact ⟨Int.le_refl _, by simp [numTo]⟩
  | succ k ih =>
    have hb := bAt_range T k
    have hp : (0 : Int) < 256 ^ k := Int.pow_pos (by omega)
    have : bAt T k * 256 ^ k ≤ 255 * 256 ^ k := Int.mul_le_mul_of_nonneg_right hb.2 (by omega)
    have h0 : 0 ≤ bAt T k * 256 ^ k := Int.mul_nonneg hb.1 (by omega)
    rw [numTo, Int.pow_succ]
    omega
theorem or_step (A C : Int) (k : Nat) (hA : 0 ≤ A ∧ A < 256 ^ k) (hC : 0 ≤ C ∧ C ≤ 255) (hk : k < 8) :
    IntKind.u64.wrap (BitVec.ofInt IntKind.u64.bits A ||| BitVec.ofInt IntKind.u64.bits (IntKind.u64.wrap (C * 2 ^ min (8 * (k : Int)).toNat IntKind.u64.bits))).toNat = A + C * 256 ^ k := by
  obtain ⟨a, rfl⟩ := Int.eq_ofNat_of_zero_le hA.1
  obtain ⟨c, rfl⟩ := Int.eq_ofNat_of_zero_le hC.1
  have e0 : (2 : Int) ^ min (8 * (k : Int)).toNat IntKind.u64.bits = ((2 ^ (8 * k) : Nat) : Int) := by
    rw [show min (8 * (k : Int)).toNat IntKind.u64.bits = 8 * k from by show min (8 * (k : Int)).toNat 64 = 8 * k; omega]; exact (Int.natCast_pow 2 (8 * k)).symm
  have e1 : (256 : Int) ^ k = ((2 ^ (8 * k) : Nat) : Int) := by rw [Nat.pow_mul, Int.natCast_pow]; rfl
  rw [e1] at hA
  rw [e0, e1]
  have hp : 2 ^ (8 * k) ≤ 2 ^ 56 := Nat.pow_le_pow_right (by omega) (by omega)
  have hc : c * 2 ^ (8 * k) ≤ 255 * 2 ^ 56 := Nat.mul_le_mul (by omega) hp
  have ha : a < 2 ^ (8 * k) := by omega
  have hor : a ||| c * 2 ^ (8 * k) = a + c * 2 ^ (8 * k) := by
    have := Nat.shiftLeft_add_eq_or_of_lt ha c
    rw [Nat.shiftLeft_eq] at this
    rw [Nat.or_comm, ← this, Nat.add_comm]
  have w1 : IntKind.u64.wrap ((c : Int) * ((2 ^ (8 * k) : Nat) : Int)) = ((c * 2 ^ (8 * k) : Nat) : Int) := by
    rw [← Int.natCast_mul]; exact IntWalk.u64_in _ (by omega)
  rw [w1, BitVec.toNat_or, BitVec.toNat_ofInt, BitVec.toNat_ofInt]
  have t1 : ((a : Int) % ((2 ^ IntKind.u64.bits : Nat) : Int)).toNat = a := by
    rw [show ((2 ^ IntKind.u64.bits : Nat) : Int) = 18446744073709551616 from rfl]; omega
  have t2 : (((c * 2 ^ (8 * k) : Nat) : Int) % ((2 ^ IntKind.u64.bits : Nat) : Int)).toNat = c * 2 ^ (8 * k) := by
    rw [show ((2 ^ IntKind.u64.bits : Nat) : Int) = 18446744073709551616 from rfl]; omega
  rw [t1, t2, hor]
  rw [IntWalk.u64_in _ (by omega)]
  push_cast
  rfl

theorem got_size {h : Hp} {s p q : Nat} {S : ByteArray} {at_ left : Int} {torn : Bool} {n : Int} (hs : Srce h s p q S at_ left torn) (hn : 0 ≤ n) : ((got S at_ left torn n).size : Int) ≤ n := by
  have := hs.at0; have := hs.left0; have := hs.sum
  unfold got
  split
  · simpa [txt_size] using hn
  · rw [ByteArray.size_extract]; omega
theorem bAt_row (T : ByteArray) (k : Nat) (hk : k < T.size) : Option.map byteV T.data[k]? = some (.int .u8 (bAt T k)) := by
  have h1 : T.data[k]? = some T.data[k] := Array.getElem?_eq_getElem hk
  rw [h1]
  unfold bAt
  rw [Array.getElem?_toList, h1]
  rfl

/-- The number taken, and what there is behind. -/
theorem taken_call {w : Int} {h : Hp} {s p q : Nat} {S : ByteArray} {at_ left : Int} {torn : Bool} {K : Value → Hp → Prop} (hs : Srce h s p q S at_ left torn)
    (hK : ∀ h', Ext (h.set s (afterB p q at_ left torn (wideF w))) h' → K (.int .u64 (numTo (got S at_ left torn (wideF w)) (got S at_ left torn (wideF w)).size)) h') : ACall prog 36 [.pointer (some ⟨s, 0, none⟩), .int .i64 w] h K := by
  refine acallF_of tb0 func36 rfl rfl mixed (by kernel_rfl) fun hwf => ?_
  have hw := wideF_range w
  simp -dsimp (disch := omega)
  refine wide_call ?_
  simp -dsimp (disch := omega)
  refine text_call hs ?_
  have hc : cut0 (wideF w) = wideF w := by unfold cut0; split <;> omega
  rw [hc]
  have hT := got_size hs (n := wideF w) (by omega)
  generalize got S at_ left torn (wideF w) = T at *
  have e0 := Ext.alloc (h.set s (afterB p q at_ left torn (wideF w))) ⟨(T.data.toList.map byteV).toArray, 1, true⟩
  simp -dsimp (disch := omega)
  generalize hh : (h.set s (afterB p q at_ left torn (wideF w))) = h1 at *
  have hn1 : h1.next = h.next := by rw [← hh]; rfl
  refine awp_loop (fun t h' => h' = h1.alloc ⟨(T.data.toList.map byteV).toArray, 1, true⟩ ∧ ∃ k : Nat, t 11 = .slice (some ⟨h.next, 0, none⟩) T.size (2 * T.size + 1) ∧ t 12 = .int .i64 T.size ∧ t 13 = .int .i64 k ∧ t 4 = .int .u64 (numTo T k) ∧ k ≤ T.size) (fun t _ => T.size - ivN (t 13)) ?_ ?_
  · simp -dsimp
    exact ⟨0, rfl, rfl, Nat.zero_le _⟩
  · rintro t _ ⟨rfl, k, h11, h12, h13, h4, hk⟩
    refine vcF_sound mixed (tb := tb0) _ (by kernel_rfl) ?_
    simp -dsimp (disch := omega) [h11, h12, h13, h4]
    refine CondF_dec (fun hc => ?_) (fun hc => ?_)
    · have b1 := bAt_range T k
      have b2 := numTo_range T k
      have hrow := bAt_row T k (by omega)
      have hor := or_step (numTo T k) (bAt T k) k b2 b1 (by omega)
      simp -dsimp (disch := omega) [h11, h12, h13, h4, hn1, hrow, hor]
      refine ⟨⟨k + 1, by simp, ?_, by omega⟩, by simp [ivN]; omega⟩
      rw [numTo]
      simpa using hor
    · have : k = T.size := by omega
      subst this
      simp -dsimp (disch := omega) [h11, h12, h13, h4]
      exact RetF.all (by simp [h4]) (hK _ e0)

end Go.Proofs.Ytcfgagpjdhhddaa
