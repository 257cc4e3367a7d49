/-
  Sums: the law's body.
-/
import Derived.Test.YtpppnibhlkpgmaaA9
namespace Go.Proofs.Ytpppnibhlkpgmaa
open Go Go.Mini Go.Proofs.Try

def tb4 : Nat → Marks := fun k => if k = 3 then ⟨[1, 3, 4, 10, 12, 15], fun _ => True⟩ else ⟨[], fun _ => True⟩
@[simp] theorem tb4_l : (tb4 3).l = [1, 3, 4, 10, 12, 15] := rfl
@[simp] theorem tb4_l8 : (tb4 8).l = [] := rfl
@[simp] theorem tb4_R (k : Nat) (x : Nat) : (tb4 k).R x := by unfold tb4; split <;> trivial

theorem xor_ne (b c : Int) (hb : 0 ≤ b ∧ b ≤ 255) (hc : 1 ≤ c ∧ c ≤ 255) :
    (((UInt8.ofNat (IntKind.u8.wrap ((((b % 2 ^ IntKind.u8.bits).toNat ^^^ (c % 2 ^ IntKind.u8.bits).toNat : Nat)) : Int)).toNat).toNat : Nat) : Int) ≠ b := by
  obtain ⟨b, rfl⟩ := Int.eq_ofNat_of_zero_le hb.1
  obtain ⟨c, rfl⟩ := Int.eq_ofNat_of_zero_le (show 0 ≤ c by omega)
  have e1 : ((b : Int) % 2 ^ IntKind.u8.bits).toNat = b := by rw [show (2 : Int) ^ IntKind.u8.bits = 256 from rfl]; omega
  have e2 : ((c : Int) % 2 ^ IntKind.u8.bits).toNat = c := by rw [show (2 : Int) ^ IntKind.u8.bits = 256 from rfl]; omega
  rw [e1, e2]
  have hlt : b ^^^ c < 2 ^ 8 := Nat.xor_lt_two_pow (by omega) (by omega)
  rw [IntWalk.u8_in _ (by omega), ofNat_toNat _ (by omega)]
  intro h
  have h1 : b ^^^ c = b := by omega
  have h2 : b ^^^ (b ^^^ c) = c := by rw [← Nat.xor_assoc, Nat.xor_self, Nat.zero_xor]
  rw [h1, Nat.xor_self] at h2
  omega

theorem codecSum_call {S T O : ByteArray} {at_ by_ : Int} {h : Hp} {K : Value → Hp → Prop} (ha : 0 ≤ at_ ∧ at_ ≤ 65535) (hb : 0 ≤ by_ ∧ by_ ≤ 255)
    (hK : ∀ h', Ext h h' → K (.bool true) h') : ACall prog 4 [.string S, .string T, .agg #[.int .u16 at_, .int .u8 by_, .string O]] h K := by
  refine acallF_of tb4 func4 rfl rfl mixed (by kernel_rfl) fun hwf => ?_
  have he0 : Ext h (h.alloc ⟨#[.int .u16 at_, .int .u8 by_, .string O], 1, true⟩) := Ext.alloc _ _
  by_cases hc1 : (600 : Int) < S.size
  · simp -dsimp (disch := omega) [hc1]
    refine awake_call fun h' he => ?_
    simp -dsimp (disch := omega)
    exact RetF.all (by simp) (hK _ (he0.trans he))
  by_cases hc2 : (600 : Int) < T.size
  · simp -dsimp (disch := omega) [hc1, hc2]
    refine awake_call fun h' he => ?_
    simp -dsimp (disch := omega)
    exact RetF.all (by simp) (hK _ (he0.trans he))
  by_cases hc3 : (600 : Int) < O.size
  · simp -dsimp (disch := omega) [hc1, hc2, hc3]
    refine awake_call fun h' he => ?_
    simp -dsimp (disch := omega)
    exact RetF.all (by simp) (hK _ (he0.trans he))
  simp -dsimp (disch := omega) [hc1, hc2, hc3]
  refine sum_call (by omega) ?_
  simp -dsimp (disch := omega) [hc1, hc2, hc3]
  refine sum_call (by omega) ?_
  by_cases hq : sumTo S S.size = sumTo O O.size
  · have s1 : (S ++ T).size = S.size + T.size := ByteArray.size_append
    have s2 : (O ++ T).size = O.size + T.size := ByteArray.size_append
    have hq2 : sumTo (S ++ T) (S ++ T).size = sumTo (O ++ T) (O ++ T).size := by
      rw [sumTo_all, sumTo_all] at *
      have d1 : (S ++ T).data.toList = S.data.toList ++ T.data.toList := by simp
      have d2 : (O ++ T).data.toList = O.data.toList ++ T.data.toList := by simp
      rw [d1, d2]
      exact sum_on _ _ _ hq
    rw [s1, s2] at hq2
    simp -dsimp (disch := omega) [hc1, hc2, hc3, hq]
    refine sum_call (by omega) ?_
    simp -dsimp (disch := omega) [hc1, hc2, hc3]
    refine sum_call (by omega) ?_
    simp -dsimp (disch := omega) [hc1, hc2, hc3, hq2]
    by_cases hz : S = ByteArray.empty
    · simp -dsimp (disch := omega) [hc1, hc2, hc3, hz]
      refine awake_call fun h' he => ?_
      simp -dsimp (disch := omega)
      exact RetF.all (by simp) (hK _ (he0.trans he))
    by_cases hy : by_ = 0
    · simp -dsimp (disch := omega) [hc1, hc2, hc3, hz, hy]
      refine awake_call fun h' he => ?_
      simp -dsimp (disch := omega)
      exact RetF.all (by simp) (hK _ (he0.trans (by simpa [hy] using he)))
    have hS : 0 < S.size := by
      rcases Nat.eq_zero_or_pos S.size with h0 | h0
      · exact (hz (by apply ByteArray.ext; apply Array.eq_empty_of_size_eq_zero; exact h0)).elim
      · exact h0
    obtain ⟨i, hi, hi2⟩ : ∃ i : Nat, at_ % (S.size : Int) = i ∧ i < S.size := ⟨(at_ % (S.size : Int)).toNat, by have := Int.emod_nonneg at_ (show (S.size : Int) ≠ 0 by omega); omega, by have := Int.emod_lt_of_pos at_ (show 0 < (S.size : Int) by omega); omega⟩
    have x1 : S.extract 0 i = txt (S.data.toList.take i) := by
      apply ByteArray.ext
      apply Array.ext'
      rw [txt_data]
      simp
    have hlen : S.data.toList.length = S.size := rfl
    have x2 : S.extract (i + 1) S.size = txt (S.data.toList.drop (i + 1)) := by
      apply ByteArray.ext
      apply Array.ext'
      rw [txt_data]
      simp
      exact List.take_of_length_le (by rw [List.length_drop]; omega)
    have y1 : (txt (S.data.toList.take i)).size = i := by simp [txt_size]; omega
    have y2 : (txt (S.data.toList.drop (i + 1))).size = S.size - (i + 1) := by simp [txt_size]
    simp -dsimp (disch := first | omega | (simp; omega)) [hc1, hc2, hc3, hz, hy, hi, x1, x2]
    refine sum_call (by simp [txt_size]; omega) ?_
    simp -dsimp (disch := omega)
    refine sum_call (by omega) ?_
    have hap : ∀ c : UInt8, (c.toNat : Int) ≠ bAt S i → ¬ sumTo (txt (S.data.toList.take i ++ c :: S.data.toList.drop (i + 1))) (txt (S.data.toList.take i ++ c :: S.data.toList.drop (i + 1))).size = sumTo S S.size := fun c hc => by
      rw [sumTo_all, sumTo_all, txt_data]
      obtain ⟨b, hbb⟩ : ∃ b, S.data.toList[i]? = some b := ⟨_, List.getElem?_eq_getElem (by omega)⟩
      have e1 : S.data.toList = S.data.toList.take i ++ [b] ++ S.data.toList.drop (i + 1) := by
        rw [← take_snoc hbb, List.take_append_drop]
      have e2 : bAt S i = b.toNat := by unfold bAt; rw [hbb]; rfl
      intro he
      have := sum_apart (S.data.toList.take i) (S.data.toList.drop (i + 1)) c b (fun hcb => hc (by rw [e2, hcb]))
      rw [← e1] at this
      exact this (by simpa using he)
    have hsz : ∀ c : UInt8, (txt (S.data.toList.take i ++ c :: S.data.toList.drop (i + 1))).size = i + (S.size - (i + 1) + 1) := fun c => by
      rw [txt_size, List.length_append, List.length_cons, List.length_take, List.length_drop]; omega
    have hne := hap _ (xor_ne (bAt S i) by_ (bAt_range S i) (by omega))
    rw [hsz] at hne
    simp -dsimp (disch := omega) [hne]
    refine awake_call fun h' he => ?_
    simp -dsimp (disch := omega)
    exact RetF.all (by simp) (hK _ ((he0.then_alloc _).trans he))
  · simp -dsimp (disch := omega) [hc1, hc2, hc3, hq]
    by_cases hz : S = ByteArray.empty
    · simp -dsimp (disch := omega) [hc1, hc2, hc3, hz]
      refine awake_call fun h' he => ?_
      simp -dsimp (disch := omega)
      exact RetF.all (by simp) (hK _ (he0.trans he))
    by_cases hy : by_ = 0
    · simp -dsimp (disch := omega) [hc1, hc2, hc3, hz, hy]
      refine awake_call fun h' he => ?_
      simp -dsimp (disch := omega)
      exact RetF.all (by simp) (hK _ (he0.trans (by simpa [hy] using he)))
    have hS : 0 < S.size := by
      rcases Nat.eq_zero_or_pos S.size with h0 | h0
      · exact (hz (by apply ByteArray.ext; apply Array.eq_empty_of_size_eq_zero; exact h0)).elim
      · exact h0
    obtain ⟨i, hi, hi2⟩ : ∃ i : Nat, at_ % (S.size : Int) = i ∧ i < S.size := ⟨(at_ % (S.size : Int)).toNat, by have := Int.emod_nonneg at_ (show (S.size : Int) ≠ 0 by omega); omega, by have := Int.emod_lt_of_pos at_ (show 0 < (S.size : Int) by omega); omega⟩
    have x1 : S.extract 0 i = txt (S.data.toList.take i) := by
      apply ByteArray.ext
      apply Array.ext'
      rw [txt_data]
      simp
    have hlen : S.data.toList.length = S.size := rfl
    have x2 : S.extract (i + 1) S.size = txt (S.data.toList.drop (i + 1)) := by
      apply ByteArray.ext
      apply Array.ext'
      rw [txt_data]
      simp
      exact List.take_of_length_le (by rw [List.length_drop]; omega)
    have y1 : (txt (S.data.toList.take i)).size = i := by simp [txt_size]; omega
    have y2 : (txt (S.data.toList.drop (i + 1))).size = S.size - (i + 1) := by simp [txt_size]
    simp -dsimp (disch := first | omega | (simp; omega)) [hc1, hc2, hc3, hz, hy, hi, x1, x2]
    refine sum_call (by simp [txt_size]; omega) ?_
    simp -dsimp (disch := omega)
    refine sum_call (by omega) ?_
    have hap : ∀ c : UInt8, (c.toNat : Int) ≠ bAt S i → ¬ sumTo (txt (S.data.toList.take i ++ c :: S.data.toList.drop (i + 1))) (txt (S.data.toList.take i ++ c :: S.data.toList.drop (i + 1))).size = sumTo S S.size := fun c hc => by
      rw [sumTo_all, sumTo_all, txt_data]
      obtain ⟨b, hbb⟩ : ∃ b, S.data.toList[i]? = some b := ⟨_, List.getElem?_eq_getElem (by omega)⟩
      have e1 : S.data.toList = S.data.toList.take i ++ [b] ++ S.data.toList.drop (i + 1) := by
        rw [← take_snoc hbb, List.take_append_drop]
      have e2 : bAt S i = b.toNat := by unfold bAt; rw [hbb]; rfl
      intro he
      have := sum_apart (S.data.toList.take i) (S.data.toList.drop (i + 1)) c b (fun hcb => hc (by rw [e2, hcb]))
      rw [← e1] at this
      exact this (by simpa using he)
    have hsz : ∀ c : UInt8, (txt (S.data.toList.take i ++ c :: S.data.toList.drop (i + 1))).size = i + (S.size - (i + 1) + 1) := fun c => by
      rw [txt_size, List.length_append, List.length_cons, List.length_take, List.length_drop]; omega
    have hne := hap _ (xor_ne (bAt S i) by_ (bAt_range S i) (by omega))
    rw [hsz] at hne
    simp -dsimp (disch := omega) [hne]
    refine awake_call fun h' he => ?_
    simp -dsimp (disch := omega)
    exact RetF.all (by simp) (hK _ ((he0.then_alloc _).trans he))

end Go.Proofs.Ytpppnibhlkpgmaa
