/-
  Numbers of bytes.
-/
import Derived.Test.YtcfgagpjdhhddaaC4
set_option linter.unusedSimpArgs false
set_option linter.unusedVariables false
set_option linter.unusedSectionVars false
namespace Go.Proofs.Ytcfgagpjdhhddaa
open Go Go.Mini Go.Proofs.Try

def numL : List UInt8 → Int
  | [] => 0
  | b :: l => (b.toNat : Int) + 256 * numL l
theorem numL_append (l : List UInt8) (b : UInt8) : numL (l ++ [b]) = numL l + (b.toNat : Int) * 256 ^ l.length := by
  induction l with
  | nil => simp [numL]
  | cons c l ih =>
    simp only [List.cons_append, numL, ih, List.length_cons, Int.pow_succ]
    rw [Int.mul_add, Int.mul_left_comm 256, ← Int.mul_comm (256 ^ l.length) 256]
    omega
theorem bAt_list (T : ByteArray) (k : Nat) (b : UInt8) (h : T.data.toList[k]? = some b) : bAt T k = b.toNat := by unfold bAt; rw [h]; rfl
theorem numTo_list (T : ByteArray) : ∀ k, k ≤ T.size → numTo T k = numL (T.data.toList.take k) := by
  intro k
  induction k with
  | zero => intro _; rfl
  | succ k ih =>
    intro hk
    have hlen : k < T.data.toList.length := by have : T.data.toList.length = T.size := rfl; omega
    obtain ⟨b, hb⟩ : ∃ b, T.data.toList[k]? = some b := ⟨_, List.getElem?_eq_getElem hlen⟩
    rw [numTo, ih (by omega), take_snoc hb, numL_append, bAt_list T k b hb, List.length_take, Nat.min_eq_left (by omega)]
theorem numL_range : ∀ l : List UInt8, 0 ≤ numL l ∧ numL l < 256 ^ l.length
  | [] => ⟨Int.le_refl _, by simp [numL]⟩
  | b :: l => by
    have ih := numL_range l
    have hb := UInt8.toNat_lt b
    simp only [numL, List.length_cons, Int.pow_succ]
    omega
theorem numL_range8 (l : List UInt8) (h : l.length ≤ 8) : 0 ≤ numL l ∧ numL l ≤ 18446744073709551615 := by
  have h1 := numL_range l
  have h2 : ((256 ^ l.length : Nat) : Int) ≤ ((256 ^ 8 : Nat) : Int) := Int.ofNat_le.2 (Nat.pow_le_pow_right (by omega) h)
  rw [show ((256 ^ 8 : Nat) : Int) = 18446744073709551616 from rfl, Int.natCast_pow 256 l.length, show ((256 : Nat) : Int) = 256 from rfl] at h2
  omega
theorem drop_cons {l : List UInt8} {k : Nat} {b : UInt8} (h : l[k]? = some b) : l.drop k = b :: l.drop (k + 1) := by
  obtain ⟨h1, h2⟩ := List.getElem?_eq_some_iff.1 h
  rw [List.drop_eq_getElem_cons h1, h2]

theorem refNumber_call {T : ByteArray} {h : Hp} {K : Value → Hp → Prop} (hl : T.size ≤ 8) (hK : K (.int .u64 (numTo T T.size)) h) : ACall prog 38 [.string T] h K := by
  refine acallF_of tb0 func38 rfl rfl mixed (by kernel_rfl) fun hwf => ?_
  have hlen : T.data.toList.length = T.size := rfl
  simp -dsimp (disch := omega)
  refine awp_loop (fun t h' => h' = h ∧ ∃ k : Nat, t 0 = .string T ∧ t 4 = .int .i64 (k - 1 : Int) ∧ t 3 = .int .u64 (numL (T.data.toList.drop k)) ∧ k ≤ T.size) (fun t _ => match t 4 with | .int _ i => (i + 1).toNat | _ => 0) ?_ ?_
  · simp -dsimp
    exact ⟨T.size, rfl, by rw [List.drop_of_length_le (by omega)]; rfl, Nat.le_refl _⟩
  · rintro t _ ⟨rfl, k, h0, h4, h3, hk⟩
    have b2 := numL_range8 (T.data.toList.drop k) (by rw [List.length_drop]; omega)
    refine vcF_sound mixed (tb := tb0) _ (by kernel_rfl) ?_
    simp -dsimp (disch := omega) [h0, h4, h3]
    refine CondF_dec (fun hc => ?_) (fun hc => ?_)
    · have hk1 : k - 1 < T.data.toList.length := by omega
      obtain ⟨b, hb⟩ : ∃ b, T.data.toList[k - 1]? = some b := ⟨_, List.getElem?_eq_getElem hk1⟩
      have b1 := bAt_range T (k - 1)
      have b3 := numL_range8 (T.data.toList.drop (k - 1)) (by rw [List.length_drop]; omega)
      have e1 : numL (T.data.toList.drop (k - 1)) = bAt T (k - 1) + 256 * numL (T.data.toList.drop k) := by
        rw [drop_cons hb, numL, bAt_list T _ b hb, show k - 1 + 1 = k from by omega]
      rw [e1] at b3
      have e2 : ((k : Int) - 1).toNat = k - 1 := by omega
      simp -dsimp (disch := omega) [h0, h4, h3, e2]
      refine ⟨⟨k - 1, ?_, ?_, by omega⟩, ?_⟩
      · omega
      · rw [e1]; omega
      · omega
    · have : k = 0 := by omega
      subst this
      simp -dsimp (disch := omega) [h0, h4, h3]
      rw [numTo_list T T.size (Nat.le_refl _), List.take_of_length_le (by omega)] at hK
      exact RetF.same hwf (by simp [h3]) (Nat.zero_le _) (fun _ _ => rfl) hK

end Go.Proofs.Ytcfgagpjdhhddaa
