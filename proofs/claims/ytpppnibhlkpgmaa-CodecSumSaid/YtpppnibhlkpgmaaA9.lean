/-
  Sums: the plain law.
-/
import Derived.Test.YtpppnibhlkpgmaaA6
namespace Go.Proofs.Ytpppnibhlkpgmaa
open Go Go.Mini Go.Proofs.Try

def sumStep (n : Int) (b : UInt8) : Int := (31 * n + (b.toNat : Int)) % 4294967296
def sumL (l : List UInt8) : Int := l.foldl sumStep 1
theorem sumTo_list (T : ByteArray) : ∀ k, k ≤ T.size → sumTo T k = sumL (T.data.toList.take k) := by
  intro k
  induction k with
  | zero => intro _; rfl
  | succ k ih =>
    intro hk
    have hlen : k < T.data.toList.length := by have : T.data.toList.length = T.size := rfl; omega
    obtain ⟨b, hb⟩ : ∃ b, T.data.toList[k]? = some b := ⟨_, List.getElem?_eq_getElem hlen⟩
    have hbb : bAt T k = b.toNat := by unfold bAt; rw [hb]; rfl
    rw [sumTo, ih (by omega), take_snoc hb]
    simp [sumL, List.foldl_append, sumStep, hbb]
theorem sumTo_all (T : ByteArray) : sumTo T T.size = sumL T.data.toList := by
  have : T.data.toList.length = T.size := rfl
  rw [sumTo_list T T.size (Nat.le_refl _), List.take_of_length_le (by omega)]
theorem sumStep_range (n : Int) (b : UInt8) : 0 ≤ sumStep n b ∧ sumStep n b < 4294967296 := by unfold sumStep; omega
theorem sumL_range (l : List UInt8) : ∀ n, 0 ≤ n ∧ n < 4294967296 → 0 ≤ l.foldl sumStep n ∧ l.foldl sumStep n < 4294967296 := by
  induction l with
  | nil => intro n h; exact h
  | cons b l ih => intro n _; exact ih _ (sumStep_range n b)
theorem sumStep_inj (a b : Int) (c : UInt8) (ha : 0 ≤ a ∧ a < 4294967296) (hb : 0 ≤ b ∧ b < 4294967296) (h : sumStep a c = sumStep b c) : a = b := by
  unfold sumStep at h; omega
theorem foldl_inj (l : List UInt8) : ∀ a b, 0 ≤ a ∧ a < 4294967296 → 0 ≤ b ∧ b < 4294967296 → l.foldl sumStep a = l.foldl sumStep b → a = b := by
  induction l with
  | nil => intro a b _ _ h; exact h
  | cons c l ih =>
    intro a b ha hb h
    exact sumStep_inj a b c ha hb (ih _ _ (sumStep_range a c) (sumStep_range b c) h)
theorem sumStep_byte (n : Int) (b c : UInt8) (h : sumStep n b = sumStep n c) : b = c := by
  unfold sumStep at h
  have h1 := UInt8.toNat_lt b
  have h2 := UInt8.toNat_lt c
  apply UInt8.toNat_inj.1
  omega
/-- A sum tells apart two texts that differ in one byte. -/
theorem sum_apart (l r : List UInt8) (b c : UInt8) (hbc : b ≠ c) : sumL (l ++ [b] ++ r) ≠ sumL (l ++ [c] ++ r) := by
  intro h
  unfold sumL at h
  simp only [List.foldl_append, List.foldl_cons, List.foldl_nil] at h
  exact hbc (sumStep_byte _ b c (foldl_inj r _ _ (sumStep_range _ _) (sumStep_range _ _) h))
theorem sum_on (l l' r : List UInt8) (h : sumL l = sumL l') : sumL (l ++ r) = sumL (l' ++ r) := by
  unfold sumL at *
  rw [List.foldl_append, List.foldl_append, h]

end Go.Proofs.Ytpppnibhlkpgmaa
