/-
  What lies behind the entry that is met makes no difference: the plain law. No program is run.
-/
import Derived.Test.YtdnjooallhdjdaaDoorA13
import Derived.Test.YtdnjooallhdjdaaDoorM25
set_option linter.unusedSimpArgs false
set_option linter.unusedVariables false
namespace Go.Proofs.YtdnjooallhdjdaaDoor
open Go Go.Mini Go.Proofs.Tryd

theorem flg_tb (c j b : Nat) : (flg c j).testBit b = (decide (b < 8) && c.testBit (8 * j + b)) := by
  unfold flg
  rw [show 256 = 2 ^ 8 from rfl, Nat.testBit_mod_two_pow, Nat.testBit_div_two_pow, Nat.add_comm]
theorem only_tb (c k b : Nat) : (onlyN c k).testBit b = (decide (8 * k ≤ b) && (decide (b - 8 * k < 8) && c.testBit b)) := by
  unfold onlyN
  rw [Nat.testBit_mul_two_pow, flg_tb]
  by_cases h : 8 * k ≤ b
  · rw [show 8 * k + (b - 8 * k) = b from by omega]
  · simp [h]
/-- An entry's byte laid over another's. -/
def mixN (F x k : Nat) : Nat := (F ^^^ onlyN F k) ||| onlyN x k
theorem flg_mix (F x k j : Nat) : flg (mixN F x k) j = if j = k then flg x k else flg F j := by
  apply Nat.eq_of_testBit_eq
  intro b
  rw [flg_tb]
  by_cases hb : b < 8
  · unfold mixN
    rw [Nat.testBit_or, Nat.testBit_xor, only_tb, only_tb]
    by_cases hj : j = k
    · subst hj
      rw [if_pos rfl, flg_tb]
      simp [hb, show 8 * j + b - 8 * j = b from by omega]
    · rw [if_neg hj, flg_tb]
      by_cases h1 : 8 * k ≤ 8 * j + b
      · have h2 : ¬ (8 * j + b - 8 * k < 8) := by omega
        simp [hb, h2]
      · simp [hb, h1]
  · by_cases hj : j = k
    · rw [if_pos hj, flg_tb]; simp [hb]
    · rw [if_neg hj, flg_tb]; simp [hb]
theorem mix_lt (F x k : Nat) (hF : F < 18446744073709551616) (hk : k < 8) : mixN F x k < 18446744073709551616 := by
  unfold mixN
  have h1 := onlyN_lt F k hk
  have h2 := onlyN_lt x k hk
  exact Nat.or_lt_two_pow (n := 64) (Nat.xor_lt_two_pow hF h1) h2
theorem andNot_val (a b d : Nat) (ha : a < 18446744073709551616) (hb : b < 18446744073709551616) (hd : d = a ^^^ (a &&& b)) (ty : TypeId) (xo yo : Operand) : abin prog .andNot ty xo yo (.int .u64 (a : Nat)) (.int .u64 (b : Nat)) = some (.int .u64 (d : Nat)) := by
  have hl : d < 2 ^ 64 := by rw [hd]; exact Nat.xor_lt_two_pow ha (Nat.lt_of_le_of_lt Nat.and_le_left ha)
  have hl' : d < 18446744073709551616 := hl
  have e : BitVec.ofInt 64 (a : Int) &&& ~~~BitVec.ofInt 64 (b : Int) = BitVec.ofInt 64 (a : Int) ^^^ (BitVec.ofInt 64 (a : Int) &&& BitVec.ofInt 64 (b : Int)) := by
    ext i hi
    simp only [BitVec.getElem_and, BitVec.getElem_not, BitVec.getElem_xor]
    cases (BitVec.ofInt 64 (a : Int))[i] <;> cases (BitVec.ofInt 64 (b : Int))[i] <;> rfl
  rw [abin_andNot, show IntKind.u64.bits = 64 from rfl, e, BitVec.toNat_xor, BitVec.toNat_and, bv_of a ha, bv_of b hb, ← hd]
  simp (disch := omega)
theorem and_val (a b d : Nat) (ha : a < 18446744073709551616) (hb : b < 18446744073709551616) (hd : d = a &&& b) (ty : TypeId) (xo yo : Operand) : abin prog .and ty xo yo (.int .u64 (a : Nat)) (.int .u64 (b : Nat)) = some (.int .u64 (d : Nat)) := by
  have hl : d < 18446744073709551616 := by rw [hd]; exact Nat.lt_of_le_of_lt Nat.and_le_left ha
  rw [abin_and, show IntKind.u64.bits = 64 from rfl, BitVec.toNat_and, bv_of a ha, bv_of b hb, ← hd]
  simp (disch := omega)
theorem or_val (a b d : Nat) (ha : a < 18446744073709551616) (hb : b < 18446744073709551616) (hd : d = a ||| b) (ty : TypeId) (xo yo : Operand) : abin prog .or ty xo yo (.int .u64 (a : Nat)) (.int .u64 (b : Nat)) = some (.int .u64 (d : Nat)) := by
  have hl : d < 2 ^ 64 := by rw [hd]; exact Nat.or_lt_two_pow ha hb
  have hl' : d < 18446744073709551616 := hl
  rw [abin_or, show IntKind.u64.bits = 64 from rfl, BitVec.toNat_or, bv_of a ha, bv_of b hb, ← hd]
  simp (disch := omega)
theorem mk_lt (i : Nat) (hi : i < 8) : mkN i < 18446744073709551616 := by
  unfold mkN
  have h2 : 2 ^ (8 * i) ≤ 2 ^ 56 := Nat.pow_le_pow_right (by omega) (by omega)
  omega
theorem and_mk (c i : Nat) : c &&& mkN i = onlyN c i := and_only c i

/-! ### Entries up to one are the same -/
theorem ent_upto {c c' : Nat} {A A' : Nat → Nat} {i : Nat} (hc : ∀ j, j ≤ i → flg c' j = flg c j) (hA : ∀ j, j ≤ i → A' j = A j) (j : Nat) (hj : j ≤ i) : ent c' A' j = ent c A j := by
  have ht : torF A' j = torF A j := by
    unfold torF
    by_cases h0 : j = 0
    · rw [if_pos h0, if_pos h0]
    · rw [if_neg h0, if_neg h0, hA (j - 1) (by omega)]
  unfold ent knd
  rw [hc j hj, hA j hj, ht]
theorem hit_upto {c c' : Nat} {A A' : Nat → Nat} {i a b : Nat} (hc : ∀ j, j ≤ i → flg c' j = flg c j) (hA : ∀ j, j ≤ i → A' j = A j) (j : Nat) (hj : j ≤ i) : entI c' A' j = entI c A j ∧ hit c' A' a b j = hit c A a b j := by
  have he : entI c' A' j = entI c A j := by
    unfold entI
    rw [Int.toNat_natCast, ent_upto hc hA j hj]
  refine ⟨he, ?_⟩
  unfold hit eB eL eF
  rw [he]
theorem behind {c c' : Nat} {A A' : Nat → Nat} {i a b : Nat} (hi : i < 8) (h : fI c A a b = i) (hc : ∀ j, j ≤ i → flg c' j = flg c j) (hA : ∀ j, j ≤ i → A' j = A j) :
    fI c' A' a b = i ∧ eF c' A' i = eF c A i ∧ eL c' A' i = eL c A i ∧ eG c' i = eG c i := by
  rcases fI_cases c A a b with ⟨h1, _⟩ | ⟨i', _, h2, h3, h4⟩
  · rw [h] at h1; omega
  · rw [h] at h2
    have : i' = i := by omega
    subst this
    refine ⟨fI_hit hi ?_ fun j hj => ?_, ?_, ?_, ?_⟩
    · rw [(hit_upto hc hA i' (Nat.le_refl _)).2]; exact h3
    · rw [(hit_upto hc hA j (by omega)).2]; exact h4 j hj
    · unfold eF; rw [(hit_upto (a := a) (b := b) hc hA i' (Nat.le_refl _)).1]
    · unfold eL; rw [(hit_upto (a := a) (b := b) hc hA i' (Nat.le_refl _)).1]
    · unfold eG
      rw [if_pos (by omega), if_pos (by omega), Int.toNat_natCast, hc i' (Nat.le_refl _)]
theorem behind_all {c c' : Nat} {A A' : Nat → Nat} {i m k at_ : Nat} {w : Int} (hi : i < 8) (h : fI c A at_ (lastOf at_ w) = i) (hc : ∀ j, j ≤ i → flg c' j = flg c j) (hA : ∀ j, j ≤ i → A' j = A j) :
    fI c' A' at_ (lastOf at_ w) = i ∧ wholeF c' A' at_ w = wholeF c A at_ w ∧ chk c' A' m k at_ w = chk c A m k at_ w := by
  obtain ⟨h1, h2, h3, h4⟩ := behind hi h hc hA
  have hw : wholeF c' A' at_ w = wholeF c A at_ w := by
    unfold wholeF
    rw [h1, h, h2, h3]
  refine ⟨h1, hw, ?_⟩
  unfold chk
  rw [hw, h1, h, h4]

/-! ### Modes -/
theorem chk_us (c : Nat) (A : Nat → Nat) (k at_ : Nat) (w : Int) : chk c A 1 k at_ w = chk c A 0 k at_ w := by
  unfold chk
  simp
theorem chk_um {c : Nat} {A : Nat → Nat} {k at_ : Nat} {w : Int} (h : chk c A 0 k at_ w = true) : chk c A 3 k at_ w = true := by
  unfold chk at h ⊢
  by_cases h1 : fits at_ w = true
  · rw [if_pos h1] at h ⊢
    by_cases h2 : fI c A at_ (lastOf at_ w) < 0
    · rw [if_pos h2]; rfl
    · rw [if_neg h2] at h ⊢
      by_cases h3 : wholeF c A at_ w = true
      · rw [if_pos h3] at h ⊢
        rw [if_neg (by omega)] at h
        split
        · rfl
        · exact h
      · rw [if_neg h3] at h; cases h
  · rw [if_neg h1] at h; cases h
/-- What M is refused. -/
theorem chk_m {c : Nat} {A : Nat → Nat} {k at_ : Nat} {w : Int} (h : chk c A 3 k at_ w = false) : fits at_ w = false ∨ (0 ≤ fI c A at_ (lastOf at_ w) ∧ (wholeF c A at_ w = false ∨ eG c (fI c A at_ (lastOf at_ w)) &&& 128 ≠ 0)) := by
  unfold chk at h
  by_cases h1 : fits at_ w = true
  · rw [if_pos h1] at h
    by_cases h2 : fI c A at_ (lastOf at_ w) < 0
    · rw [if_pos h2] at h; cases h
    · rw [if_neg h2] at h
      refine .inr ⟨by omega, ?_⟩
      by_cases h3 : wholeF c A at_ w = true
      · rw [if_pos h3] at h
        right
        intro he
        rw [if_pos ⟨rfl, he⟩] at h
        cases h
      · exact .inl (by simpa using h3)
  · exact .inl (by simpa using h1)
theorem lock_bit {c i : Nat} (hi : i < 8) (h : eG c i &&& 128 ≠ 0) : c / 2 ^ (8 * i + 7) % 2 = 1 := by
  have e : eG c i = flg c i := by unfold eG; rw [if_pos (by omega), Int.toNat_natCast]
  rw [e] at h
  rw [bit_testBit]
  have ht : (flg c i).testBit 7 = true := by
    by_cases hb : (flg c i).testBit 7 = true
    · exact hb
    · exfalso
      apply h
      apply Nat.eq_of_testBit_eq
      intro b
      rw [Nat.testBit_and, show (128 : Nat) = 2 ^ 7 from rfl, Nat.testBit_two_pow]
      by_cases h7 : 7 = b
      · subst h7; simp [hb]
      · simp [h7]
  rw [flg_tb] at ht
  simp at ht
  rw [ht]
  rfl
end Go.Proofs.YtdnjooallhdjdaaDoor
