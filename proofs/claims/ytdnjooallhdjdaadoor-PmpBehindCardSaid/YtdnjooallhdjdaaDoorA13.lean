/-
  The sizes of ranges: the law's body.
-/
import Derived.Test.YtdnjooallhdjdaaDoorA11
set_option linter.unusedSimpArgs false
set_option linter.unusedVariables false
namespace Go.Proofs.YtdnjooallhdjdaaDoor
open Go Go.Mini Go.Proofs.Tryd

def onlyN (c i : Nat) : Nat := flg c i * 2 ^ (8 * i)
theorem flg_lt (c i : Nat) : flg c i < 256 := Nat.mod_lt _ (by omega)
theorem onlyN_lt (c i : Nat) (hi : i < 8) : onlyN c i < 18446744073709551616 := by
  have h1 := flg_lt c i
  have h2 : 2 ^ (8 * i) ≤ 2 ^ 56 := Nat.pow_le_pow_right (by omega) (by omega)
  have h3 : flg c i * 2 ^ (8 * i) ≤ 255 * 2 ^ 56 := Nat.mul_le_mul (by omega) h2
  unfold onlyN
  omega
theorem flg_only (c i j : Nat) : flg (onlyN c i) j = if j = i then flg c i else 0 := by
  have h1 := flg_lt c i
  unfold onlyN
  by_cases hj : j = i
  · subst hj
    rw [if_pos rfl]
    have h2 : flg (flg c j * 2 ^ (8 * j)) j = flg c j * 2 ^ (8 * j) / 2 ^ (8 * j) % 256 := rfl
    rw [h2, Nat.mul_div_cancel _ (Nat.pow_pos (by omega)), Nat.mod_eq_of_lt h1]
  · rw [if_neg hj]
    have h2 : flg (flg c i * 2 ^ (8 * i)) j = flg c i * 2 ^ (8 * i) / 2 ^ (8 * j) % 256 := rfl
    rw [h2]
    by_cases hlt : j < i
    · have : 8 * i = 8 * j + (8 * (i - j - 1) + 8) := by omega
      rw [this, Nat.pow_add, Nat.pow_add, Nat.mul_left_comm, Nat.mul_div_cancel_left _ (Nat.pow_pos (by omega)), ← Nat.mul_assoc]
      exact Nat.mul_mod_left _ _
    · have : 8 * j = 8 * i + (8 * (j - i - 1) + 8) := by omega
      rw [this, Nat.pow_add, ← Nat.div_div_eq_div_mul, Nat.mul_div_cancel _ (Nat.pow_pos (by omega)), Nat.pow_add]
      rw [Nat.div_eq_of_lt]
      have : 1 ≤ 2 ^ (8 * (j - i - 1)) := Nat.pow_pos (by omega)
      have h3 : 256 ≤ 2 ^ (8 * (j - i - 1)) * 2 ^ 8 := by omega
      omega
theorem and_only (c i : Nat) : c &&& 255 * 2 ^ (8 * i) = onlyN c i := by
  apply Nat.eq_of_testBit_eq
  intro b
  unfold onlyN flg
  rw [Nat.testBit_and, Nat.testBit_mul_two_pow, Nat.testBit_mul_two_pow, show 255 = 2 ^ 8 - 1 from rfl, Nat.testBit_two_pow_sub_one, show 256 = 2 ^ 8 from rfl, Nat.testBit_mod_two_pow, Nat.testBit_div_two_pow]
  by_cases h1 : 8 * i ≤ b
  · rw [show b - 8 * i + 8 * i = b from by omega]
    by_cases h2 : b - 8 * i < 8 <;> simp [h1, h2]
  · simp [h1]
def mkN (i : Nat) : Nat := 255 * 2 ^ (8 * i)
theorem only_eq (c i : Nat) (hc : c < 18446744073709551616) (hi : i < 8) : IntKind.u64.wrap ↑(c % 2 ^ IntKind.u64.bits &&& mkN i % 2 ^ IntKind.u64.bits) = (onlyN c i : Nat) := by
  unfold mkN
  have h2 : 2 ^ (8 * i) ≤ 2 ^ 56 := Nat.pow_le_pow_right (by omega) (by omega)
  have h3 : 255 * 2 ^ (8 * i) ≤ 255 * 2 ^ 56 := Nat.mul_le_mul (by omega) h2
  have h4 := onlyN_lt c i hi
  rw [bits64, Nat.mod_eq_of_lt (show c < 2 ^ 64 from hc), Nat.mod_eq_of_lt (show 255 * 2 ^ (8 * i) < 2 ^ 64 by omega), and_only, wrap64]
  omega

def shN (c i : Nat) : Nat := c / 2 ^ (8 * i + 3)
theorem sh3_eq (c i : Nat) (hi : i < 8) : (c : Int).fdiv (2 ^ min (8 * (i : Int) + 3).toNat IntKind.u64.bits) = (shN c i : Nat) := by
  rw [show min (8 * (i : Int) + 3).toNat IntKind.u64.bits = 8 * i + 3 from by show min (8 * (i : Int) + 3).toNat 64 = 8 * i + 3; omega, Int.fdiv_eq_ediv_of_nonneg _ (Int.le_of_lt (Int.pow_pos (by omega)))]
  rw [show ((2 : Int) ^ (8 * i + 3)) = ((2 ^ (8 * i + 3) : Nat) : Int) from (Int.natCast_pow 2 (8 * i + 3)).symm]
  rfl
theorem shN_mod (c i : Nat) : shN c i % 4 = knd c i := by
  unfold shN knd flg
  rw [Nat.pow_add, ← Nat.div_div_eq_div_mul]
  omega
theorem mk_eq (i : Nat) (hi : i < 8) : IntKind.u64.wrap (255 * 2 ^ min (8 * (i : Int)).toNat IntKind.u64.bits) = (mkN i : Nat) := by
  have h2 : 2 ^ (8 * i) ≤ 2 ^ 56 := Nat.pow_le_pow_right (by omega) (by omega)
  rw [show min (8 * (i : Int)).toNat IntKind.u64.bits = 8 * i from by show min (8 * (i : Int)).toNat 64 = 8 * i; omega, show ((2 : Int) ^ (8 * i)) = ((2 ^ (8 * i) : Nat) : Int) from (Int.natCast_pow 2 (8 * i)).symm, wrap64]
  unfold mkN
  generalize 2 ^ (8 * i) = q at *
  omega
theorem ent_only {c : Nat} {A : Nat → Nat} {i : Nat} (j : Nat) : ent (onlyN c i) A j = if j = i then ent c A i else none := by
  have hf := flg_only c i j
  by_cases hj : j = i
  · subst hj
    rw [if_pos rfl] at hf ⊢
    unfold ent knd
    rw [hf]
  · rw [if_neg hj] at hf ⊢
    unfold ent knd
    rw [hf]
    rfl
theorem ent_sizes {c : Nat} {A : Nat → Nat} {i f l : Nat} (h : ent c A i = some (f, l)) : ∃ S, l + 1 = f + S ∧ f % 4 = 0 ∧ S % 4 = 0 ∧ 1 ≤ S ∧ knd c i ≠ 0 ∧ (knd c i = 2 → S = 4) ∧ (knd c i = 3 → 8 ≤ S ∧ S &&& (S - 1) = 0 ∧ f % S = 0) := by
  unfold ent at h
  by_cases k1 : knd c i = 1
  · rw [if_pos k1] at h
    have hq : quad (A i) % 4 = 0 := by unfold quad; omega
    have ht : torF A i % 4 = 0 := by
      unfold torF; split
      · rfl
      · unfold quad; omega
    split at h
    · simp only [Option.some.injEq, Prod.mk.injEq] at h
      obtain ⟨rfl, rfl⟩ := h
      exact ⟨quad (A i) - torF A i, by omega, ht, by omega, by omega, by omega, by omega, by omega⟩
    · cases h
  · rw [if_neg k1] at h
    by_cases k2 : knd c i = 2
    · rw [if_pos k2] at h
      simp only [Option.some.injEq, Prod.mk.injEq] at h
      obtain ⟨rfl, rfl⟩ := h
      exact ⟨4, by omega, by unfold quad; omega, by omega, by omega, by omega, by omega, by omega⟩
    · rw [if_neg k2] at h
      by_cases k3 : knd c i = 3
      · rw [if_pos k3] at h
        simp only [Option.some.injEq, Prod.mk.injEq] at h
        obtain ⟨rfl, rfl⟩ := h
        have p3 := pw_pos (A i)
        obtain ⟨j, hj⟩ := onesF_spec 54 (low54 (A i)) (low54_lt (A i))
        rw [show onesF 54 (low54 (A i)) = ones (low54 (A i)) from rfl] at hj
        have hp : 2 ^ ones (low54 (A i)) = pw (A i) := rfl
        rw [hp, Nat.mul_add, Nat.mul_one] at hj
        refine ⟨pw8 (A i), ?_, ?_, ?_, ?_, by omega, by omega, fun _ => ⟨?_, ?_, ?_⟩⟩
        · unfold top pw8; omega
        · unfold bot; omega
        · unfold pw8; omega
        · unfold pw8; omega
        · unfold pw8; omega
        · have h8 : pw8 (A i) = 2 ^ (3 + ones (low54 (A i))) := by unfold pw8 pw; rw [Nat.pow_add]
          rw [h8, Nat.and_two_pow_sub_one_eq_mod, Nat.mod_self]
        · have hb : bot (A i) = pw8 (A i) * j := by
            have : clr (A i) = pw (A i) * (2 * j) := by unfold clr; omega
            unfold bot pw8
            rw [this, Nat.mul_left_comm (pw (A i)), ← Nat.mul_assoc, ← Nat.mul_assoc]
          rw [hb]
          exact Nat.mul_mod_right _ _
      · rw [if_neg k3] at h; cases h
theorem wid_zero : wid 0 = 1 := rfl
theorem last_zero {p : Nat} (hp : p < 18446744073709551616) : lastOf p 0 = p := by
  have hfd : fits p 0 = true := by unfold fits; rw [wid_zero]; simpa using hp
  unfold lastOf; rw [if_pos hfd, wid_zero]; omega
theorem fI_only {c : Nat} {A : Nat → Nat} {i f l p : Nat} (hi : i < 8) (h : ent c A i = some (f, l)) : fI (onlyN c i) A p p = if f ≤ p ∧ p ≤ l then (i : Int) else -1 := by
  have hj : ∀ j : Nat, j < 8 → entI (onlyN c i) A j = if j = i then some (f, l) else none := fun j hj => by
    unfold entI
    rw [if_pos (by omega), Int.toNat_natCast, ent_only, h]
  have hh : ∀ j : Nat, j < 8 → (hit (onlyN c i) A p p j = true ↔ j = i ∧ p ≤ l ∧ f ≤ p) := fun j hj8 => by
    rw [hit_iff]
    unfold eB eL eF
    rw [hj j hj8]
    by_cases hji : j = i
    · simp [hji]
    · simp [hji]
  by_cases hp : f ≤ p ∧ p ≤ l
  · rw [if_pos hp]
    exact fI_hit hi ((hh i hi).2 ⟨rfl, hp.2, hp.1⟩) fun j hj' => not_hit.2 fun q => by have := (hh j (by omega)).1 q; omega
  · rw [if_neg hp]
    exact fI_none fun j hj' => not_hit.2 fun q => by have := (hh j hj').1 q; omega

theorem pmpSizes_call {c : Nat} {A : Nat → Nat} {n : Nat} {h : Hp} {K : Value → Hp → Prop} (hr : Regs h c A) (hn8 : n < 256) (hK : K (.bool true) h) : ACall prog 7 [.int .u64 c, .agg (adr A), .int .u8 n] h K := by
  refine acallF_of tb0 func7 rfl rfl mixed (by kernel_rfl) fun hwf => ?_
  have a1 := adr_size A
  have a2 := adr_one A
  have a3 := adr_row A
  have hn : 100 < h.next := hwf.lt _ _ hr.tab
  have hr' : Regs (h.alloc ⟨adr A, 1, true⟩) c A := ⟨by simp (disch := omega) [hr.tab], hr.cfg, hr.adr⟩
  obtain ⟨i, hi, hi8⟩ : ∃ i : Nat, ((n : Nat) : Int) % 8 = i ∧ i < 8 := ⟨n % 8, by omega, by omega⟩
  have e5 := sh3_eq c i hi8
  have e6 : ((shN c i : Nat) : Int) % 4 = (knd c i : Nat) := by rw [← shN_mod]; rfl
  have m1 := mk_eq i hi8
  have m2 := only_eq c i hr.cfg hi8
  have hol := onlyN_lt c i hi8
  have hkl : knd c i < 4 := Nat.mod_lt _ (by omega)
  simp -dsimp (disch := omega) [a2, a3, hi, m1, m2]
  refine range_call hr' ?_
  cases he : ent c A i with
  | none =>
    have hI : entI c A i = none := by unfold entI; rw [if_pos (by omega)]; exact he
    have v1 : eB c A i = false := by unfold eB; rw [hI]; rfl
    have v2 : eF c A i = 0 := by unfold eF; rw [hI]; rfl
    have v3 : eL c A i = 0 := by unfold eL; rw [hI]; rfl
    have hk : knd c i = 0 ∨ knd c i = 1 := by
      unfold ent at he
      by_cases k1 : knd c i = 1
      · exact .inr k1
      · rw [if_neg k1] at he
        by_cases k2 : knd c i = 2
        · rw [if_pos k2] at he; cases he
        · rw [if_neg k2] at he
          by_cases k3 : knd c i = 3
          · rw [if_pos k3] at he; cases he
          · omega
    rw [v1, v2, v3]
    rcases hk with hk | hk
    · simp -dsimp (disch := omega) [a2, a3, hi, e5, e6, hk]
      refine awake_call hr'.tab ?_
      simp -dsimp (disch := omega) [a2, a3, hi, e5, e6]
      exact RetF.same hwf (by simp (disch := omega)) (Nat.zero_le _) (fun i hi => by simp (disch := omega)) hK
    · simp -dsimp (disch := omega) [a2, a3, hi, e5, e6, hk]
      refine awake_call hr'.tab ?_
      simp -dsimp (disch := omega) [a2, a3, hi, e5, e6]
      exact RetF.same hwf (by simp (disch := omega)) (Nat.zero_le _) (fun i hi => by simp (disch := omega)) hK
  | some fl =>
    obtain ⟨f, l⟩ := fl
    have hI : entI c A i = some (f, l) := by unfold entI; rw [if_pos (by omega)]; exact he
    have v1 : eB c A i = true := by unfold eB; rw [hI]; rfl
    have v2 : eF c A i = f := by unfold eF; rw [hI]; rfl
    have v3 : eL c A i = l := by unfold eL; rw [hI]; rfl
    obtain ⟨fl1, fl2⟩ := ent_lt he
    obtain ⟨S, s1, s2, s3, s4, s5, s6, s7⟩ := ent_sizes he
    have hro : Regs (h.alloc ⟨adr A, 1, true⟩) (onlyN c i) A := ⟨hr'.tab, hol, hr.adr⟩
    have z1 : ((l : Nat) : Int) - f + 1 = S := by omega
    have z2 : ((f : Nat) : Int) % 4 = 0 := by omega
    have z3 : ((S : Nat) : Int) % 4 = 0 := by omega
    have z4 : ¬ ((l : Nat) : Int) < f := by omega
    obtain ⟨L1, hL1⟩ : ∃ L1, L1 = l + 1 := ⟨_, rfl⟩
    have f1 : fI (onlyN c i) A f f = i := by rw [fI_only hi8 he, if_pos ⟨Nat.le_refl _, fl1⟩]
    have f2 : fI (onlyN c i) A l l = i := by rw [fI_only hi8 he, if_pos ⟨fl1, Nat.le_refl _⟩]
    have f3 : fI (onlyN c i) A L1 L1 = -1 := by rw [fI_only hi8 he, if_neg (by omega)]
    obtain ⟨q, hq, hq2, hq3⟩ : ∃ q : Nat, IntKind.u64.wrap ((f : Int) - 1) = q ∧ q < 18446744073709551616 ∧ ¬ (f ≤ q ∧ q ≤ l) := by
      by_cases hf0 : f = 0
      · exact ⟨18446744073709551615, by rw [wrap64]; omega, by omega, by omega⟩
      · exact ⟨f - 1, by rw [wrap64]; omega, by omega, by omega⟩
    have f4 : fI (onlyN c i) A q q = -1 := by rw [fI_only hi8 he, if_neg hq3]
    have g1 := last_zero (p := f) (by omega)
    have g2 := last_zero (p := l) (by omega)
    have g3 := last_zero (p := L1) (by omega)
    have g4 := last_zero (p := q) (by omega)
    have z7 : ((l : Nat) : Int) + 1 = (L1 : Nat) := by omega
    rw [v1, v2, v3]
    have k123 : knd c i = 1 ∨ knd c i = 2 ∨ knd c i = 3 := by omega
    rcases k123 with hk | hk | hk
    · skip
      simp -dsimp (disch := omega) [a2, a3, hi, e5, e6, hk, z1, z2, z3, z4]
      refine first_call (m := 0) (k := 0) (at_ := f) (w := 0) hro (by omega) (by omega) ?_
      rw [g1, f1]
      simp -dsimp (disch := omega) [a2, a3]
      refine first_call (m := 0) (k := 0) (at_ := l) (w := 0) hro (by omega) (by omega) ?_
      rw [g2, f2]
      simp -dsimp (disch := omega) [a2, a3, z7]
      refine first_call (m := 0) (k := 0) (at_ := L1) (w := 0) hro (by omega) (by omega) ?_
      rw [g3, f3]
      simp -dsimp (disch := omega) [a2, a3, hq]
      refine first_call (m := 0) (k := 0) (at_ := q) (w := 0) hro (by omega) (by omega) ?_
      rw [g4, f4]
      simp -dsimp (disch := omega) [a2, a3]
      refine awake_call hr'.tab ?_
      simp -dsimp (disch := omega) [a2, a3]
      exact RetF.same hwf (by simp (disch := omega)) (Nat.zero_le _) (fun i hi => by simp (disch := omega)) hK
    · have z8 : S = 4 := s6 hk
      simp -dsimp (disch := omega) [a2, a3, hi, e5, e6, hk, z1, z2, z3, z4, z8]
      refine first_call (m := 0) (k := 0) (at_ := f) (w := 0) hro (by omega) (by omega) ?_
      rw [g1, f1]
      simp -dsimp (disch := omega) [a2, a3]
      refine first_call (m := 0) (k := 0) (at_ := l) (w := 0) hro (by omega) (by omega) ?_
      rw [g2, f2]
      simp -dsimp (disch := omega) [a2, a3, z7]
      refine first_call (m := 0) (k := 0) (at_ := L1) (w := 0) hro (by omega) (by omega) ?_
      rw [g3, f3]
      simp -dsimp (disch := omega) [a2, a3, hq]
      refine first_call (m := 0) (k := 0) (at_ := q) (w := 0) hro (by omega) (by omega) ?_
      rw [g4, f4]
      simp -dsimp (disch := omega) [a2, a3]
      refine awake_call hr'.tab ?_
      simp -dsimp (disch := omega) [a2, a3]
      exact RetF.same hwf (by simp (disch := omega)) (Nat.zero_le _) (fun i hi => by simp (disch := omega)) hK
    · obtain ⟨w1, w2, w3⟩ := s7 hk
      have z5 : ¬ ((S : Nat) : Int) < 8 := by omega
      have y1 : IntKind.u64.wrap ((S % 2 ^ IntKind.u64.bits &&& ((((S : Nat) : Int) - 1) % 2 ^ IntKind.u64.bits).toNat : Nat) : Int) = 0 := by
        have b1 : ((((S : Nat) : Int) - 1) % 2 ^ IntKind.u64.bits).toNat = S - 1 := by
          rw [show ((2 : Int) ^ IntKind.u64.bits) = 18446744073709551616 from rfl]; omega
        rw [b1, bits64, Nat.mod_eq_of_lt (show S < 2 ^ 64 by omega), w2]
        rfl
      have y2 : ((f : Nat) : Int) % (S : Nat) = 0 := by rw [← Int.natCast_emod, w3]; rfl
      simp -dsimp (disch := omega) [a2, a3, hi, e5, e6, hk, z1, z2, z3, z4, z5, y1, y2]
      refine first_call (m := 0) (k := 0) (at_ := f) (w := 0) hro (by omega) (by omega) ?_
      rw [g1, f1]
      simp -dsimp (disch := omega) [a2, a3]
      refine first_call (m := 0) (k := 0) (at_ := l) (w := 0) hro (by omega) (by omega) ?_
      rw [g2, f2]
      simp -dsimp (disch := omega) [a2, a3, z7]
      refine first_call (m := 0) (k := 0) (at_ := L1) (w := 0) hro (by omega) (by omega) ?_
      rw [g3, f3]
      simp -dsimp (disch := omega) [a2, a3, hq]
      refine first_call (m := 0) (k := 0) (at_ := q) (w := 0) hro (by omega) (by omega) ?_
      rw [g4, f4]
      simp -dsimp (disch := omega) [a2, a3]
      refine awake_call hr'.tab ?_
      simp -dsimp (disch := omega) [a2, a3]
      exact RetF.same hwf (by simp (disch := omega)) (Nat.zero_le _) (fun i hi => by simp (disch := omega)) hK

end Go.Proofs.YtdnjooallhdjdaaDoor
