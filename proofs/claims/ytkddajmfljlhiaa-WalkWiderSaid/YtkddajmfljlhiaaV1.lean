/-
  Of walks: what they hang on, what they write. No program is run.
-/
import Derived.Test.YtkddajmfljlhiaaW5
set_option linter.unusedSimpArgs false
set_option linter.unusedVariables false
namespace Go.Proofs.Ytkddajmfljlhiaa
open Go Go.Mini Go.Proofs.Try

theorem or_and0 {e c m : Nat} (h : c &&& m = 0) : (e ||| c) &&& m = e &&& m := by
  rw [Nat.and_or_distrib_right, h, Nat.or_zero]
theorem now_and {x : Ask} {e m : Nat} (h6 : 64 &&& m = 0) (h7 : 128 &&& m = 0) : nowN x e &&& m = e &&& m := by
  unfold nowN
  split
  · rw [or_and0 h7, or_and0 h6]
  · rw [or_and0 h6]
theorem or_div {e c k : Nat} (h : c / 2 ^ k = 0) : (e ||| c) / 2 ^ k = e / 2 ^ k := by
  rw [Nat.or_div_two_pow, h, Nat.or_zero]
theorem now_div {x : Ask} {e k : Nat} (h6 : 64 / 2 ^ k = 0) (h7 : 128 / 2 ^ k = 0) : nowN x e / 2 ^ k = e / 2 ^ k := by
  unfold nowN
  split
  · rw [or_div h7, or_div h6]
  · rw [or_div h6]
theorem now_now {x : Ask} {e : Nat} : nowN x (nowN x e) = nowN x e := by
  unfold nowN
  split
  · rw [Nat.or_assoc e, Nat.or_assoc, Nat.or_assoc, show (64 ||| 128 ||| (64 ||| 128) : Nat) = 64 ||| 128 from rfl]
  · rw [Nat.or_assoc, Nat.or_self]
theorem now_lt {x : Ask} {e : Nat} (he : e < 18446744073709551616) : nowN x e < 18446744073709551616 := by
  unfold nowN
  split
  · exact Nat.or_lt_two_pow (n := 64) (Nat.or_lt_two_pow (n := 64) he (by omega)) (by omega)
  · exact Nat.or_lt_two_pow (n := 64) he (by omega)
theorem page_now {x : Ask} {e : Nat} : pageN (nowN x e) = pageN e := by
  unfold pageN
  rw [show (1024 : Nat) = 2 ^ 10 from rfl, now_div (by rfl) (by rfl)]
theorem bad_now {x : Ask} {e : Nat} : badB (nowN x e) = badB e := by
  unfold badB
  rw [now_and (by rfl) (by rfl), now_and (by rfl) (by rfl), show (18014398509481984 : Nat) = 2 ^ 54 from rfl, now_div (by rfl) (by rfl)]
theorem allowed_now {x y : Ask} {e : Nat} : allowedB (nowN x e) y = allowedB e y := by
  unfold allowedB needN
  have h16 : nowN x e &&& 16 = e &&& 16 := now_and (by rfl) (by rfl)
  have h8 : nowN x e &&& 8 = e &&& 8 := now_and (by rfl) (by rfl)
  have h10 : nowN x e &&& 10 = e &&& 10 := now_and (by rfl) (by rfl)
  have h2 : nowN x e &&& 2 = e &&& 2 := now_and (by rfl) (by rfl)
  have h4 : nowN x e &&& 4 = e &&& 4 := now_and (by rfl) (by rfl)
  rw [h16]
  by_cases k0 : y.kind = 0
  · simp only [k0, if_true, h8]
  · by_cases k1 : y.kind = 1
    · by_cases hm : y.mxr = true
      · simp [k1, hm, h10]
      · simp [k1, hm, h2]
    · simp only [k0, k1, if_false, h4]
theorem leafOk_now {x y : Ask} {i e : Nat} : leafOk y i (nowN x e) = leafOk y i e := by
  unfold leafOk
  rw [allowed_now, page_now]
theorem fineR_now {x : Ask} {i e a0 a1 a2 n : Nat} : fineR x i (nowN x e) a0 a1 a2 n = fineR x i e a0 a1 a2 n := by
  unfold fineR paL
  rw [page_now, now_now]
theorem xor_or {e c : Nat} : (e ^^^ (e ||| c)) &&& c = e ^^^ (e ||| c) ∧ e &&& (e ^^^ (e ||| c)) = 0 := by
  constructor
  · apply Nat.eq_of_testBit_eq
    intro j
    simp only [Nat.testBit_and, Nat.testBit_xor, Nat.testBit_or]
    cases e.testBit j <;> cases c.testBit j <;> rfl
  · apply Nat.eq_of_testBit_eq
    intro j
    simp only [Nat.testBit_and, Nat.testBit_xor, Nat.testBit_or, Nat.zero_testBit]
    cases e.testBit j <;> cases c.testBit j <;> rfl
/-- What a walk sets. -/
theorem set_now {x : Ask} {e : Nat} : (e ^^^ nowN x e) &&& 192 = e ^^^ nowN x e ∧ e &&& (e ^^^ nowN x e) = 0 := by
  unfold nowN
  split
  · rw [Nat.or_assoc, show (64 ||| 128 : Nat) = 192 from rfl]
    exact xor_or
  · obtain ⟨h1, h2⟩ := @xor_or e 64
    refine ⟨?_, h2⟩
    rw [← h1, Nat.and_assoc, show (64 &&& 192 : Nat) = 64 from rfl]

theorem at1_put_a {l : List Wd} {x v z : Nat} : (at1 (put1 l x v) z).map (fun e => (e.a, e.r, e.w)) = (at1 l z).map (fun e => (e.a, e.r, e.w)) := by
  induction l with
  | nil => rfl
  | cons d l ih =>
    simp only [put1]
    by_cases h : d.a = x
    · rw [if_pos h]
      simp only [at1]
      by_cases hz : d.a = z
      · rw [if_pos hz, if_pos hz]; rfl
      · rw [if_neg hz, if_neg hz]
    · rw [if_neg h]
      simp only [at1]
      by_cases hz : d.a = z
      · rw [if_pos hz, if_pos hz]
      · rw [if_neg hz, if_neg hz]; exact ih
theorem rdB_put {l : List Wd} {x v z : Nat} : rdB (put1 l x v) z = rdB l z := by
  have := @at1_put_a l x v z
  unfold rdB
  cases h1 : at1 (put1 l x v) z <;> cases h2 : at1 l z <;> rw [h1, h2] at this <;> simp at this ⊢
  exact this.2.1
theorem wrB_put {l : List Wd} {x v z : Nat} : wrB (put1 l x v) z = wrB l z := by
  have := @at1_put_a l x v z
  unfold wrB
  cases h1 : at1 (put1 l x v) z <;> cases h2 : at1 l z <;> rw [h1, h2] at this <;> simp at this ⊢
  exact this.2.2
theorem rdV_put_ne {l : List Wd} {x v z : Nat} (h : z ≠ x) : rdV (put1 l x v) z = rdV l z := by
  have : at1 (put1 l x v) z = at1 l z := by
    induction l with
    | nil => rfl
    | cons d l ih =>
      simp only [put1]
      by_cases hx : d.a = x
      · rw [if_pos hx]
        simp only [at1]
        rw [if_neg (by omega), if_neg (by omega)]
      · rw [if_neg hx]
        simp only [at1]
        rw [ih]
  unfold rdV
  rw [this]
theorem rdV_put_eq {l : List Wd} {x v : Nat} (h : rdB l x = true) : rdV (put1 l x v) x = v := by
  have : ∃ e, at1 (put1 l x v) x = some e ∧ e.v = v := by
    induction l with
    | nil => simp [rdB, at1] at h
    | cons d l ih =>
      simp only [put1]
      by_cases hx : d.a = x
      · rw [if_pos hx]
        simp only [at1]
        rw [if_pos hx]
        exact ⟨_, rfl, rfl⟩
      · rw [if_neg hx]
        simp only [at1]
        rw [if_neg hx]
        apply ih
        unfold rdB at h ⊢
        simp only [at1] at h
        rw [if_neg hx] at h
        exact h
  obtain ⟨e, h1, h2⟩ := this
  unfold rdV
  rw [h1]
  exact h2
theorem put1_at {l : List Wd} {x v i : Nat} {d : Wd} (h : l[i]? = some d) : (put1 l x v)[i]? = some d ∨ (d.a = x ∧ at1 l x = some d ∧ (put1 l x v)[i]? = some { d with v := v }) := by
  induction l generalizing i with
  | nil => simp at h
  | cons c l ih =>
    simp only [put1]
    by_cases hx : c.a = x
    · rw [if_pos hx]
      cases i with
      | zero =>
        simp only [List.getElem?_cons_zero, Option.some.injEq] at h
        subst h
        refine .inr ⟨hx, ?_, rfl⟩
        simp only [at1]
        rw [if_pos hx]
      | succ i => exact .inl h
    · rw [if_neg hx]
      cases i with
      | zero => exact .inl h
      | succ i =>
        rcases ih (i := i) (by simpa using h) with h1 | ⟨h1, h2, h3⟩
        · exact .inl h1
        · refine .inr ⟨h1, ?_, h3⟩
          simp only [at1]
          rw [if_neg hx]
          exact h2
end Go.Proofs.Ytkddajmfljlhiaa
