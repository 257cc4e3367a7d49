/-
  Of walks of one address: what is allowed more. No program is run.
-/
import Derived.Test.YtkddajmfljlhiaaV2
import Derived.Test.YtkddajmfljlhiaaX1
set_option linter.unusedSimpArgs false
set_option linter.unusedVariables false
namespace Go.Proofs.Ytkddajmfljlhiaa
open Go Go.Mini Go.Proofs.Try

/-- Two asks of one address go to the same leaf, or fail alike. -/
theorem go_leaf {L : List Wd} {x y : Ask} (hv : x.va = y.va) : ∀ i tab a0 a1 a2 n, i + n = 3 →
    (∃ R : Res, goW L x i tab a0 a1 a2 n = (R, L, 0) ∧ goW L y i tab a0 a1 a2 n = (R, L, 0) ∧ R.f ≠ 0) ∨
    (∃ j e b0 b1 b2 k, goW L x i tab a0 a1 a2 n = leafF L x j e b0 b1 b2 k ∧ goW L y i tab a0 a1 a2 n = leafF L y j e b0 b1 b2 k ∧ badB e = false) := by
  intro i
  induction i with
  | zero => intro tab a0 a1 a2 n h; exact .inl ⟨_, rfl, rfl, by simp [failR]⟩
  | succ i ih =>
    intro tab a0 a1 a2 n h
    rw [goW_succ, goW_succ]
    have ha : addN y i tab = addN x i tab := by unfold addN; rw [hv]
    rw [ha]
    obtain ⟨z, hz⟩ : ∃ z, z = addN x i tab := ⟨_, rfl⟩
    rw [← hz]
    unfold restW
    by_cases c1 : rdB L z = false
    · rw [if_pos c1, if_pos c1]; exact .inl ⟨_, rfl, rfl, by simp [failR]⟩
    · rw [if_neg c1, if_neg c1]
      by_cases c2 : badB (rdV L z) = true
      · rw [if_pos c2, if_pos c2]; exact .inl ⟨_, rfl, rfl, by simp [failR]⟩
      · rw [if_neg c2, if_neg c2]
        by_cases c3 : rdV L z &&& 10 = 0
        · rw [if_pos c3, if_pos c3]
          by_cases c4 : i = 0 ∨ rdV L z &&& 208 ≠ 0
          · rw [if_pos c4, if_pos c4]; exact .inl ⟨_, rfl, rfl, by simp [failR]⟩
          · rw [if_neg c4, if_neg c4]; exact ih _ _ _ _ _ (by omega)
        · rw [if_neg c3, if_neg c3]; exact .inr ⟨_, _, _, _, _, _, rfl, rfl, by simpa using c2⟩
theorem leaf_f {L : List Wd} {x : Ask} {i e a0 a1 a2 n : Nat} : ((leafF L x i e a0 a1 a2 n).1.f = 0 ↔ (leafOk x i e = true ∧ (nowN x e = e ∨ wrB L (lastA a0 a1 a2 n) = true))) ∧ ((leafF L x i e a0 a1 a2 n).1.f = 0 → (leafF L x i e a0 a1 a2 n).1 = fineR x i e a0 a1 a2 n) ∧ ((leafF L x i e a0 a1 a2 n).1.f = 2 → leafOk x i e = true ∧ nowN x e ≠ e ∧ wrB L (lastA a0 a1 a2 n) = false) := by
  unfold leafF
  by_cases h1 : leafOk x i e = false
  · rw [if_pos h1, h1]; simp [failR]
  · rw [if_neg h1]
    have h1' : leafOk x i e = true := by simpa using h1
    by_cases h2 : nowN x e = e
    · rw [if_pos h2]; simp [h1', h2, fineR]
    · rw [if_neg h2]
      by_cases h3 : wrB L (lastA a0 a1 a2 n) = false
      · rw [if_pos h3]; simp [h1', h2, h3, failR]
      · rw [if_neg h3]
        have h3' : wrB L (lastA a0 a1 a2 n) = true := by simpa using h3
        simp [h1', h3', fineR]
theorem allowed_more {e : Nat} {x y : Ask} (hk : x.kind = y.kind) (hm : x.mode = y.mode) (hs : x.sum = false) (hx : x.mxr = false) (h : allowedB e x = true) : allowedB e y = true := by
  rw [← refAll_eq] at h ⊢
  unfold refAll at h ⊢
  rw [← hk, ← hm]
  rw [hs, hx] at h
  generalize bitB e 1 = b1 at *
  generalize bitB e 2 = b2 at *
  generalize bitB e 3 = b3 at *
  generalize bitB e 4 = b4 at *
  generalize decide (x.mode = 0) = m0 at *
  generalize y.sum = s at *
  generalize y.mxr = r at *
  clear hk hm hs hx
  split at h
  · cases h
  · rename_i hc
    have hc' : ¬ ((m0 && !b4 || !m0 && b4 && (!s || decide (x.kind = 0))) = true) := by
      intro q
      apply hc
      cases m0 <;> cases b4 <;> simp at q ⊢
    rw [if_neg hc']
    by_cases h0 : x.kind = 0
    · rw [if_pos h0] at h ⊢; exact h
    · rw [if_neg h0] at h ⊢
      by_cases h1 : x.kind = 1
      · rw [if_pos h1] at h ⊢
        cases b1
        · simp at h
        · rfl
      · rw [if_neg h1] at h ⊢
        exact h
theorem now_kind {x y : Ask} {e : Nat} (hk : x.kind = y.kind) : nowN x e = nowN y e := by unfold nowN; rw [hk]
theorem fine_kind {x y : Ask} {i e a0 a1 a2 n : Nat} (hk : x.kind = y.kind) (hv : x.va = y.va) : fineR x i e a0 a1 a2 n = fineR y i e a0 a1 a2 n := by
  unfold fineR paL
  rw [now_kind hk, hv]
theorem bare_same {x y : Ask} (hm : x.mode = y.mode) (hs : x.satp = y.satp) : bareB x = bareB y := by unfold bareB; rw [hm, hs]
theorem walk_leaf {L : List Wd} {x y : Ask} (hv : x.va = y.va) (hs : x.satp = y.satp) (hb : bareB x = bareB y) :
    ((walkF L x).1 = (walkF L y).1 ∧ (walkF L x).1.f ≠ 0) ∨ (bareB x = true ∧ (walkF L x).1 = (walkF L y).1) ∨
    (∃ j e b0 b1 b2 k, (walkF L x).1 = (leafF L x j e b0 b1 b2 k).1 ∧ (walkF L y).1 = (leafF L y j e b0 b1 b2 k).1 ∧ badB e = false) := by
  unfold walkF
  rw [← hb, ← hv]
  by_cases c1 : bareB x = true
  · rw [if_pos c1, if_pos c1]; exact .inr (.inl ⟨c1, rfl⟩)
  · rw [if_neg c1, if_neg c1]
    by_cases c2 : canB x.va = false
    · rw [if_pos c2, if_pos c2]; exact .inl ⟨rfl, by simp [failR]⟩
    · rw [if_neg c2, if_neg c2]
      have ht : tab0 y = tab0 x := by unfold tab0; rw [hs]
      rw [ht]
      rcases go_leaf (L := L) hv 3 (tab0 x) 0 0 0 0 rfl with ⟨R, h1, h2, h3⟩ | ⟨j, e, b0, b1, b2, k, h1, h2, h3⟩
      · rw [h1, h2]; exact .inl ⟨rfl, h3⟩
      · rw [h1, h2]; exact .inr (.inr ⟨j, e, b0, b1, b2, k, rfl, rfl, h3⟩)
/-- With SUM, with MXR. -/
theorem wider_sum {L : List Wd} {x y : Ask} (hv : x.va = y.va) (hs : x.satp = y.satp) (hk : x.kind = y.kind) (hm : x.mode = y.mode) (hsu : x.sum = false) (hmx : x.mxr = false) :
    ((walkF L x).1.f = 0 → (walkF L y).1 = (walkF L x).1) ∧ ((walkF L y).1.f = 0 → (walkF L x).1.f ≠ 2) := by
  rcases walk_leaf (L := L) hv hs (bare_same hm hs) with ⟨h1, h2⟩ | ⟨_, h1⟩ | ⟨j, e, b0, b1, b2, k, h1, h2, h3⟩
  · exact ⟨fun h => absurd h h2, fun h => by rw [← h1] at h; exact absurd h h2⟩
  · exact ⟨fun _ => h1.symm, fun h => by rw [h1, h]; omega⟩
  · rw [h1, h2]
    obtain ⟨l1, l2, l3⟩ := @leaf_f L x j e b0 b1 b2 k
    obtain ⟨m1, m2, m3⟩ := @leaf_f L y j e b0 b1 b2 k
    have hok : leafOk x j e = true → leafOk y j e = true := by
      unfold leafOk
      simp only [Bool.and_eq_true]
      exact fun ⟨q1, q2⟩ => ⟨allowed_more hk hm hsu hmx q1, q2⟩
    constructor
    · intro h
      obtain ⟨q1, q2⟩ := l1.1 h
      have hy : (leafF L y j e b0 b1 b2 k).1.f = 0 := m1.2 ⟨hok q1, by rw [← now_kind hk]; exact q2⟩
      rw [m2 hy, l2 h, fine_kind hk hv]
    · intro h hx
      obtain ⟨q1, q2⟩ := m1.1 h
      obtain ⟨q3, q4, q5⟩ := l3 hx
      rw [← now_kind hk, q5] at q2
      exact q2.elim q4 (by simp)
/-- Where a Store is fine, a Load is. -/
theorem wider_store {L : List Wd} {x y : Ask} (hv : x.va = y.va) (hs : x.satp = y.satp) (hm : x.mode = y.mode) (hkx : x.kind = 2) (hky : y.kind = 1) (hsum : x.sum = y.sum) (h : (walkF L x).1.f = 0) :
    (walkF L y).1.f = 0 ∧ (walkF L y).1.pa = (walkF L x).1.pa ∧ (walkF L y).1.lv = (walkF L x).1.lv := by
  rcases walk_leaf (L := L) hv hs (bare_same hm hs) with ⟨h1, h2⟩ | ⟨_, h1⟩ | ⟨j, e, b0, b1, b2, k, h1, h2, h3⟩
  · exact absurd h h2
  · rw [← h1]; exact ⟨h, rfl, rfl⟩
  · rw [h1] at h ⊢
    rw [h2]
    obtain ⟨l1, l2, l3⟩ := @leaf_f L x j e b0 b1 b2 k
    obtain ⟨m1, m2, m3⟩ := @leaf_f L y j e b0 b1 b2 k
    obtain ⟨q1, q2⟩ := l1.1 h
    have hok : leafOk y j e = true := by
      unfold leafOk at q1 ⊢
      simp only [Bool.and_eq_true] at q1 ⊢
      refine ⟨?_, q1.2⟩
      have q := q1.1
      rw [← refAll_eq] at q ⊢
      unfold refAll at q ⊢
      rw [← hm, hky, ← hsum]
      rw [hkx] at q
      have h6 : ¬ (e &&& 6 = 4) := by
        unfold badB at h3
        simp at h3
        exact h3.1.2
      rw [and6] at h6
      cases hb1 : bitB e 1 <;> cases hb2 : bitB e 2 <;> simp_all
    have hy : (leafF L y j e b0 b1 b2 k).1.f = 0 := m1.2 ⟨hok, by
      rcases q2 with q2 | q2
      · left
        unfold nowN at q2 ⊢
        rw [if_pos hkx] at q2
        rw [if_neg (by omega)]
        have h64 : e ||| 64 ≤ e ||| 64 ||| 128 := Nat.left_le_or
        have h0 : e ≤ e ||| 64 := Nat.left_le_or
        omega
      · exact .inr q2⟩
    rw [m2 hy, l2 h]
    refine ⟨rfl, ?_, rfl⟩
    show paL y j e = paL x j e
    unfold paL
    rw [hv]
/-- What U may fetch, S may not. -/
theorem wider_fetch {L : List Wd} {x y : Ask} (hv : x.va = y.va) (hs : x.satp = y.satp) (hkx : x.kind = 0) (hky : y.kind = 0) (hmx : x.mode = 0) (hmy : y.mode = 1) (hb : bareB x = false) : ¬ ((walkF L x).1.f = 0 ∧ (walkF L y).1.f = 0) := by
  rintro ⟨h1, h2⟩
  have hbe : bareB x = bareB y := by unfold bareB; rw [hmx, hmy, hs]; rfl
  rcases walk_leaf (L := L) hv hs hbe with ⟨_, q2⟩ | ⟨q, _⟩ | ⟨j, e, b0, b1, b2, k, q1, q2, q3⟩
  · exact q2 h1
  · rw [hb] at q; cases q
  · rw [q1] at h1
    rw [q2] at h2
    obtain ⟨p1, _⟩ := (@leaf_f L x j e b0 b1 b2 k).1.1 h1
    obtain ⟨p2, _⟩ := (@leaf_f L y j e b0 b1 b2 k).1.1 h2
    unfold leafOk at p1 p2
    simp only [Bool.and_eq_true] at p1 p2
    have r1 := p1.1
    have r2 := p2.1
    rw [← refAll_eq] at r1 r2
    unfold refAll at r1 r2
    rw [hkx, hmx] at r1
    rw [hky, hmy] at r2
    cases hb4 : bitB e 4 <;> simp_all
end Go.Proofs.Ytkddajmfljlhiaa
