/-
  Of walks: the same once more; what they hang on. No program is run.
-/
import Derived.Test.YtkddajmfljlhiaaV1
set_option linter.unusedSimpArgs false
set_option linter.unusedVariables false
namespace Go.Proofs.Ytkddajmfljlhiaa
open Go Go.Mini Go.Proofs.Try

/-- What a walk does with what it read. -/
def restW (L : List Wd) (x : Ask) (i e : Nat) (b : Bool) (a0 a1 a2 n : Nat) : Res × List Wd × Nat :=
  if b = false then (failR 2 a0 a1 a2 n, L, 0)
  else if badB e = true then (failR 1 a0 a1 a2 n, L, 0)
  else if e &&& 10 = 0 then
    (if i = 0 ∨ e &&& 208 ≠ 0 then (failR 1 a0 a1 a2 n, L, 0) else goW L x i (pageN e * 4096) a0 a1 a2 n)
  else leafF L x i e a0 a1 a2 n
theorem goW_succ (L : List Wd) (x : Ask) (i tab a0 a1 a2 n : Nat) : goW L x (i + 1) tab a0 a1 a2 n = restW L x i (rdV L (addN x i tab)) (rdB L (addN x i tab)) (nx0 n a0 (addN x i tab)) (nx1 n a1 (addN x i tab)) (nx2 n a2 (addN x i tab)) (n + 1) := rfl
def atN (a0 a1 a2 k : Nat) : Nat := if k = 0 then a0 else if k = 1 then a1 else a2
def Res.at (r : Res) (k : Nat) : Nat := atN r.a0 r.a1 r.a2 k
theorem nx_old {n a0 a1 a2 y k : Nat} (h : k < n) (hn : n < 3) : atN (nx0 n a0 y) (nx1 n a1 y) (nx2 n a2 y) k = atN a0 a1 a2 k := by
  unfold atN nx0 nx1 nx2
  rcases (by omega : n = 1 ∨ n = 2) with rfl | rfl
  · obtain rfl : k = 0 := by omega
    rfl
  · rcases (by omega : k = 0 ∨ k = 1) with rfl | rfl <;> rfl
theorem nx_new {n a0 a1 a2 y : Nat} (hn : n < 3) : atN (nx0 n a0 y) (nx1 n a1 y) (nx2 n a2 y) n = y := by
  unfold atN nx0 nx1 nx2
  rcases (by omega : n = 0 ∨ n = 1 ∨ n = 2) with rfl | rfl | rfl <;> rfl
theorem last_at {n a0 a1 a2 : Nat} (h : 0 < n) (hn : n ≤ 3) : lastA a0 a1 a2 n = atN a0 a1 a2 (n - 1) := by
  unfold atN lastA
  rcases (by omega : n = 1 ∨ n = 2 ∨ n = 3) with rfl | rfl | rfl <;> rfl

/-- What is kept: r is a result of a walk that had read n words. -/
def Kept (r : Res) (a0 a1 a2 n : Nat) : Prop := n ≤ r.n ∧ r.n ≤ 3 ∧ ∀ k, k < n → r.at k = atN a0 a1 a2 k
theorem kept_fail {f a0 a1 a2 n : Nat} (hn : n ≤ 3) : Kept (failR f a0 a1 a2 n) a0 a1 a2 n := ⟨Nat.le_refl _, hn, fun _ _ => rfl⟩
theorem kept_leaf {L : List Wd} {x : Ask} {i e a0 a1 a2 n : Nat} (hn : n ≤ 3) : Kept (leafF L x i e a0 a1 a2 n).1 a0 a1 a2 n := by
  unfold leafF
  split
  · exact kept_fail hn
  · split
    · exact ⟨Nat.le_refl _, hn, fun _ _ => rfl⟩
    · split
      · exact kept_fail hn
      · exact ⟨Nat.le_refl _, hn, fun _ _ => rfl⟩
theorem kept_go {L : List Wd} {x : Ask} : ∀ i tab a0 a1 a2 n, i + n = 3 → Kept (goW L x i tab a0 a1 a2 n).1 a0 a1 a2 n := by
  intro i
  induction i with
  | zero => intro tab a0 a1 a2 n h; exact kept_fail (by omega)
  | succ i ih =>
    intro tab a0 a1 a2 n h
    rw [goW_succ]
    obtain ⟨y, hy⟩ : ∃ y, y = addN x i tab := ⟨_, rfl⟩
    rw [← hy]
    have key : ∀ R : Res, Kept R (nx0 n a0 y) (nx1 n a1 y) (nx2 n a2 y) (n + 1) → Kept R a0 a1 a2 n := by
      intro R ⟨k1, k2, k3⟩
      exact ⟨by omega, k2, fun k hk => by rw [k3 k (by omega), nx_old hk (by omega)]⟩
    unfold restW
    split
    · exact key _ (kept_fail (by omega))
    · split
      · exact key _ (kept_fail (by omega))
      · split
        · split
          · exact key _ (kept_fail (by omega))
          · exact key _ (ih _ _ _ _ _ (by omega))
        · exact key _ (kept_leaf (by omega))
theorem kept_rest {L : List Wd} {x : Ask} {i e : Nat} {b : Bool} {a0 a1 a2 n : Nat} (h : i + n = 3) : Kept (restW L x i e b a0 a1 a2 n).1 a0 a1 a2 n := by
  unfold restW
  split
  · exact kept_fail (by omega)
  · split
    · exact kept_fail (by omega)
    · split
      · split
        · exact kept_fail (by omega)
        · exact kept_go _ _ _ _ _ _ h
      · exact kept_leaf (by omega)

/-- A walk hangs on the words that it read. -/
theorem leaf_same {L M : List Wd} {x : Ask} {i e a0 a1 a2 n : Nat} (h : wrB M (lastA a0 a1 a2 n) = wrB L (lastA a0 a1 a2 n)) : (leafF M x i e a0 a1 a2 n).1 = (leafF L x i e a0 a1 a2 n).1 := by
  unfold leafF
  rw [h]
  split
  · rfl
  · split
    · rfl
    · split <;> rfl
theorem go_same {L M : List Wd} {x : Ask} : ∀ i tab a0 a1 a2 n, i + n = 3 → (∀ k, k < (goW L x i tab a0 a1 a2 n).1.n → n ≤ k → rdV M ((goW L x i tab a0 a1 a2 n).1.at k) = rdV L ((goW L x i tab a0 a1 a2 n).1.at k) ∧ rdB M ((goW L x i tab a0 a1 a2 n).1.at k) = rdB L ((goW L x i tab a0 a1 a2 n).1.at k) ∧ wrB M ((goW L x i tab a0 a1 a2 n).1.at k) = wrB L ((goW L x i tab a0 a1 a2 n).1.at k)) → (goW M x i tab a0 a1 a2 n).1 = (goW L x i tab a0 a1 a2 n).1 := by
  intro i
  induction i with
  | zero => intro tab a0 a1 a2 n h _; rfl
  | succ i ih =>
    intro tab a0 a1 a2 n h hs
    rw [goW_succ] at hs
    rw [goW_succ, goW_succ]
    obtain ⟨y, hy⟩ : ∃ y, y = addN x i tab := ⟨_, rfl⟩
    rw [← hy] at hs ⊢
    have kp : Kept (restW L x i (rdV L y) (rdB L y) (nx0 n a0 y) (nx1 n a1 y) (nx2 n a2 y) (n + 1)).1 (nx0 n a0 y) (nx1 n a1 y) (nx2 n a2 y) (n + 1) := kept_rest (by omega)
    have hat : (restW L x i (rdV L y) (rdB L y) (nx0 n a0 y) (nx1 n a1 y) (nx2 n a2 y) (n + 1)).1.at n = y := by
      rw [kp.2.2 n (by omega), nx_new (by omega)]
    have h0 := hs n (by have := kp.1; omega) (Nat.le_refl _)
    rw [hat] at h0
    obtain ⟨h1, h2, h3⟩ := h0
    rw [h1, h2]
    clear hat kp
    unfold restW at hs ⊢
    by_cases c1 : rdB L y = false
    · rw [if_pos c1, if_pos c1]
    · rw [if_neg c1] at hs
      rw [if_neg c1, if_neg c1]
      by_cases c2 : badB (rdV L y) = true
      · rw [if_pos c2, if_pos c2]
      · rw [if_neg c2] at hs
        rw [if_neg c2, if_neg c2]
        by_cases c3 : rdV L y &&& 10 = 0
        · rw [if_pos c3] at hs
          rw [if_pos c3, if_pos c3]
          by_cases c4 : i = 0 ∨ rdV L y &&& 208 ≠ 0
          · rw [if_pos c4, if_pos c4]
          · rw [if_neg c4] at hs
            rw [if_neg c4, if_neg c4]
            exact ih _ _ _ _ _ (by omega) fun k hk hk2 => hs k hk (by omega)
        · rw [if_neg c3, if_neg c3]
          apply leaf_same
          rw [last_at (by omega) (by omega), show n + 1 - 1 = n from rfl, nx_new (by omega)]
          exact h3

/-- What a walk writes, and that it is the same once more. -/
def Wrote (L : List Wd) (x : Ask) (r : Res) (M : List Wd) (w : Nat) : Prop :=
  (w = 0 ∧ M = L) ∨ (w = 1 ∧ r.f = 0 ∧ 0 < r.n ∧ rdB L (lastA r.a0 r.a1 r.a2 r.n) = true ∧ ¬ (rdV L (lastA r.a0 r.a1 r.a2 r.n) &&& 10 = 0) ∧ M = put1 L (lastA r.a0 r.a1 r.a2 r.n) (nowN x (rdV L (lastA r.a0 r.a1 r.a2 r.n))))
theorem leaf_wrote {L : List Wd} {x : Ask} {i e a0 a1 a2 n : Nat} (he : e = rdV L (lastA a0 a1 a2 n)) (hb : rdB L (lastA a0 a1 a2 n) = true) (h10 : ¬ (e &&& 10 = 0)) (hn : 0 < n) : Wrote L x (leafF L x i e a0 a1 a2 n).1 (leafF L x i e a0 a1 a2 n).2.1 (leafF L x i e a0 a1 a2 n).2.2 := by
  unfold leafF
  split
  · exact .inl ⟨rfl, rfl⟩
  · split
    · exact .inl ⟨rfl, rfl⟩
    · split
      · exact .inl ⟨rfl, rfl⟩
      · exact .inr ⟨rfl, rfl, hn, hb, by rw [← show e = rdV L (lastA (fineR x i e a0 a1 a2 n).a0 (fineR x i e a0 a1 a2 n).a1 (fineR x i e a0 a1 a2 n).a2 (fineR x i e a0 a1 a2 n).n) from he]; exact h10, by rw [← show e = rdV L (lastA (fineR x i e a0 a1 a2 n).a0 (fineR x i e a0 a1 a2 n).a1 (fineR x i e a0 a1 a2 n).a2 (fineR x i e a0 a1 a2 n).n) from he]; rfl⟩
theorem go_wrote {L : List Wd} {x : Ask} : ∀ i tab a0 a1 a2 n, i + n = 3 → Wrote L x (goW L x i tab a0 a1 a2 n).1 (goW L x i tab a0 a1 a2 n).2.1 (goW L x i tab a0 a1 a2 n).2.2 := by
  intro i
  induction i with
  | zero => intro tab a0 a1 a2 n h; exact .inl ⟨rfl, rfl⟩
  | succ i ih =>
    intro tab a0 a1 a2 n h
    rw [goW_succ]
    obtain ⟨y, hy⟩ : ∃ y, y = addN x i tab := ⟨_, rfl⟩
    rw [← hy]
    unfold restW
    by_cases c1 : rdB L y = false
    · rw [if_pos c1]; exact .inl ⟨rfl, rfl⟩
    · rw [if_neg c1]
      by_cases c2 : badB (rdV L y) = true
      · rw [if_pos c2]; exact .inl ⟨rfl, rfl⟩
      · rw [if_neg c2]
        by_cases c3 : rdV L y &&& 10 = 0
        · rw [if_pos c3]
          by_cases c4 : i = 0 ∨ rdV L y &&& 208 ≠ 0
          · rw [if_pos c4]; exact .inl ⟨rfl, rfl⟩
          · rw [if_neg c4]; exact ih _ _ _ _ _ (by omega)
        · rw [if_neg c3]
          have hl : lastA (nx0 n a0 y) (nx1 n a1 y) (nx2 n a2 y) (n + 1) = y := by rw [last_at (by omega) (by omega), show n + 1 - 1 = n from rfl, nx_new (by omega)]
          exact leaf_wrote (by rw [hl]) (by rw [hl]; simpa using c1) c3 (by omega)

theorem go_again {L : List Wd} {x : Ask} : ∀ i tab a0 a1 a2 n, i + n = 3 → (goW L x i tab a0 a1 a2 n).2.2 = 1 → goW (goW L x i tab a0 a1 a2 n).2.1 x i tab a0 a1 a2 n = ((goW L x i tab a0 a1 a2 n).1, (goW L x i tab a0 a1 a2 n).2.1, 0) := by
  intro i
  induction i with
  | zero => intro tab a0 a1 a2 n h hw; exact absurd hw (by simp [goW])
  | succ i ih =>
    intro tab a0 a1 a2 n h hw
    have wr := @go_wrote L x (i + 1) tab a0 a1 a2 n h
    rw [goW_succ _ _ _ _ a0] at hw wr ⊢
    rw [goW_succ L]
    obtain ⟨y, hy⟩ : ∃ y, y = addN x i tab := ⟨_, rfl⟩
    rw [← hy] at hw wr ⊢
    obtain ⟨R, hR⟩ : ∃ R, R = restW L x i (rdV L y) (rdB L y) (nx0 n a0 y) (nx1 n a1 y) (nx2 n a2 y) (n + 1) := ⟨_, rfl⟩
    rw [← hR] at hw wr ⊢
    rcases wr with ⟨w0, _⟩ | ⟨_, _, _, hb, h10, hM⟩
    · omega
    · have hbM : rdB R.2.1 y = rdB L y := by rw [hM, rdB_put]
      unfold restW at hR ⊢
      rw [hbM]
      by_cases c1 : rdB L y = false
      · rw [if_pos c1] at hR; rw [hR] at hw; exact absurd hw (by simp)
      · rw [if_neg c1] at hR ⊢
        by_cases c2 : badB (rdV L y) = true
        · rw [if_pos c2] at hR; rw [hR] at hw; exact absurd hw (by simp)
        · rw [if_neg c2] at hR
          by_cases c3 : rdV L y &&& 10 = 0
          · have hne : y ≠ lastA R.1.a0 R.1.a1 R.1.a2 R.1.n := fun e => by rw [← e] at h10; exact h10 c3
            have hvM : rdV R.2.1 y = rdV L y := by rw [hM, rdV_put_ne hne]
            rw [if_pos c3] at hR
            rw [hvM, if_neg c2, if_pos c3]
            by_cases c4 : i = 0 ∨ rdV L y &&& 208 ≠ 0
            · rw [if_pos c4] at hR; rw [hR] at hw; exact absurd hw (by simp)
            · rw [if_neg c4] at hR ⊢
              have := ih (pageN (rdV L y) * 4096) (nx0 n a0 y) (nx1 n a1 y) (nx2 n a2 y) (n + 1) (by omega) (by rw [← hR]; exact hw)
              rw [← hR] at this
              exact this
          · rw [if_neg c3] at hR
            have hl : lastA (nx0 n a0 y) (nx1 n a1 y) (nx2 n a2 y) (n + 1) = y := by rw [last_at (by omega) (by omega), show n + 1 - 1 = n from rfl, nx_new (by omega)]
            unfold leafF at hR
            by_cases d1 : leafOk x i (rdV L y) = false
            · rw [if_pos d1] at hR; rw [hR] at hw; exact absurd hw (by simp)
            · rw [if_neg d1] at hR
              by_cases d2 : nowN x (rdV L y) = rdV L y
              · rw [if_pos d2] at hR; rw [hR] at hw; exact absurd hw (by simp)
              · rw [if_neg d2] at hR
                by_cases d3 : wrB L (lastA (nx0 n a0 y) (nx1 n a1 y) (nx2 n a2 y) (n + 1)) = false
                · rw [if_pos d3] at hR; rw [hR] at hw; exact absurd hw (by simp)
                · rw [if_neg d3, hl] at hR
                  have hv : rdV R.2.1 y = nowN x (rdV L y) := by rw [hR]; exact rdV_put_eq (by simpa using c1)
                  have n10 : ¬ (nowN x (rdV L y) &&& 10 = 0) := by rw [now_and (by rfl) (by rfl)]; exact c3
                  rw [hv, bad_now, if_neg c2, if_neg n10]
                  unfold leafF
                  rw [leafOk_now, if_neg d1, now_now, if_pos rfl, fineR_now, hR]

/-- The same walk once more. -/
theorem walk_wrote (L : List Wd) (x : Ask) : Wrote L x (walkF L x).1 (walkF L x).2.1 (walkF L x).2.2 := by
  unfold walkF
  split
  · exact .inl ⟨rfl, rfl⟩
  · split
    · exact .inl ⟨rfl, rfl⟩
    · exact go_wrote _ _ _ _ _ _ rfl
theorem walk_n (L : List Wd) (x : Ask) : (walkF L x).1.n ≤ 3 := by
  unfold walkF
  split
  · simp
  · split
    · simp [failR]
    · exact (kept_go _ _ _ _ _ _ rfl).2.1
theorem walk_again (L : List Wd) (x : Ask) : walkF (walkF L x).2.1 x = ((walkF L x).1, (walkF L x).2.1, 0) := by
  rcases walk_wrote L x with ⟨h0, hM⟩ | ⟨h1, _⟩
  · rw [hM]
    obtain ⟨W, hW⟩ : ∃ W, W = walkF L x := ⟨_, rfl⟩
    rw [← hW] at h0 hM ⊢
    obtain ⟨r, M, w⟩ := W
    simp only at h0 hM ⊢
    rw [h0, hM]
  · unfold walkF at h1 ⊢
    by_cases c1 : bareB x = true
    · rw [if_pos c1] at h1; exact absurd h1 (by simp)
    · rw [if_neg c1] at h1
      simp only [if_neg c1]
      by_cases c2 : canB x.va = false
      · rw [if_pos c2] at h1; exact absurd h1 (by simp)
      · rw [if_neg c2] at h1
        simp only [if_neg c2]
        exact go_again _ _ _ _ _ _ rfl h1
/-- A word elsewhere makes no difference. -/
theorem walk_else (L : List Wd) (x : Ask) (o : Wd) (h : ∀ k, k < (walkF L x).1.n → (walkF L x).1.at k ≠ o.a) : (walkF (o :: L) x).1 = (walkF L x).1 := by
  unfold walkF at h ⊢
  by_cases c1 : bareB x = true
  · simp only [if_pos c1]
  · simp only [if_neg c1] at h ⊢
    by_cases c2 : canB x.va = false
    · simp only [if_pos c2]
    · simp only [if_neg c2] at h ⊢
      refine go_same _ _ _ _ _ _ rfl fun k hk _ => ?_
      have hne := h k hk
      have : at1 (o :: L) ((goW L x 3 (tab0 x) 0 0 0 0).1.at k) = at1 L ((goW L x 3 (tab0 x) 0 0 0 0).1.at k) := by
        simp only [at1]
        rw [if_neg (fun e => hne e.symm)]
      unfold rdV rdB wrB
      rw [this]
      exact ⟨rfl, rfl, rfl⟩
end Go.Proofs.Ytkddajmfljlhiaa
