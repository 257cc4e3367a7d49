/-
  The plain law of budgets; counts of guests' steps.
-/
import Derived.Test.YtndnpmfoegkkeaaP2
set_option linter.unusedSimpArgs false
set_option linter.unusedVariables false
set_option linter.unusedSectionVars false
namespace Go.Proofs.Ytndnpmfoegkkeaa
open Go Go.Mini Go.Proofs.Try

def totW (l : List Win) (x k : Nat) : Nat := ((List.range k).map fun g => aheadF l g x).sum
theorem totW_succ (l : List Win) (x k : Nat) : totW l x (k + 1) = totW l x k + aheadF l k x := by
  simp [totW, List.range_succ]
theorem totW_step {l : List Win} {x i : Nat} {w : Win} (hx : l[i]? = some w) (h1 : sumS (l.take i) ≤ x) (h2 : x < sumS (l.take (i + 1))) : ∀ k, totW l (x + 1) k = totW l x k + (if w.g < k then 1 else 0) := by
  intro k
  induction k with
  | zero => rfl
  | succ k ih =>
    rw [totW_succ, totW_succ, ih, ahead_step (g := k) hx h1 h2]
    by_cases h : w.g < k
    · rw [if_pos h, if_neg (by omega), if_pos (by omega)]; omega
    · by_cases h3 : w.g = k
      · rw [if_neg h, if_pos h3, if_pos (by omega)]; omega
      · rw [if_neg h, if_neg h3, if_neg (by omega)]; omega
theorem totW_all {l : List Win} (hok : ∀ w ∈ l, w.ok) : ∀ x, x ≤ sumS l → totW l x 256 = x := by
  intro x
  induction x with
  | zero =>
    intro _
    have : ∀ k, totW l 0 k = 0 := by
      intro k
      induction k with
      | zero => rfl
      | succ k ih => rw [totW_succ, ih, ahead_zero]
    exact this _
  | succ x ih =>
    intro hx
    obtain ⟨i, w, h1, h2, h3⟩ := win_of (l := l) (x := x) (by omega)
    have := (hok w (List.mem_of_getElem? h1)).1
    rw [totW_step h1 h2 h3, ih (by omega), if_pos this]
theorem totW_ge {l : List Win} {x : Nat} : ∀ (k G : Nat), G ≤ k → (∀ g, g < G → 0 < aheadF l g x) → G ≤ totW l x k := by
  intro k
  induction k with
  | zero => intro G h _; omega
  | succ k ih =>
    intro G h hp
    rw [totW_succ]
    rcases Nat.lt_or_ge G (k + 1) with h1 | h1
    · have := ih G (by omega) hp; omega
    · have e : G = k + 1 := by omega
      have h2 := ih k (Nat.le_refl _) fun g hg => hp g (by omega)
      have h3 := hp k (by omega)
      omega
theorem totW_le {l : List Win} {x : Nat} : ∀ (k m : Nat), k ≤ m → totW l x k ≤ totW l x m := by
  intro k m h
  induction m with
  | zero => rw [show k = 0 by omega]; exact Nat.le_refl _
  | succ m ih =>
    rcases Nat.lt_or_ge k (m + 1) with h1 | h1
    · have := ih (by omega); rw [totW_succ]; omega
    · rw [show k = m + 1 by omega]; exact Nat.le_refl _
theorem owN_mul {l : List Win} {g n : Nat} (hN : 0 < sumS l) : owN l g (n * sumS l) = n * aheadF l g (sumS l) := by
  unfold owN
  rw [Nat.mul_div_cancel _ hN, Nat.mul_mod_left, ahead_zero, Nat.add_zero]
theorem mul_off {n k N : Nat} (hk : k < N) : (n * N + k) % N = k := by
  rw [Nat.add_comm, Nat.add_mul_mod_self_right, Nat.mod_eq_of_lt hk]

/-- Counts of 256 guests. -/
def cntC (m : Nat → Nat) : Array Value := ((List.range 256).map fun i => Value.int .u64 (m i)).toArray
@[simp] theorem cntC_size (m : Nat → Nat) : (cntC m).size = 256 := by simp [cntC]
theorem cntC_at (m : Nat → Nat) {k : Nat} (hk : k < 256) : (cntC m)[k]? = some (.int .u64 (m k)) := by
  unfold cntC
  rw [List.getElem?_toArray, List.getElem?_map, List.getElem?_range hk]
  rfl
theorem cntC_congr {m m' : Nat → Nat} (h : ∀ i, i < 256 → m i = m' i) : cntC m = cntC m' := by
  unfold cntC
  congr 1
  exact List.map_congr_left fun i hi => by rw [h i (List.mem_range.1 hi)]
theorem cntC_set {m m' : Nat → Nat} {k : Nat} {x : Int} (hk : k < 256) (hx : x = m' k) (h : ∀ i, i < 256 → i ≠ k → m' i = m i) : (cntC m).setIfInBounds k (.int .u64 x) = cntC m' := by
  apply Array.ext_getElem?
  intro i
  rw [Array.getElem?_setIfInBounds]
  by_cases hi : i < 256
  · rw [cntC_at m' hi]
    split
    · rename_i e
      subst e
      rw [if_pos (by simpa using hk), hx]
    · rename_i e
      rw [cntC_at m hi, h i hi (fun e' => e e'.symm)]
  · rw [Array.getElem?_eq_none (by simp; omega), if_neg (by omega), Array.getElem?_eq_none (by simp; omega)]
theorem zero_cnt (m : Nat → Nat) (h : ∀ i, i < 256 → m i = 0) : repV 256 (Value.int .u64 0) = cntC m := by
  rw [cntC_congr (m' := fun _ => 0) h]
  kernel_rfl
end Go.Proofs.Ytndnpmfoegkkeaa
