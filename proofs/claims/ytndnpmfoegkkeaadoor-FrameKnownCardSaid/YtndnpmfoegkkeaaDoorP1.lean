/-
  The plain law of tables: whose a place is.
-/
import Derived.Test.YtndnpmfoegkkeaaDoorN8
set_option linter.unusedSimpArgs false
set_option linter.unusedVariables false
set_option linter.unusedSectionVars false
namespace Go.Proofs.YtndnpmfoegkkeaaDoor
open Go Go.Mini Go.Proofs.Tryd
set_option maxRecDepth 100000

theorem sumS_mono (l : List Win) : ∀ (a b : Nat), a ≤ b → sumS (l.take a) ≤ sumS (l.take b) := by
  intro a b h
  induction b with
  | zero => rw [show a = 0 by omega]; exact Nat.le_refl _
  | succ b ih =>
    rcases Nat.lt_or_ge a (b + 1) with h1 | h1
    · refine Nat.le_trans (ih (by omega)) ?_
      cases hx : l[b]? with
      | none =>
        have : l.length ≤ b := List.getElem?_eq_none_iff.1 hx
        rw [List.take_of_length_le (by omega), List.take_of_length_le (by omega)]
        exact Nat.le_refl _
      | some w => rw [sumS_succ hx]; omega
    · rw [show a = b + 1 by omega]; exact Nat.le_refl _
theorem sumS_all (l : List Win) {k : Nat} : sumS (l.take k) ≤ sumS l := by
  rcases Nat.lt_or_ge k l.length with h | h
  · have := sumS_mono l k l.length (by omega)
    rwa [List.take_length] at this
  · rw [List.take_of_length_le h]; exact Nat.le_refl _
/-- A place lies in one window. -/
theorem one_win {l : List Win} {x i j : Nat} (h1 : sumS (l.take i) ≤ x) (h2 : x < sumS (l.take (i + 1))) (h3 : sumS (l.take j) ≤ x) (h4 : x < sumS (l.take (j + 1))) : i = j := by
  rcases Nat.lt_trichotomy i j with h | h | h
  · have := sumS_mono l (i + 1) j h; omega
  · exact h
  · have := sumS_mono l (j + 1) i h; omega
/-- Among the first windows there is one of the guest's that the place lies in. -/
def InW (l : List Win) (g x k : Nat) : Prop := ∃ i w, i < k ∧ l[i]? = some w ∧ w.g = g ∧ sumS (l.take i) ≤ x ∧ x < sumS (l.take (i + 1))
theorem aheadK_step (l : List Win) (g x : Nat) : ∀ k, (InW l g x k → aheadK l g (x + 1) k = aheadK l g x k + 1) ∧ (¬ InW l g x k → aheadK l g (x + 1) k = aheadK l g x k) := by
  intro k
  induction k with
  | zero => exact ⟨fun ⟨i, w, h, _⟩ => absurd h (by omega), fun _ => rfl⟩
  | succ k ih =>
    obtain ⟨ih1, ih2⟩ := ih
    cases hx : l[k]? with
    | none =>
      have e : InW l g x (k + 1) ↔ InW l g x k := by
        constructor
        · rintro ⟨i, w, a, b, c⟩
          rcases Nat.lt_or_ge i k with h | h
          · exact ⟨i, w, h, b, c⟩
          · rw [show i = k by omega, hx] at b; cases b
        · rintro ⟨i, w, a, b⟩; exact ⟨i, w, by omega, b⟩
      simp only [aheadK, hx, Nat.add_zero, e]
      exact ⟨ih1, ih2⟩
    | some w =>
      rw [aheadK_succ hx, aheadK_succ hx]
      have hs := sumS_succ hx
      by_cases hp : InW l g x k
      · have e := ih1 hp
        obtain ⟨i, w', a, b, c, d, f⟩ := hp
        have := sumS_mono l (i + 1) k a
        rw [if_neg (by omega), if_neg (by omega)]
        exact ⟨fun _ => by omega, fun hn => absurd ⟨i, w', by omega, b, c, d, f⟩ hn⟩
      · have e := ih2 hp
        by_cases hq : w.g = g ∧ sumS (l.take k) ≤ x ∧ x < sumS (l.take (k + 1))
        · obtain ⟨q1, q2, q3⟩ := hq
          refine ⟨fun _ => ?_, fun hn => absurd ⟨k, w, by omega, hx, q1, q2, q3⟩ hn⟩
          rw [if_pos ⟨q1, by omega⟩]
          split <;> omega
        · refine ⟨fun hi => ?_, fun _ => ?_⟩
          · obtain ⟨i, w', a, b, c, d, f⟩ := hi
            rcases Nat.lt_or_ge i k with h | h
            · exact absurd ⟨i, w', h, b, c, d, f⟩ hp
            · obtain rfl : i = k := by omega
              rw [hx] at b
              cases b
              exact absurd ⟨c, d, f⟩ hq
          · by_cases hg : w.g = g
            · by_cases hb : sumS (l.take k) < x + 1
              · have h2 : sumS (l.take (k + 1)) ≤ x := by
                  rcases Nat.lt_or_ge x (sumS (l.take (k + 1))) with h | h
                  · exact absurd ⟨hg, by omega, h⟩ hq
                  · exact h
                rw [if_pos ⟨hg, hb⟩]
                split <;> omega
              · rw [if_neg (by omega), if_neg (by omega)]; omega
            · rw [if_neg (by omega), if_neg (by omega)]; omega
/-- Of a place in the frame: what lies ahead of the next one. -/
theorem ahead_step {l : List Win} {g x k : Nat} {w : Win} (hx : l[k]? = some w) (h1 : sumS (l.take k) ≤ x) (h2 : x < sumS (l.take (k + 1))) : aheadF l g (x + 1) = aheadF l g x + (if w.g = g then 1 else 0) := by
  have hk : k < l.length := (List.getElem?_eq_some_iff.1 hx).1
  unfold aheadF
  by_cases hg : w.g = g
  · rw [if_pos hg]
    exact (aheadK_step l g x _).1 ⟨k, w, hk, hx, hg, h1, h2⟩
  · rw [if_neg hg]
    refine (aheadK_step l g x _).2 ?_
    rintro ⟨i, w', a, b, c, d, e⟩
    obtain rfl := one_win h1 h2 d e
    rw [hx] at b
    cases b
    exact hg c
theorem ahead_zero (l : List Win) (g : Nat) : aheadF l g 0 = 0 := by
  unfold aheadF
  have : ∀ k, aheadK l g 0 k = 0 := by
    intro k
    induction k with
    | zero => rfl
    | succ k ih =>
      cases hx : l[k]? with
      | none => simp only [aheadK, hx, ih]
      | some w => rw [aheadK_succ hx, ih, if_neg (by omega)]
  exact this _
theorem ahead_mono {l : List Win} {g : Nat} : ∀ x y, x ≤ y → aheadF l g x ≤ aheadF l g y := by
  intro x y h
  induction y with
  | zero => rw [show x = 0 by omega]; exact Nat.le_refl _
  | succ y ih =>
    rcases Nat.lt_or_ge x (y + 1) with h1 | h1
    · refine Nat.le_trans (ih (by omega)) ?_
      unfold aheadF
      obtain ⟨a, b⟩ := aheadK_step l g y l.length
      by_cases hp : InW l g y l.length
      · rw [a hp]; omega
      · rw [b hp]; exact Nat.le_refl _
    · rw [show x = y + 1 by omega]; exact Nat.le_refl _
theorem budget_pos {l : List Win} {g k : Nat} {w : Win} (hx : l[k]? = some w) (hg : w.g = g) (hs : 0 < w.s) : 0 < aheadF l g (sumS l) := by
  have h := ahead_step (g := g) hx (Nat.le_refl _) (by rw [sumS_succ hx]; omega)
  rw [if_pos hg] at h
  have h2 := ahead_mono (l := l) (g := g) (sumS (l.take k) + 1) (sumS l) (by have := sumS_all l (k := k + 1); rw [sumS_succ hx] at this; omega)
  omega
theorem budget_zero {l : List Win} {g : Nat} (h : ∀ (i : Nat) (w : Win), l[i]? = some w → w.g ≠ g) : aheadF l g (sumS l) = 0 := by
  unfold aheadF
  have : ∀ k, aheadK l g (sumS l) k = 0 := by
    intro k
    induction k with
    | zero => rfl
    | succ k ih =>
      cases hx : l[k]? with
      | none => simp only [aheadK, hx, ih]
      | some w => rw [aheadK_succ hx, ih, if_neg (by have := h k w hx; omega)]
  exact this _
/-- What a check that is fine says. -/
theorem check_ok {l : List Win} {gs : Int} (h : checkW l gs = 0) : 0 < l.length ∧ l.length ≤ 32 ∧ sumS l ≤ 1024 ∧ (∀ w ∈ l, 0 < w.s) ∧ 1 ≤ gs ∧ gs ≤ 16 ∧ (∀ w ∈ l, w.g ≠ 255 → w.g < gs.toNat) ∧ ∀ g, g < gs.toNat → ∃ w ∈ l, w.g = g := by
  unfold checkW at h
  split at h
  · omega
  · split at h
    · omega
    · split at h
      · omega
      · split at h
        · omega
        · rename_i h1 h2 h3 h4
          split at h
          · rename_i h5
            have h4 : runW gs.toNat l 0 = 0 := by omega
            have key : ∀ (l : List Win) (all : Nat), runW gs.toNat l all = 0 → all ≤ 1024 → all + sumS l ≤ 1024 ∧ ∀ w ∈ l, 0 < w.s ∧ (w.g ≠ 255 → w.g < gs.toNat) := by
              intro l
              induction l with
              | nil => intro all _ ha; exact ⟨by simp [sumS]; omega, fun w hw => by cases hw⟩
              | cons w l ih =>
                intro all hr ha
                simp only [runW] at hr
                split at hr
                · omega
                · split at hr
                  · omega
                  · split at hr
                    · omega
                    · obtain ⟨i1, i2⟩ := ih _ hr (by omega)
                      refine ⟨by simp only [sumS, List.map_cons, List.sum_cons] at i1 ⊢; omega, fun x hx => ?_⟩
                      rcases List.mem_cons.1 hx with rfl | hx
                      · exact ⟨by omega, fun _ => by omega⟩
                      · exact i2 x hx
            obtain ⟨k1, k2⟩ := key l 0 h4 (by omega)
            refine ⟨by omega, by omega, by omega, fun w hw => (k2 w hw).1, by omega, by omega, fun w hw => (k2 w hw).2, fun g hg => ?_⟩
            rw [List.all_eq_true] at h5
            have := h5 g (List.mem_range.2 hg)
            unfold there at this
            rw [List.any_eq_true] at this
            obtain ⟨w, hw, e⟩ := this
            exact ⟨w, hw, by simpa using e⟩
          · omega
end Go.Proofs.YtndnpmfoegkkeaaDoor
