/-
  The plain law of Next and of Owned.
-/
import Derived.Test.YtndnpmfoegkkeaaDoorP1
set_option linter.unusedSimpArgs false
set_option linter.unusedVariables false
set_option linter.unusedSectionVars false
namespace Go.Proofs.YtndnpmfoegkkeaaDoor
open Go Go.Mini Go.Proofs.Tryd
set_option maxRecDepth 100000

theorem mod_two {x d : Nat} (hx : x < 2 * d) : x % d = if x < d then x else x - d := by
  split
  · exact Nat.mod_eq_of_lt ‹_›
  · rw [Nat.mod_eq_sub_mod (by omega), Nat.mod_eq_of_lt (by omega)]
theorem mod_off {s m N : Nat} (hN : 0 < N) (hm : m < N) : (s + m) % N = if s % N + m < N then s % N + m else s % N + m - N := by
  have := Nat.mod_lt s hN
  rw [← Nat.mod_add_mod, mod_two (by omega)]
def Found (l : List Win) (g step b : Nat) : Prop :=
  b < sumS l ∧ (∀ (k : Nat) (w : Win), l[k]? = some w → sumS (l.take k) ≤ (step + b) % sumS l → (step + b) % sumS l < sumS (l.take (k + 1)) → w.g = g) ∧
    (∀ (m k : Nat) (w : Win), m < b → l[k]? = some w → sumS (l.take k) ≤ (step + m) % sumS l → (step + m) % sumS l < sumS (l.take (k + 1)) → w.g ≠ g) ∧ 0 < aheadF l g (sumS l)
theorem same_win {l : List Win} {i j : Nat} {w w' : Win} (h1 : l[i]? = some w) (h2 : l[j]? = some w') (e : i = j) : w = w' := by
  subst e; rw [h1] at h2; exact Option.some.inj h2
theorem found_A {l : List Win} {g step k : Nat} {w : Win} (hN : 0 < sumS l) (hpos : ∀ w ∈ l, 0 < w.s) (hx : l[k]? = some w) (hg : w.g = g)
    (hb : ∀ i w', i < k → l[i]? = some w' → w'.g = g → sumS (l.take (i + 1)) ≤ step % sumS l) (hlt : step % sumS l < sumS (l.take (k + 1))) : Found l g step (max (sumS (l.take k)) (step % sumS l) - step % sumS l) := by
  have hs := sumS_succ hx
  have hall := sumS_all l (k := k + 1)
  have hw := hpos w (List.mem_of_getElem? hx)
  have hpl := Nat.mod_lt step hN
  have hb0 : max (sumS (l.take k)) (step % sumS l) - step % sumS l < sumS l := by omega
  refine ⟨hb0, fun j w' hj h1 h2 => ?_, fun m j w' hm hj h1 h2 hg' => ?_, budget_pos hx hg hw⟩
  · rw [mod_off hN hb0, if_pos (by omega)] at h1 h2
    have := one_win (l := l) (x := max (sumS (l.take k)) (step % sumS l)) (i := k) (j := j) (by omega) (by omega) (by omega) (by omega)
    rw [← same_win hx hj this]; exact hg
  · rw [mod_off hN (by omega), if_pos (by omega)] at h1 h2
    rcases Nat.lt_or_ge j k with h | h
    · have := hb j w' h hj hg'
      omega
    · have := sumS_mono l k j h
      omega
theorem found_B {l : List Win} {g step nx : Nat} (hN : 0 < sumS l) (hpos : ∀ w ∈ l, 0 < w.s) (hn : NInv l g (step % sumS l) (sumS l) l.length nx) (h0 : nx ≠ 0) : Found l g step (nx - step % sumS l) := by
  obtain ⟨ha, hb⟩ := hn
  rcases hb with ⟨hb, _⟩ | ⟨i, w, hi, hx, hg, e, hf⟩
  · exact absurd hb h0
  have hs := sumS_succ hx
  have hall := sumS_all l (k := i + 1)
  have hw := hpos w (List.mem_of_getElem? hx)
  have hpl := Nat.mod_lt step hN
  have hle := ha i w hi hx hg
  have hb0 : nx - step % sumS l < sumS l := by omega
  refine ⟨hb0, fun j w' hj h1 h2 => ?_, fun m j w' hm hj h1 h2 hg' => ?_, budget_pos hx hg hw⟩
  · rw [mod_off hN hb0, if_neg (by omega)] at h1 h2
    have := one_win (l := l) (x := sumS (l.take i)) (i := i) (j := j) (by omega) (by omega) (by omega) (by omega)
    rw [← same_win hx hj this]; exact hg
  · rw [mod_off hN (by omega)] at h1 h2
    have hjl : j < l.length := (List.getElem?_eq_some_iff.1 hj).1
    split at h1
    · rw [if_pos (by assumption)] at h2
      have := ha j w' hjl hj hg'
      omega
    · rw [if_neg (by assumption)] at h2
      rcases Nat.lt_or_ge j i with h | h
      · exact hf j w' h hj hg'
      · have := sumS_mono l i j h
        omega
def owN (l : List Win) (g s : Nat) : Nat := s / sumS l * aheadF l g (sumS l) + aheadF l g (s % sumS l)
theorem ahead_le (l : List Win) (g x : Nat) : aheadF l g x ≤ sumS l := by
  have := aheadK_le (l := l) (g := g) (pl := x) l.length
  rw [List.take_length] at this
  exact this
theorem owN_le {l : List Win} {g s : Nat} : owN l g s ≤ s + sumS l := by
  unfold owN
  have h1 := ahead_le l g (sumS l)
  have h2 := ahead_le l g (s % sumS l)
  have h3 : s / sumS l * aheadF l g (sumS l) ≤ s / sumS l * sumS l := Nat.mul_le_mul_left _ h1
  have h4 := Nat.div_mul_le_self s (sumS l)
  omega
theorem owN_step {l : List Win} {g s k : Nat} {w : Win} (hN : 0 < sumS l) (hx : l[k]? = some w) (h1 : sumS (l.take k) ≤ s % sumS l) (h2 : s % sumS l < sumS (l.take (k + 1))) : owN l g (s + 1) = owN l g s + (if w.g = g then 1 else 0) := by
  have hst := ahead_step (g := g) hx h1 h2
  have hpl := Nat.mod_lt s hN
  have hdm := Nat.div_add_mod s (sumS l)
  unfold owN
  by_cases hc : s % sumS l + 1 < sumS l
  · have e : s + 1 = sumS l * (s / sumS l) + (s % sumS l + 1) := by omega
    have e1 : (s + 1) / sumS l = s / sumS l := by
      rw [e, Nat.mul_add_div hN, Nat.div_eq_of_lt hc, Nat.add_zero]
    have e2 : (s + 1) % sumS l = s % sumS l + 1 := by
      rw [e, Nat.mul_add_mod, Nat.mod_eq_of_lt hc]
    rw [e1, e2, hst]
    omega
  · have hc1 : s % sumS l + 1 = sumS l := by omega
    have e : s + 1 = sumS l * (s / sumS l + 1) + 0 := by rw [Nat.mul_succ]; omega
    have e1 : (s + 1) / sumS l = s / sumS l + 1 := by
      rw [e, Nat.mul_add_div hN, Nat.zero_div, Nat.add_zero]
    have e2 : (s + 1) % sumS l = 0 := by
      rw [e, Nat.mul_add_mod, Nat.zero_mod]
    rw [hc1] at hst
    rw [e1, e2, ahead_zero, Nat.succ_mul, hst]
    omega
theorem win_of {l : List Win} {x : Nat} (h : x < sumS l) : ∃ k w, l[k]? = some w ∧ sumS (l.take k) ≤ x ∧ x < sumS (l.take (k + 1)) := by
  have key : ∀ n, n ≤ l.length → x < sumS (l.take n) → ∃ k w, l[k]? = some w ∧ sumS (l.take k) ≤ x ∧ x < sumS (l.take (k + 1)) := by
    intro n
    induction n with
    | zero => intro _ h; simp [sumS] at h
    | succ n ih =>
      intro hn h
      rcases Nat.lt_or_ge x (sumS (l.take n)) with h1 | h1
      · exact ih (by omega) h1
      · exact ⟨n, l[n], List.getElem?_eq_getElem (by omega), h1, h⟩
  exact key l.length (Nat.le_refl _) (by rw [List.take_length]; exact h)
theorem owned_nat {l : List Win} {g s : Nat} (hs : s < 2000000000000000) (hN : sumS l ≤ 1024) : IntKind.u64.wrap (IntKind.u64.wrap ((s / sumS l : Nat) * (aheadF l g (sumS l) : Nat)) + (aheadF l g (s % sumS l) : Nat)) = (owN l g s : Nat) := by
  have h := owN_le (l := l) (g := g) (s := s)
  unfold owN at h ⊢
  rw [← Int.natCast_mul]
  generalize s / sumS l * aheadF l g (sumS l) = A at *
  generalize aheadF l g (s % sumS l) = B at *
  have e1 : IntKind.u64.wrap (A : Int) = A := IntWalk.u64_in _ (by omega)
  rw [e1, ← Int.natCast_add]
  exact IntWalk.u64_in _ (by omega)
end Go.Proofs.YtndnpmfoegkkeaaDoor
