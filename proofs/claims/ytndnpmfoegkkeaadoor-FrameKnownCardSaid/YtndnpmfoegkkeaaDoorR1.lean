/-
  The document's frame, step by step: plain facts.
-/
import Derived.Test.YtndnpmfoegkkeaaDoorP2
set_option linter.unusedSimpArgs false
set_option linter.unusedVariables false
set_option linter.unusedSectionVars false
namespace Go.Proofs.YtndnpmfoegkkeaaDoor
open Go Go.Mini Go.Proofs.Tryd
set_option maxRecDepth 100000

def frL (l : List Win) : List Nat := l.flatMap fun w => List.replicate w.s w.g
theorem frL_len (l : List Win) : (frL l).length = sumS l := by
  induction l with
  | nil => rfl
  | cons w l ih =>
    simp only [frL, List.flatMap_cons, List.length_append, List.length_replicate] at ih ⊢
    rw [ih]
    simp [sumS]
theorem frL_take (l : List Win) {k : Nat} {w : Win} (hx : l[k]? = some w) : frL (l.take (k + 1)) = frL (l.take k) ++ List.replicate w.s w.g := by
  rw [List.take_add_one, hx]
  simp [frL]
theorem frL_pre (l : List Win) (k : Nat) : frL l = frL (l.take k) ++ frL (l.drop k) := by
  unfold frL
  rw [← List.flatMap_append, List.take_append_drop]
theorem frL_at {l : List Win} {k x : Nat} {w : Win} (hx : l[k]? = some w) (h1 : sumS (l.take k) ≤ x) (h2 : x < sumS (l.take (k + 1))) : (frL l)[x]? = some w.g := by
  rw [frL_pre l (k + 1), frL_take l hx, List.append_assoc, List.getElem?_append_right (by rw [frL_len]; exact h1), frL_len]
  have hs := sumS_succ hx
  rw [List.getElem?_append_left (by rw [List.length_replicate]; omega)]
  rw [List.getElem?_replicate, if_pos (by omega)]
theorem frL_u8 {l : List Win} (hok : ∀ w ∈ l, w.ok) : ∀ g ∈ frL l, g < 256 := by
  intro g hg
  obtain ⟨w, hw, hg⟩ := List.mem_flatMap.1 hg
  rw [(List.mem_replicate.1 hg).2]
  exact (hok w hw).1
def cntL (f : List Nat) (g : Nat) : Nat := f.countP fun x => decide (x = g)
theorem cntL_succ {f : List Nat} {g k x : Nat} (hx : f[k]? = some x) : cntL (f.take (k + 1)) g = cntL (f.take k) g + if x = g then 1 else 0 := by
  unfold cntL
  rw [List.take_add_one, hx]
  simp [List.countP_append, List.countP_cons]
theorem cntL_ahead {l : List Win} {g : Nat} : ∀ n, n ≤ sumS l → cntL ((frL l).take n) g = aheadF l g n := by
  intro n
  induction n with
  | zero => intro _; rw [ahead_zero]; rfl
  | succ n ih =>
    intro hn
    obtain ⟨k, w, hx, h1, h2⟩ := win_of (l := l) (x := n) (by omega)
    rw [cntL_succ (frL_at hx h1 h2), ih (by omega), ahead_step hx h1 h2]
theorem cntL_all {l : List Win} {g : Nat} : cntL (frL l) g = aheadF l g (sumS l) := by
  rw [← cntL_ahead (sumS l) (Nat.le_refl _), List.take_of_length_le (by rw [frL_len]; exact Nat.le_refl _)]
theorem cntL_le (f : List Nat) (g : Nat) : cntL f g ≤ f.length := List.countP_le_length
/-- What Found says, over the frame. -/
theorem found_at {l : List Win} {g step b : Nat} (hN : 0 < sumS l) (h : Found l g step b) : b < sumS l ∧ (frL l)[(step + b) % sumS l]? = some g ∧ ∀ m, m < b → ∀ x, (frL l)[(step + m) % sumS l]? = some x → x ≠ g := by
  obtain ⟨h1, h2, h3, _⟩ := h
  refine ⟨h1, ?_, fun m hm x hx => ?_⟩
  · obtain ⟨k, w, e1, e2, e3⟩ := win_of (l := l) (x := (step + b) % sumS l) (Nat.mod_lt _ hN)
    rw [frL_at e1 e2 e3, h2 k w e1 e2 e3]
  · obtain ⟨k, w, e1, e2, e3⟩ := win_of (l := l) (x := (step + m) % sumS l) (Nat.mod_lt _ hN)
    rw [frL_at e1 e2 e3] at hx
    rw [← Option.some.inj hx]
    exact h3 m k w hm e1 e2 e3
theorem none_at {l : List Win} {g : Nat} (h : aheadF l g (sumS l) = 0) : ∀ x ∈ frL l, x ≠ g := by
  intro x hx e
  rw [← cntL_all] at h
  subst e
  have := List.countP_pos_iff.2 ⟨x, hx, by simp⟩ |> fun (h : 0 < (frL l).countP fun y => decide (y = x)) => h
  unfold cntL at h
  omega
end Go.Proofs.YtndnpmfoegkkeaaDoor
