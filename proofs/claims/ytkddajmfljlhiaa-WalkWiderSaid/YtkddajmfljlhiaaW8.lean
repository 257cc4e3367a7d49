/-
  What comes in.
-/
import Derived.Test.YtkddajmfljlhiaaW7
import Derived.Test.YtkddajmfljlhiaaM19
set_option linter.unusedSimpArgs false
set_option linter.unusedVariables false
namespace Go.Proofs.Ytkddajmfljlhiaa
open Go Go.Mini Go.Proofs.Try

theorem lt63 {a b : Nat} (h : a = b) (h2 : b ≤ maxLen) : a < 9223372036854775808 := by
  have : maxLen < 9223372036854775808 := by decide
  omega
theorem leaves4 {a b c d : Leaf} {r : List Value} (h : leavesIn [a, b, c, d] r) : ∃ x y z u, r = [x, y, z, u] ∧ leafIn a x ∧ leafIn b y ∧ leafIn c z ∧ leafIn d u := by
  match r, h with
  | [x, y, z, u], ⟨h1, h2, h3, h4, _⟩ => exact ⟨x, y, z, u, rfl, h1, h2, h3, h4⟩
theorem leaves6 {a b c d e f : Leaf} {r : List Value} (h : leavesIn [a, b, c, d, e, f] r) : ∃ x0 x1 x2 x3 x4 x5, r = [x0, x1, x2, x3, x4, x5] ∧ leafIn a x0 ∧ leafIn b x1 ∧ leafIn c x2 ∧ leafIn d x3 ∧ leafIn e x4 ∧ leafIn f x5 := by
  match r, h with
  | [x0, x1, x2, x3, x4, x5], ⟨h0, h1, h2, h3, h4, h5, _⟩ => exact ⟨x0, x1, x2, x3, x4, x5, rfl, h0, h1, h2, h3, h4, h5⟩
theorem words_of (rows : List (List Value)) : (∀ r ∈ rows, leavesIn [.int .u64, .int .u64, .bool, .bool] r) → ∃ l : List Wd, rows.flatten = wdsC l ∧ l.length = rows.length ∧ ∀ e ∈ l, e.ok := by
  induction rows with
  | nil => intro _; exact ⟨[], rfl, rfl, fun e he => by cases he⟩
  | cons r rows ih =>
    intro h
    obtain ⟨l, h1, h2, h3⟩ := ih fun r hr => h r (by simp [hr])
    obtain ⟨x0, x1, x2, x3, rfl, q0, q1, q2, q3⟩ := leaves4 (h r (by simp))
    obtain ⟨a, rfl, ha⟩ := leaf_u64 q0
    obtain ⟨b, rfl, hb⟩ := leaf_u64 q1
    obtain ⟨c, rfl⟩ := leaf_bool q2
    obtain ⟨d, rfl⟩ := leaf_bool q3
    obtain ⟨a, rfl⟩ := Int.eq_ofNat_of_zero_le ha.1
    obtain ⟨b, rfl⟩ := Int.eq_ofNat_of_zero_le hb.1
    refine ⟨⟨a, b, c, d⟩ :: l, by rw [List.flatten_cons, h1]; rfl, by simp [h2], fun e he => ?_⟩
    rcases List.mem_cons.1 he with rfl | he
    · exact ⟨by show a < _; omega, by show b < _; omega⟩
    · exact h3 e he
end Go.Proofs.Ytkddajmfljlhiaa
