/-
  Slices of numbers of eight bytes that come in.
-/
import Derived.Test.YtcfgagpjdhhddaaW
import Derived.Test.YtcfgagpjdhhddaaD17
set_option linter.unusedSimpArgs false
set_option linter.unusedVariables false
set_option linter.unusedSectionVars false
namespace Go.Proofs.Ytcfgagpjdhhddaa
open Go Go.Mini

theorem u64s_of (rows : List (List Value)) : (∀ r ∈ rows, leavesIn [.int .u64] r) → ∃ l : List Nat, rows.flatten = u64sC l ∧ l.length = rows.length ∧ ∀ t ∈ l, t < 18446744073709551616 := by
  induction rows with
  | nil => intro _; exact ⟨[], rfl, rfl, fun t ht => by cases ht⟩
  | cons r rows ih =>
    intro h
    obtain ⟨l, h1, h2, h3⟩ := ih fun r hr => h r (by simp [hr])
    obtain ⟨x, rfl, hx⟩ := leaves1 (h r (by simp))
    obtain ⟨a, rfl, ha⟩ := leaf_u64 hx
    obtain ⟨a, rfl⟩ := Int.eq_ofNat_of_zero_le ha.1
    refine ⟨a :: l, by rw [List.flatten_cons, h1]; rfl, by simp [h2], fun t ht => ?_⟩
    rcases List.mem_cons.1 ht with rfl | ht
    · omega
    · exact h3 t ht

end Go.Proofs.Ytcfgagpjdhhddaa
