/-
  What comes in: twelve leaves.
-/
import Derived.Test.YtkddajmfljlhiaaX7
import Derived.Test.YtkddajmfljlhiaaW8
set_option linter.unusedSimpArgs false
set_option linter.unusedVariables false
namespace Go.Proofs.Ytkddajmfljlhiaa
open Go Go.Mini Go.Proofs.Try

theorem leaves12 {l0 l1 l2 l3 l4 l5 l6 l7 l8 l9 l10 l11 : Leaf} {r : List Value} (h : leavesIn [l0, l1, l2, l3, l4, l5, l6, l7, l8, l9, l10, l11] r) : ∃ x0 x1 x2 x3 x4 x5 x6 x7 x8 x9 x10 x11, r = [x0, x1, x2, x3, x4, x5, x6, x7, x8, x9, x10, x11] ∧ leafIn l0 x0 ∧ leafIn l1 x1 ∧ leafIn l2 x2 ∧ leafIn l3 x3 ∧ leafIn l4 x4 ∧ leafIn l5 x5 ∧ leafIn l6 x6 ∧ leafIn l7 x7 ∧ leafIn l8 x8 ∧ leafIn l9 x9 ∧ leafIn l10 x10 ∧ leafIn l11 x11 := by
  match r, h with
  | [x0, x1, x2, x3, x4, x5, x6, x7, x8, x9, x10, x11], ⟨h0, h1, h2, h3, h4, h5, h6, h7, h8, h9, h10, h11, _⟩ => exact ⟨x0, x1, x2, x3, x4, x5, x6, x7, x8, x9, x10, x11, rfl, h0, h1, h2, h3, h4, h5, h6, h7, h8, h9, h10, h11⟩
end Go.Proofs.Ytkddajmfljlhiaa
