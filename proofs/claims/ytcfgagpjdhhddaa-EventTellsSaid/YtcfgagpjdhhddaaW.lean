/-
  Slices of events that come in.
-/
import Derived.Test.YtcfgagpjdhhddaaD4
import Derived.Test.YtcfgagpjdhhddaaM19
set_option linter.unusedSimpArgs false
set_option linter.unusedVariables false
set_option linter.unusedSectionVars false
namespace Go.Proofs.Ytcfgagpjdhhddaa
open Go Go.Mini

theorem leaves4 {a b c d : Leaf} {r : List Value} (h : leavesIn [a, b, c, d] r) : ∃ x y z u, r = [x, y, z, u] ∧ leafIn a x ∧ leafIn b y ∧ leafIn c z ∧ leafIn d u := by
  match r, h with
  | [x, y, z, u], ⟨h1, h2, h3, h4, _⟩ => exact ⟨x, y, z, u, rfl, h1, h2, h3, h4⟩
theorem evs_of (rows : List (List Value)) : (∀ r ∈ rows, leavesIn [.int .u32, .int .u8, .int .u8, .int .u32] r) → ∃ l : List Ev, rows.flatten = evsC l ∧ l.length = rows.length ∧ ∀ e ∈ l, e.ok := by
  induction rows with
  | nil => intro _; exact ⟨[], rfl, rfl, fun e he => by cases he⟩
  | cons r rows ih =>
    intro h
    obtain ⟨l, h1, h2, h3⟩ := ih fun r hr => h r (by simp [hr])
    obtain ⟨x, y, z, u, rfl, hx, hy, hz, hu⟩ := leaves4 (h r (by simp))
    obtain ⟨a, rfl, ha⟩ := leaf_u32 hx
    obtain ⟨b, rfl, hb⟩ := leaf_u8 hy
    obtain ⟨c, rfl, hc⟩ := leaf_u8 hz
    obtain ⟨d, rfl, hd⟩ := leaf_u32 hu
    obtain ⟨a, rfl⟩ := Int.eq_ofNat_of_zero_le ha.1
    obtain ⟨b, rfl⟩ := Int.eq_ofNat_of_zero_le hb.1
    obtain ⟨c, rfl⟩ := Int.eq_ofNat_of_zero_le hc.1
    obtain ⟨d, rfl⟩ := Int.eq_ofNat_of_zero_le hd.1
    refine ⟨⟨a, b, c, d⟩ :: l, by rw [List.flatten_cons, h1]; rfl, by simp [h2], fun e he => ?_⟩
    rcases List.mem_cons.1 he with rfl | he
    · exact ⟨by show a < _; omega, by show b < _; omega, by show c < _; omega, by show d < _; omega⟩
    · exact h3 e he

end Go.Proofs.Ytcfgagpjdhhddaa
