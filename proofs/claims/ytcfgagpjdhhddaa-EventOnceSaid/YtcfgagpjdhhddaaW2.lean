/-
  Slices of bytes and of numbers that come in.
-/
import Derived.Test.YtcfgagpjdhhddaaW
set_option linter.unusedSimpArgs false
set_option linter.unusedVariables false
namespace Go.Proofs.Ytcfgagpjdhhddaa
open Go Go.Mini

theorem bytes_of (rows : List (List Value)) : (∀ r ∈ rows, leavesIn [.int .u8] r) → ∃ l : List UInt8, rows.flatten = l.map byteV ∧ l.length = rows.length := by
  induction rows with
  | nil => intro _; exact ⟨[], rfl, rfl⟩
  | cons r rows ih =>
    intro h
    obtain ⟨l, h1, h2⟩ := ih fun r hr => h r (by simp [hr])
    obtain ⟨x, rfl, hx⟩ := leaves1 (h r (by simp))
    obtain ⟨a, rfl, ha⟩ := leaf_u8 hx
    obtain ⟨a, rfl⟩ := Int.eq_ofNat_of_zero_le ha.1
    have ha' : a < 256 := by omega
    refine ⟨UInt8.ofNat a :: l, ?_, by simp [h2]⟩
    rw [List.flatten_cons, h1, List.map_cons]
    unfold byteV
    rw [UInt8.toNat_ofNat', Nat.mod_eq_of_lt ha']
    rfl

end Go.Proofs.Ytcfgagpjdhhddaa
