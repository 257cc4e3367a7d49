/-
  Acts that come in.
-/
import Derived.Test.YtfdhahnnhaeibaaDoorQ6
set_option linter.unusedSimpArgs false
set_option linter.unusedVariables false
set_option linter.unusedSectionVars false
namespace Go.Proofs.YtfdhahnnhaeibaaDoor
open Go Go.Mini Go.Proofs.Tryd
set_option maxRecDepth 100000

theorem act_at {h : Hp} {l : List Act} {v : Value} {k : Nat} {e : Act} (hv : Sl h 6 l.length (actsC l) v) (hk : l[k]? = some e) :
    ∃ a c b, v = .slice (some a) l.length c ∧ h.blks a.block = some b ∧ a.off + k * 6 + 6 ≤ b.cells.size ∧ b.cells.extract (a.off + k * 6) (a.off + k * 6 + 6) = (actC e).toArray := by
  have hlt : k < l.length := (List.getElem?_eq_some_iff.1 hk).1
  obtain ⟨h0, ⟨_, _, _, h1⟩ | ⟨a, c, b, rfl, h2, h3, h4⟩⟩ := hv
  · omega
  · have hm : k * 6 + 6 ≤ l.length * 6 := by omega
    refine ⟨a, c, b, rfl, h2, by omega, ?_⟩
    apply Array.ext_getElem?
    intro i
    rw [Array.getElem?_extract]
    by_cases hi : i < 6
    · rw [if_pos (by omega)]
      have := h4 (k * 6 + i) (by omega)
      rw [← Nat.add_assoc] at this
      rw [this, actsC_at hk hi]; simp
    · rw [if_neg (by omega)]
      symm
      simp [actC]
      omega
theorem leaves6 {a b c d g f : Leaf} {r : List Value} (h : leavesIn [a, b, c, d, g, f] r) : ∃ x y z u v w, r = [x, y, z, u, v, w] ∧ leafIn a x ∧ leafIn b y ∧ leafIn c z ∧ leafIn d u ∧ leafIn g v ∧ leafIn f w := by
  match r, h with
  | [x, y, z, u, v, w], ⟨h1, h2, h3, h4, h5, h6, _⟩ => exact ⟨x, y, z, u, v, w, rfl, h1, h2, h3, h4, h5, h6⟩
theorem acts_of (rows : List (List Value)) : (∀ r ∈ rows, leavesIn [.int .u8, .int .i64, .bool, .int .u64, .int .u64, .int .i64] r) → ∃ l : List Act, rows.flatten = actsC l ∧ l.length = rows.length ∧ ∀ e ∈ l, e.ok := by
  induction rows with
  | nil => intro _; exact ⟨[], rfl, rfl, fun e he => by cases he⟩
  | cons r rows ih =>
    intro h
    obtain ⟨l, h1, h2, h3⟩ := ih fun r hr => h r (by simp [hr])
    obtain ⟨x0, x1, x2, x3, x4, x5, rfl, q0, q1, q2, q3, q4, q5⟩ := leaves6 (h r (by simp))
    obtain ⟨a, rfl, ha⟩ := leaf_u8 q0
    obtain ⟨b, rfl, hb⟩ := leaf_i64 q1
    obtain ⟨x, rfl⟩ := leaf_bool q2
    obtain ⟨c, rfl, hc⟩ := leaf_u64 q3
    obtain ⟨d, rfl, hd⟩ := leaf_u64 q4
    obtain ⟨e, rfl, he⟩ := leaf_i64 q5
    obtain ⟨a, rfl⟩ := Int.eq_ofNat_of_zero_le ha.1
    obtain ⟨c, rfl⟩ := Int.eq_ofNat_of_zero_le hc.1
    obtain ⟨d, rfl⟩ := Int.eq_ofNat_of_zero_le hd.1
    refine ⟨⟨a, b, x, c, d, e⟩ :: l, by rw [List.flatten_cons, h1]; rfl, by simp [h2], fun g hg => ?_⟩
    rcases List.mem_cons.1 hg with rfl | hg
    · exact ⟨by show a < _; omega, hb, by show c < _; omega, by show d < _; omega, he⟩
    · exact h3 g hg
theorem lt63 {a b : Nat} (h : a = b) (h2 : b ≤ maxLen) : a < 9223372036854775808 := by
  have : maxLen < 9223372036854775808 := by decide
  omega
end Go.Proofs.YtfdhahnnhaeibaaDoor
