/-
  A record that is dropped makes no difference to others. Plain laws.
-/
import Derived.Test.YtcfgagpjdhhddaaS2
set_option linter.unusedSimpArgs false
set_option linter.unusedVariables false
set_option linter.unusedSectionVars false
namespace Go.Proofs.Ytcfgagpjdhhddaa
open Go Go.Mini

theorem recA_same {L L' : List UInt8} {o o' : Nat} (h : (L.drop o).take 10 = (L'.drop o').take 10) : recA L o = recA L' o' := by
  rw [← recA_cut L o, h, recA_cut]
theorem pst_congr {guests : Int} {R R' : Nat → Ev} : ∀ n, (∀ i, i < n → R i = R' i) → pst guests R n = pst guests R' n := by
  intro n
  induction n with
  | zero => intro _; rfl
  | succ n ih =>
    intro h
    have h1 := ih fun i hi => h i (by omega)
    simp only [pst]
    rw [h1, h n (by omega)]
theorem pst_mem (guests : Int) (R : Nat → Ev) (n : Nat) : ∀ d ∈ (pst guests R n).2, d.1 < n ∧ whyE guests (pst guests R d.1).1 (R d.1) ≠ 0 := by
  induction n with
  | zero => intro d hd; cases hd
  | succ n ih =>
    intro d hd
    unfold pst at hd
    split at hd
    · have := ih d hd; exact ⟨by omega, this.2⟩
    · rename_i hw
      rcases List.mem_append.1 hd with hd | hd
      · have := ih d hd; exact ⟨by omega, this.2⟩
      · obtain rfl := List.mem_singleton.1 hd
        exact ⟨by simp, hw⟩
/-- Without a record. -/
def less (R : Nat → Ev) (k : Nat) (i : Nat) : Ev := if i < k then R i else R (i + 1)
theorem pst_less {guests : Int} {R : Nat → Ev} {k : Nat} (hk : whyE guests (pst guests R k).1 (R k) ≠ 0) : ∀ d, (pst guests (less R k) (k + d)).1 = (pst guests R (k + d + 1)).1 := by
  intro d
  induction d with
  | zero =>
    rw [Nat.add_zero, pst_congr (R := less R k) (R' := R) k fun i hi => by unfold less; rw [if_pos hi]]
    conv => rhs; rw [pst]
    rw [if_neg hk]
  | succ d ih =>
    have e1 : less R k (k + d) = R (k + d + 1) := by unfold less; rw [if_neg (by omega)]
    rw [show k + (d + 1) = (k + d) + 1 from by omega]
    conv => lhs; rw [pst]
    conv => rhs; rw [pst]
    rw [ih, e1]
    split <;> rfl
theorem recs_less {L : List UInt8} {m k i : Nat} (hL : L.length = 10 * m) (hk : k < m) (hi : i < m - 1) : recs (L.take (10 * k) ++ L.drop (10 * k + 10)) i = less (recs L) k i := by
  unfold less recs
  have hA : (L.take (10 * k)).length = 10 * k := by rw [List.length_take]; omega
  split
  · rename_i hik
    apply recA_same
    rw [List.drop_append_of_le_length (by omega), List.take_append_of_le_length (by rw [List.length_drop]; omega), List.drop_take, List.take_take, Nat.min_eq_left (by omega)]
  · rename_i hik
    apply recA_same
    have : 10 * i = (L.take (10 * k)).length + 10 * (i - k) := by rw [hA]; omega
    rw [this, List.drop_length_add_append, List.drop_drop]
    congr 2
    omega
theorem parse_whole {guests : Int} {L : List UInt8} {m : Nat} (hL : L.length = 10 * m) : parse guests L = pst guests (recs L) m := by
  unfold parse
  rw [if_pos (by omega), show L.length / 10 = m from by omega]
/-- Without a record that is dropped the same are kept. -/
theorem parse_less {guests : Int} {L : List UInt8} {m : Nat} (hL : L.length = 10 * m) {d : Nat × Nat} (hd : d ∈ (parse guests L).2) : d.1 < m ∧ (parse guests (L.take (10 * d.1) ++ L.drop (10 * d.1 + 10))).1 = (parse guests L).1 := by
  rw [parse_whole hL] at hd ⊢
  obtain ⟨h1, h2⟩ := pst_mem guests (recs L) m d hd
  refine ⟨h1, ?_⟩
  have hlen : (L.take (10 * d.1) ++ L.drop (10 * d.1 + 10)).length = 10 * (m - 1) := by rw [List.length_append, List.length_take, List.length_drop]; omega
  rw [parse_whole hlen, pst_congr (m - 1) fun i hi => recs_less hL h1 hi]
  have := pst_less h2 (m - 1 - d.1)
  rw [show d.1 + (m - 1 - d.1) = m - 1 from by omega, show m - 1 + 1 = m from by omega] at this
  exact this

theorem pst_prefix (guests : Int) (R : Nat → Ev) (m d : Nat) : (∃ r, (pst guests R (m + d)).1 = (pst guests R m).1 ++ r) ∧ ∃ r, (pst guests R (m + d)).2 = (pst guests R m).2 ++ r := by
  induction d with
  | zero => exact ⟨⟨[], by simp⟩, ⟨[], by simp⟩⟩
  | succ d ih =>
    obtain ⟨⟨r1, h1⟩, ⟨r2, h2⟩⟩ := ih
    rw [show m + (d + 1) = (m + d) + 1 from by omega]
    simp only [pst]
    split
    · exact ⟨⟨r1 ++ [R (m + d)], by rw [h1, List.append_assoc]⟩, ⟨r2, h2⟩⟩
    · exact ⟨⟨r1, h1⟩, ⟨_, by rw [h2, List.append_assoc]⟩⟩
/-- Bytes behind whole records make no difference to these. -/
theorem parse_more {guests : Int} {L T : List UInt8} {m : Nat} (hL : L.length = 10 * m) : (∃ r, (parse guests (L ++ T)).1 = (parse guests L).1 ++ r) ∧ ∃ r, (parse guests (L ++ T)).2 = (parse guests L).2 ++ r := by
  rw [parse_whole hL]
  have hle : m ≤ (L ++ T).length / 10 := by rw [List.length_append]; omega
  have hc : pst guests (recs L) m = pst guests (recs (L ++ T)) m := pst_congr m fun i hi => by
    apply recA_same
    rw [List.drop_append_of_le_length (by omega), List.take_append_of_le_length (by rw [List.length_drop]; omega)]
  obtain ⟨⟨r1, h1⟩, ⟨r2, h2⟩⟩ := pst_prefix guests (recs (L ++ T)) m ((L ++ T).length / 10 - m)
  rw [show m + ((L ++ T).length / 10 - m) = (L ++ T).length / 10 from by omega] at h1 h2
  rw [hc]
  unfold parse
  split
  · exact ⟨⟨r1, h1⟩, ⟨r2, h2⟩⟩
  · exact ⟨⟨r1, h1⟩, ⟨r2 ++ [((L ++ T).length / 10, 1)], by simp only; rw [h2, List.append_assoc]⟩⟩

end Go.Proofs.Ytcfgagpjdhhddaa
