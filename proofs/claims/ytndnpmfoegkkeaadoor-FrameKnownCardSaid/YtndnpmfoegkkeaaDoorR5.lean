/-
  Next, both ways; asks that come in.
-/
import Derived.Test.YtndnpmfoegkkeaaDoorR4
set_option linter.unusedSimpArgs false
set_option linter.unusedVariables false
set_option linter.unusedSectionVars false
namespace Go.Proofs.YtndnpmfoegkkeaaDoor
open Go Go.Mini Go.Proofs.Tryd
set_option maxRecDepth 100000

def NextR (l : List Win) (g step : Nat) (R : Nat × Bool) : Prop := (R = (0, false) ∧ ∀ x ∈ frL l, x ≠ g) ∨ ∃ b, Found l g step b ∧ R = (upA step b, upB step b)
structure Ask where
  g : Nat
  x : Nat
def Ask.ok (a : Ask) : Prop := a.g < 256 ∧ a.x < 18446744073709551616
def askC (a : Ask) : List Value := [.int .u8 a.g, .int .u64 a.x]
theorem askC_len (a : Ask) : (askC a).length = 2 := rfl
section
variable {h : Hp} {K : Value → Hp → Prop} {p : Nat} {l : List Win}
theorem next2_call {g step : Nat} (q : Tab h p l) (hok : ∀ w ∈ l, w.ok) (hl : 0 < l.length) (hl2 : l.length ≤ 32) (hs : sumS l ≤ 1024) (hs0 : 0 < sumS l) (hpos : ∀ w ∈ l, 0 < w.s) (hst : step < 18446744073709551616)
    (hK : ∀ R, NextR l g step R → K (.tuple #[.int .u64 (R.1 : Nat), .bool R.2]) h) : ACall prog 12 [ptr p, .int .u8 g, .int .u64 step] h K := by
  refine next_call q hok hl hl2 (by omega) hs0 hst (fun hA0 => ?_) (fun k w hx hg ha hlt => ?_) (fun nx hn h0 => ?_) (fun hn => ?_)
  · exact hK (0, false) (.inl ⟨rfl, none_at hA0⟩)
  · exact hK (_, _) (.inr ⟨_, found_A hs0 hpos hx hg ha hlt, rfl⟩)
  · exact hK (_, _) (.inr ⟨_, found_B hs0 hpos hn h0, rfl⟩)
  · refine hK (0, false) (.inl ⟨rfl, none_at (budget_zero fun i w hi => ?_)⟩)
    obtain ⟨_, hb⟩ := hn
    rcases hb with ⟨_, hb⟩ | ⟨i', w', _, _, _, e, _⟩
    · exact hb i w (List.getElem?_eq_some_iff.1 hi).1 hi
    · omega
theorem refNext2_call {g step : Nat} {v : Value} {R : Nat × Bool} (hR : NextR l g step R) (hv : Sl h 1 (sumS l) ((frL l).map u8V) v) (hs : sumS l ≤ 1024) (hs0 : 0 < sumS l) (hst : step < 18446744073709551616) (hK : K (.tuple #[.int .u64 (R.1 : Nat), .bool R.2]) h) : ACall prog 13 [v, .int .u8 g, .int .u64 step] h K := by
  have hl := frL_len l
  refine refNext_call (f := frL l) (R := R) (by rw [hl]; exact hv) (by omega) (by omega) hst ?_ ?_ ?_ hK
  · intro k hk hlt ho
    rw [hl] at hk hlt
    rcases hR with ⟨h1, _⟩ | ⟨b, hb, rfl⟩
    · exact h1
    · obtain ⟨b1, b2, b3⟩ := found_at hs0 hb
      have : k ≤ b := by
        rcases Nat.lt_or_ge b k with h | h
        · exact absurd rfl (hlt b h g b2)
        · exact h
      unfold upA upB
      rw [if_neg (by omega), decide_eq_false (by omega)]
  · intro k hk hlt hx ho
    rw [hl] at hk hlt hx
    rcases hR with ⟨_, h2⟩ | ⟨b, hb, rfl⟩
    · exact absurd rfl (h2 g (List.mem_of_getElem? hx))
    · obtain ⟨b1, b2, b3⟩ := found_at hs0 hb
      have : k = b := by
        rcases Nat.lt_trichotomy b k with h | h | h
        · exact absurd rfl (hlt b h g b2)
        · exact h.symm
        · exact absurd rfl (b3 k h g hx)
      subst this
      unfold upA upB
      rw [if_pos (by omega), decide_eq_true (by omega)]
  · intro hlt
    rw [hl] at hlt
    rcases hR with ⟨h1, _⟩ | ⟨b, hb, rfl⟩
    · exact h1
    · obtain ⟨b1, b2, b3⟩ := found_at hs0 hb
      exact absurd rfl (hlt b b1 g b2)
end
end Go.Proofs.YtndnpmfoegkkeaaDoor
