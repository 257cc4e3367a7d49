/-
  RamHolds.
-/
import Derived.Test.YtgafaelakjnemaaB7
set_option linter.unusedSimpArgs false
set_option linter.unusedVariables false
namespace Go.Proofs.Ytgafaelakjnemaa
open Go Go.Mini Go.Proofs.Try

theorem lt63 {a b : Nat} (h : a = b) (h2 : b ≤ maxLen) : a < 9223372036854775808 := by
  have : maxLen < 9223372036854775808 := by decide
  omega
set_option maxRecDepth 100000 in
theorem ramHolds_call {h : Hp} {K : Value → Hp → Prop} {q : Nat} {g : Int} {l : List Act} {v : Value} (hq : q < 18446744073709551616) (hg : -9223372036854775808 ≤ g ∧ g ≤ 9223372036854775807) (hok : ∀ e ∈ l, e.ok) (hl : l.length < 9223372036854775808) (hv : Sl h 5 l.length (actsC l) v) (hK : ∀ h', (∀ i, i < h.next → h'.blks i = h.blks i) → K (.bool true) h') : ACall prog 3 [.int .u64 q, .int .i64 g, v] h K := by
  refine acallF_of tb0 func3 rfl rfl mixed (by kernel_rfl) fun hwf => ?_
  have hvb := sblk_lt (hwf.args v (by simp))
  clear hg
  obtain ⟨va, vc, rfl⟩ := hv.slice
  simp -dsimp (disch := omega)
  refine own_new (n := 1) (by omega) (by omega) fun h1 p b r1 => ?_
  rw [Nat.one_mul] at r1
  simp -dsimp (disch := omega)
  refine few_call hok hl (hv.mono fun b hb => r1.ext.same b (hvb b hb)) ?_
  by_cases hfew : fewL l = true
  · rw [hfew]
    simp -dsimp (disch := omega)
    refine own_reserve r1 (fun hc h2 r2 _ => ?_) (fun hc => ?_)
    · have hh : heldB q g q g = true := by
        unfold heldB
        rw [decide_eq_true_iff]
        exact ⟨by have := hc.1; omega, rfl, rfl⟩
      obtain ⟨hw, hx, hm⟩ := hc
      obtain rfl | rfl := hw
      · have hx4 : q + 4 ≤ 4096 := hx
        have hm4 : q % 4 = 0 := hm
        have hq4 : (q : Int) < 4096 := by omega
        have hm4' : (q : Int) % 4 = 0 := by omega
        simp -dsimp (disch := omega) [hq4, hm4']
        refine awpF_of (ramHolds_loop (g := 4) hq hok hl hv hvb ⟨_, _, _, r2, by simp [hh]⟩ (by simp) (by simp) (by simp) (by simp) (by simp) fun t h' M a w r3 g0 g1 g7 g8 => ?_)
        simp -dsimp (disch := omega) [g0, g1, g7, g8]
        refine held_call r3.ram ?_
        rw [show decide ((4 : Int) ≠ 0 ∧ a = q ∧ w = 4) = heldB q 4 a w from rfl]
        simp -dsimp (disch := omega) [g0, g1, g7, g8]
        refine works_call fun h2 e2 => ?_
        simp -dsimp (disch := omega)
        exact RetF.all (by simp) (hK _ (r3.ext.trans e2).same)
      · have hx4 : q + 8 ≤ 4096 := hx
        have hm4 : q % 8 = 0 := hm
        have hq4 : (q : Int) < 4096 := by omega
        have hm4' : (q : Int) % 8 = 0 := by omega
        simp -dsimp (disch := omega) [hq4, hm4']
        refine awpF_of (ramHolds_loop (g := 8) hq hok hl hv hvb ⟨_, _, _, r2, by simp [hh]⟩ (by simp) (by simp) (by simp) (by simp) (by simp) fun t h' M a w r3 g0 g1 g7 g8 => ?_)
        simp -dsimp (disch := omega) [g0, g1, g7, g8]
        refine held_call r3.ram ?_
        rw [show decide ((8 : Int) ≠ 0 ∧ a = q ∧ w = 8) = heldB q 8 a w from rfl]
        simp -dsimp (disch := omega) [g0, g1, g7, g8]
        refine works_call fun h2 e2 => ?_
        simp -dsimp (disch := omega)
        exact RetF.all (by simp) (hK _ (r3.ext.trans e2).same)
    · have hh : heldB q g 0 0 = false := by
        unfold heldB
        rw [decide_eq_false_iff_not]
        rintro ⟨h1, _, h2⟩
        exact h1 h2.symm
      simp -dsimp (disch := omega)
      by_cases hg4 : g = 4
      · subst hg4
        rcases Nat.lt_or_ge q 4096 with hq0 | hq0
        · have hq4 : (q : Int) < 4096 := by omega
          have hm4 : ¬ (q : Int) % 4 = 0 := fun hm => hc ⟨.inl rfl, by show q + 4 ≤ 4096; omega, by show q % 4 = 0; omega⟩
          simp -dsimp (disch := omega) [hq4, hm4]
          refine awpF_of (ramHolds_loop (g := 4) hq hok hl hv hvb ⟨_, _, _, r1, by simp [hh]⟩ (by simp) (by simp) (by simp) (by simp) (by simp) fun t h' M a w r3 g0 g1 g7 g8 => ?_)
          simp -dsimp (disch := omega) [g0, g1, g7, g8]
          refine held_call r3.ram ?_
          rw [show decide ((4 : Int) ≠ 0 ∧ a = q ∧ w = 4) = heldB q 4 a w from rfl]
          simp -dsimp (disch := omega) [g0, g1, g7, g8]
          refine works_call fun h2 e2 => ?_
          simp -dsimp (disch := omega)
          exact RetF.all (by simp) (hK _ (r3.ext.trans e2).same)
        · skip
          have hq4 : ¬ (q : Int) < 4096 := by omega
          simp -dsimp (disch := omega) [hq4]
          refine awpF_of (ramHolds_loop (g := 4) hq hok hl hv hvb ⟨_, _, _, r1, by simp [hh]⟩ (by simp) (by simp) (by simp) (by simp) (by simp) fun t h' M a w r3 g0 g1 g7 g8 => ?_)
          simp -dsimp (disch := omega) [g0, g1, g7, g8]
          refine held_call r3.ram ?_
          rw [show decide ((4 : Int) ≠ 0 ∧ a = q ∧ w = 4) = heldB q 4 a w from rfl]
          simp -dsimp (disch := omega) [g0, g1, g7, g8]
          refine works_call fun h2 e2 => ?_
          simp -dsimp (disch := omega)
          exact RetF.all (by simp) (hK _ (r3.ext.trans e2).same)
      · by_cases hg8 : g = 8
        · subst hg8
          rcases Nat.lt_or_ge q 4096 with hq0 | hq0
          · have hq4 : (q : Int) < 4096 := by omega
            have hm4 : ¬ (q : Int) % 8 = 0 := fun hm => hc ⟨.inr rfl, by show q + 8 ≤ 4096; omega, by show q % 8 = 0; omega⟩
            simp -dsimp (disch := omega) [hq4, hm4]
            refine awpF_of (ramHolds_loop (g := 8) hq hok hl hv hvb ⟨_, _, _, r1, by simp [hh]⟩ (by simp) (by simp) (by simp) (by simp) (by simp) fun t h' M a w r3 g0 g1 g7 g8 => ?_)
            simp -dsimp (disch := omega) [g0, g1, g7, g8]
            refine held_call r3.ram ?_
            rw [show decide ((8 : Int) ≠ 0 ∧ a = q ∧ w = 8) = heldB q 8 a w from rfl]
            simp -dsimp (disch := omega) [g0, g1, g7, g8]
            refine works_call fun h2 e2 => ?_
            simp -dsimp (disch := omega)
            exact RetF.all (by simp) (hK _ (r3.ext.trans e2).same)
          · skip
            have hq4 : ¬ (q : Int) < 4096 := by omega
            simp -dsimp (disch := omega) [hq4]
            refine awpF_of (ramHolds_loop (g := 8) hq hok hl hv hvb ⟨_, _, _, r1, by simp [hh]⟩ (by simp) (by simp) (by simp) (by simp) (by simp) fun t h' M a w r3 g0 g1 g7 g8 => ?_)
            simp -dsimp (disch := omega) [g0, g1, g7, g8]
            refine held_call r3.ram ?_
            rw [show decide ((8 : Int) ≠ 0 ∧ a = q ∧ w = 8) = heldB q 8 a w from rfl]
            simp -dsimp (disch := omega) [g0, g1, g7, g8]
            refine works_call fun h2 e2 => ?_
            simp -dsimp (disch := omega)
            exact RetF.all (by simp) (hK _ (r3.ext.trans e2).same)
        · skip
          simp -dsimp (disch := omega) [hg4, hg8]
          refine awpF_of (ramHolds_loop (g := g) hq hok hl hv hvb ⟨_, _, _, r1, by simp [hh]⟩ (by simp) (by simp) (by simp) (by simp) (by simp) fun t h' M a w r3 g0 g1 g7 g8 => ?_)
          simp -dsimp (disch := omega) [g0, g1, g7, g8]
          refine held_call r3.ram ?_
          rw [show decide ((g : Int) ≠ 0 ∧ a = q ∧ w = g) = heldB q g a w from rfl]
          simp -dsimp (disch := omega) [g0, g1, g7, g8]
          refine works_call fun h2 e2 => ?_
          simp -dsimp (disch := omega)
          exact RetF.all (by simp) (hK _ (r3.ext.trans e2).same)
  · rw [Bool.not_eq_true] at hfew
    rw [hfew]
    simp -dsimp (disch := omega)
    refine works_call fun h2 e2 => ?_
    simp -dsimp (disch := omega)
    exact RetF.all (by simp) (hK _ (r1.ext.trans e2).same)
end Go.Proofs.Ytgafaelakjnemaa
