/-
  A memory: Read.
-/
import Derived.Test.YtkbiadobkheafaaDoorGA
set_option linter.unusedSimpArgs false
set_option linter.unusedVariables false
set_option linter.unusedSectionVars false
namespace Go.Proofs.YtkbiadobkheafaaDoor.Rm
set_option maxRecDepth 100000
open Go Go.Mini Go.Proofs.Tryd
section
variable {h : Hp} {p b N C : Nat} {M : Nat → Nat} {a : Nat} {w : Int} {K : Value → Hp → Prop}
theorem read_call {x : Nat} {n : Int} (r : Ram h p b N C M a w) (hx : x < 18446744073709551616) (hK1 : wok n ∧ x + n.toNat ≤ N → K (.tuple #[.int .u64 (leN M x n.toNat), .bool true]) h) (hK2 : ¬ (wok n ∧ x + n.toNat ≤ N) → K (.tuple #[.int .u64 0, .bool false]) h) : ACall prog 26 [ptr p, .int .u64 x, .int .i64 n] h K := by
  refine acallF_of tb0 func26 rfl rfl mixed (by kernel_rfl) fun hwf => ?_
  have h1 := r.N1
  have hb := r.blk'
  have hr := r.row
  simp -dsimp (disch := omega)
  refine numbers_call r ?_
  by_cases hc : wok n ∧ x + n.toNat ≤ N
  · have hK := hK1 hc
    rw [decide_eq_true hc]
    obtain ⟨m, rfl, hm⟩ : ∃ m : Nat, n = m ∧ m ≤ 8 := ⟨n.toNat, by have := hc.1; unfold wok at this; omega, by have := hc.1; unfold wok at this; omega⟩
    rw [Int.toNat_natCast] at hK hc
    have hxm := hc.2
    simp -dsimp (disch := omega)
    refine awp_loop (fun t h' => h' = h ∧ ∃ k : Nat, k ≤ m ∧ t 0 = ptr p ∧ t 1 = .int .u64 x ∧ t 6 = .int .u64 (leN M (x + k) (m - k)) ∧ t 8 = .int .i64 (k - 1)) (fun t _ => ivS (t 8)) ?_ ?_
    · simp -dsimp (disch := omega)
      exact ⟨m, by omega, by simp [leN], rfl⟩
    · rintro t h' ⟨rfl, k, hk, g0, g1, g6, g8⟩
      refine vcF_sound mixed (tb := tb0) _ (by kernel_rfl) ?_
      simp -dsimp (disch := omega) [g0, g1, g6, g8]
      refine CondF_dec (fun hc2 => ?_) (fun hc2 => ?_)
      · obtain ⟨j, rfl⟩ : ∃ j, k = j + 1 := ⟨k - 1, by omega⟩
        have g8' : t 8 = .int .i64 j := by rw [g8]; congr 1; omega
        have hl := leN_lt r.M8 (m - (j + 1)) (x + (j + 1))
        have hp : 256 ^ (m - (j + 1)) ≤ 256 ^ 7 := Nat.pow_le_pow_right (by omega) (by omega)
        have e3 : leN M (x + j) (m - j) = leN M (x + (j + 1)) (m - (j + 1)) * 256 + M (x + j) := by
          rw [show m - j = (m - (j + 1)) + 1 from by omega]; rfl
        obtain ⟨V, hV⟩ : ∃ V, V = leN M (x + (j + 1)) (m - (j + 1)) := ⟨_, rfl⟩
        rw [← hV] at g6 hl e3
        have hm8 := r.M8 (x + j)
        obtain ⟨c, hc'⟩ : ∃ c, c = M (x + j) := ⟨_, rfl⟩
        rw [← hc'] at hm8 e3
        have e4 := mem_at N M (x + j) (by omega)
        rw [← hc'] at e4
        have e5 := or8 V c hm8 (by omega)
        rw [← e3] at e5
        obtain ⟨V', hV'⟩ : ∃ V', V' = leN M (x + j) (m - j) := ⟨_, rfl⟩
        rw [← hV'] at e5 e3
        have ex : ((x : Int) + j).toNat = x + j := by omega
        simp -dsimp (disch := omega) [g0, g1, g6, g8', hb, hr, ex, e4, e5, -abin_or, -getElem?_pos]
        exact ⟨⟨j, by omega, by rw [hV'], by omega⟩, by simp [ivS]⟩
      · have : k = 0 := by omega
        subst this
        simp -dsimp (disch := omega) [g0, g1, g6, g8]
        rw [Nat.add_zero, Nat.sub_zero] at g6
        exact RetF.same hwf (by simp [g6]) (Nat.zero_le _) (fun _ _ => rfl) hK
  · rw [decide_eq_false hc]
    simp -dsimp (disch := omega)
    exact RetF.same hwf (by simp) (Nat.zero_le _) (fun _ _ => rfl) (hK2 hc)
end
end Go.Proofs.YtkbiadobkheafaaDoor.Rm
