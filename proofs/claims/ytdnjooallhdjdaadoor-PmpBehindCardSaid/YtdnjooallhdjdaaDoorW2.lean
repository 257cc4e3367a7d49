/-
  What comes in: an access, and other registers.
-/
import Derived.Test.YtdnjooallhdjdaaDoorA15
import Derived.Test.YtdnjooallhdjdaaDoorW
import Derived.Test.YtdnjooallhdjdaaDoorM26
set_option linter.unusedSimpArgs false
set_option linter.unusedVariables false
namespace Go.Proofs.YtdnjooallhdjdaaDoor
open Go Go.Mini Go.Proofs.Tryd
open Go.ChangeShapes Go.WideShapes Go.ChangeAt Go.RowKit

theorem leaves13 {a b c d e f g i j k l m n : Leaf} {r : List Value} (h : leavesIn [a, b, c, d, e, f, g, i, j, k, l, m, n] r) : ∃ x0 x1 x2 x3 x4 x5 x6 x7 x8 x9 xa xb xc, r = [x0, x1, x2, x3, x4, x5, x6, x7, x8, x9, xa, xb, xc] ∧ leafIn a x0 ∧ leafIn b x1 ∧ leafIn c x2 ∧ leafIn d x3 ∧ leafIn e x4 ∧ leafIn f x5 ∧ leafIn g x6 ∧ leafIn i x7 ∧ leafIn j x8 ∧ leafIn k x9 ∧ leafIn l xa ∧ leafIn m xb ∧ leafIn n xc := by
  match r, h with
  | [x0, x1, x2, x3, x4, x5, x6, x7, x8, x9, xa, xb, xc], ⟨h0, h1, h2, h3, h4, h5, h6, h7, h8, h9, ha, hb, hc, _⟩ => exact ⟨x0, x1, x2, x3, x4, x5, x6, x7, x8, x9, xa, xb, xc, rfl, h0, h1, h2, h3, h4, h5, h6, h7, h8, h9, ha, hb, hc⟩
theorem leaf_nat {v : Value} (h : leafIn (.int .u64) v) : ∃ n : Nat, v = .int .u64 n ∧ n < 18446744073709551616 := by
  obtain ⟨a, rfl, ha⟩ := leaf_u64 h
  obtain ⟨n, rfl⟩ := Int.eq_ofNat_of_zero_le ha.1
  exact ⟨n, rfl, by omega⟩
theorem leaf_nat8 {v : Value} (h : leafIn (.int .u8) v) : ∃ n : Nat, v = .int .u8 n ∧ n < 256 := by
  obtain ⟨a, rfl, ha⟩ := leaf_u8 h
  obtain ⟨n, rfl⟩ := Int.eq_ofNat_of_zero_le ha.1
  exact ⟨n, rfl, by omega⟩
def pick8 (a b c d e f g i : Nat) (j : Nat) : Nat := ([a, b, c, d, e, f, g, i][j]?).getD 0
theorem adr_pick (a b c d e f g i : Nat) : adr (pick8 a b c d e f g i) = #[.int .u64 a, .int .u64 b, .int .u64 c, .int .u64 d, .int .u64 e, .int .u64 f, .int .u64 g, .int .u64 i] := by
  simp [adr, List.range_succ, pick8]
theorem oth_in {H : Type} {enc : TypeId × Value → H} {W : World} {v : Value} {d : DataW H} {p : List MemPlace} {cs : Array Value} (hv : v = .agg cs) (h : DataW.Trod enc Tryd.prog W 0 (fun _ => true) true 39 v d p) : ∃ (m k a : Nat) (w : Int) (xc : Nat) (X : Nat → Nat), m < 256 ∧ k < 256 ∧ a < 18446744073709551616 ∧ w ≤ 9223372036854775807 ∧ xc < 18446744073709551616 ∧ (∀ j, j < 8 → X j < 18446744073709551616) ∧ v = .agg (othA m k a w xc X) := by
  subst hv
  obtain ⟨n, hm⟩ := h
  obtain ⟨x0, x1, x2, x3, x4, x5, x6, x7, x8, x9, xa, xb, xc, hcs, h0, h1, h2, h3, h4, h5, h6, h7, h8, h9, ha, hb, hc⟩ := leaves13 (leavesA_in 5 39 [.int .u8, .int .u8, .int .u64, .int .i64, .int .u64, .int .u64, .int .u64, .int .u64, .int .u64, .int .u64, .int .u64, .int .u64, .int .u64] n cs.toList _ (by kernel_rfl) (by kernel_rfl) hm)
  obtain ⟨m, rfl, lm⟩ := leaf_nat8 h0
  obtain ⟨k, rfl, lk⟩ := leaf_nat8 h1
  obtain ⟨a, rfl, la⟩ := leaf_nat h2
  obtain ⟨w, rfl, hw⟩ := leaf_i64 h3
  obtain ⟨q, rfl, lq⟩ := leaf_nat h4
  obtain ⟨y0, rfl, l0⟩ := leaf_nat h5
  obtain ⟨y1, rfl, l1⟩ := leaf_nat h6
  obtain ⟨y2, rfl, l2⟩ := leaf_nat h7
  obtain ⟨y3, rfl, l3⟩ := leaf_nat h8
  obtain ⟨y4, rfl, l4⟩ := leaf_nat h9
  obtain ⟨y5, rfl, l5⟩ := leaf_nat ha
  obtain ⟨y6, rfl, l6⟩ := leaf_nat hb
  obtain ⟨y7, rfl, l7⟩ := leaf_nat hc
  refine ⟨m, k, a, w, q, pick8 y0 y1 y2 y3 y4 y5 y6 y7, lm, lk, la, hw.2, lq, fun j hj => ?_, ?_⟩
  · rcases (by omega : j = 0 ∨ j = 1 ∨ j = 2 ∨ j = 3 ∨ j = 4 ∨ j = 5 ∨ j = 6 ∨ j = 7) with rfl | rfl | rfl | rfl | rfl | rfl | rfl | rfl <;> (simp only [pick8]; simpa)
  · unfold othA
    rw [adr_pick]
    congr 1
    apply Array.ext'
    simpa using hcs
theorem oth_top (m k a : Nat) (w : Int) (xc : Nat) (X : Nat → Nat) : vtop (.agg (othA m k a w xc X)) = 0 := Nat.le_zero.1 (vtop_agg.2 fun v hv => by
  unfold othA at hv
  rcases Array.mem_append.1 hv with hv | hv
  · simp at hv
    rcases hv with rfl | rfl | rfl | rfl | rfl <;> exact Nat.le_refl _
  · simp only [adr, List.mem_toArray, List.mem_map] at hv
    obtain ⟨n, _, rfl⟩ := hv
    exact Nat.le_refl _)
theorem oth_rl (m k a : Nat) (w : Int) (xc : Nat) (X : Nat → Nat) (ρ : Rn) : rl ρ (.agg (othA m k a w xc X)) = .agg (othA m k a w xc X) := rl_id _ (oth_top m k a w xc X)
end Go.Proofs.YtdnjooallhdjdaaDoor
