/-
  A memory: Put, Bytes, Write, Read.
-/
import Derived.Test.YtkbiadobkheafaaG2
set_option linter.unusedSimpArgs false
set_option linter.unusedVariables false
set_option linter.unusedSectionVars false
namespace Go.Proofs.Ytkbiadobkheafaa.Rm
set_option maxRecDepth 100000
open Go Go.Mini Go.Proofs.Try

/-- Where a part begins. -/
def offA (b N x : Nat) : Addr := ⟨b, if N = x then 0 else x, none⟩
theorem asl_from {b N C x : Nat} {k : IntKind} (hx : x ≤ N) (hC : N ≤ C) : asliceRow ⟨b, 0, none⟩ 1 N (2 * C) (some (.int k x)) none none = some (.slice (some (offA b C x)) (N - x) (2 * (C - x))) := by
  unfold asliceRow
  have e1 : bndD none (2 * C / 2) N = some N := by simp [bndD]
  have e2 : bndD (some (.int k x)) N 0 = some x := by simp [bndD, bnd]; omega
  simp only [e1, e2]
  rw [if_neg (by omega), Nat.mul_div_cancel_left _ (by omega)]
  unfold offA
  by_cases h : C = x
  · rw [if_pos h, if_pos h]
  · rw [if_neg h, if_neg h]; simp
theorem asl_to {b N C x y : Nat} {k k' : IntKind} {z : Int} (hx : x ≤ y) (hy : y ≤ N) (hC : N ≤ C) (hz : z = y) : asliceRow ⟨b, 0, none⟩ 1 N (2 * C) (some (.int k x)) (some (.int k' z)) none = some (.slice (some (offA b C x)) (y - x) (2 * (C - x))) := by
  subst hz
  unfold asliceRow
  have e1 : bndD (some (.int k' y)) (2 * C / 2) N = some y := by simp [bndD, bnd]; omega
  have e2 : bndD (some (.int k x)) y 0 = some x := by simp [bndD, bnd]; omega
  simp only [e1, e2]
  rw [if_neg (by omega), Nat.mul_div_cancel_left _ (by omega)]
  unfold offA
  by_cases h : C = x
  · rw [if_pos h, if_pos h]
  · rw [if_neg h, if_neg h]; simp
theorem rowAt_mem {h : Hp} {b N C x n : Nat} {M : Nat → Nat} (hb : h.blks b = some ⟨mem N M, 1, true⟩) (hx : x + n ≤ N) (hC : N ≤ C) : Mini.rowAt h (offA b C x) (n * 1) = some (mem n fun i => M (x + i)) := by
  unfold Mini.rowAt offA
  simp only [hb, Nat.mul_one]
  by_cases h : C = x
  · rw [if_pos h]
    have : n = 0 := by omega
    subst this
    rw [if_pos (by simp)]
    congr 1
    exact (mem_extract N M 0 0 (by omega)).trans (mem_congr fun i hi => by omega)
  · rw [if_neg h]
    rw [if_pos (by simp; omega), mem_extract _ _ _ _ hx]

theorem lay_nil (M : Nat → Nat) (o : Nat) : lay M o [] = M := by
  funext i
  unfold lay
  rw [if_neg (by simp)]
theorem lay_lt {M : Nat → Nat} {o : Nat} {l : List UInt8} (h : ∀ i, M i < 256) : ∀ i, lay M o l i < 256 := fun i => by
  unfold lay
  split
  · have := UInt8.toNat_lt (((l[i - o]?).getD 0)); omega
  · exact h i
theorem acopy_part {h : Hp} {b N C x c : Nat} {M : Nat → Nat} {l : List UInt8} {K : Value → Hp → Prop} {u : Tag K} (hb : h.blks b = some ⟨mem N M, 1, true⟩) (hx : x + l.length ≤ N) (hC : N ≤ C) (hK : K (.int .i64 l.length) (h.set b ⟨mem N (lay M x l), 1, true⟩)) : OptF (acopy h 1 (.slice (some (offA b C x)) (N - x) c) (.string (txt l))) K u := by
  have hs : srcCells h 1 (.string (txt l)) = some (l.length, (l.map byteV).toArray) := by unfold srcCells; simp; rfl
  unfold offA
  by_cases h0 : C = x
  · have hl : l = [] := List.length_eq_zero_iff.1 (by omega)
    subst hl
    rw [if_pos h0]
    refine acopy_mem (l := []) (n := 0) hb hs (by simp) (by omega) ?_
    rw [lay_nil] at hK
    rw [List.take_nil, lay_nil]
    simpa using hK
  · rw [if_neg h0]
    refine acopy_mem (l := l) (n := l.length) hb hs (by omega) (by omega) ?_
    rw [List.take_length]
    exact hK

section
variable {h : Hp} {p b N C : Nat} {M : Nat → Nat} {a : Nat} {w : Int} {K : Value → Hp → Prop}

theorem put_call {x : Nat} {l : List UInt8} (r : Ram h p b N C M a w) (hl : l.length < 9223372036854775808) (hK1 : x + l.length ≤ N → K (.int .i64 0) ((h.set b ⟨mem N (lay M x l), 1, true⟩).set p ⟨ramC b N C (toA a x l.length) (toW a w x l.length), 1, true⟩)) (hK2 : ¬ x + l.length ≤ N → K (.int .i64 6) h) : ACall prog 10 [ptr p, .int .u64 x, .string (txt l)] h K := by
  refine acallF_of tb0 func10 rfl rfl mixed (by kernel_rfl) fun hwf => ?_
  have hb := r.blk'
  obtain ⟨n, hn⟩ : ∃ n, n = l.length := ⟨_, rfl⟩
  rw [← hn] at hl hK1 hK2
  have hz : (txt l).size = n := by rw [hn]; rfl
  simp -dsimp (disch := omega) [hb, hz]
  refine is_call r ?_
  simp -dsimp (disch := omega) [hb]
  refine there_call r ?_
  by_cases hx : x + n ≤ N
  · have e1 := @asl_from b N C x .u64 (by omega) r.NC
    simp -dsimp (disch := omega) [hb, hx, e1]
    refine acopy_part r.row (by omega) r.NC ?_
    simp -dsimp (disch := omega) [hb, hx]
    refine touch_call (r.fill (lay_lt r.M8)) hx ?_
    simp -dsimp (disch := omega) [hb]
    exact RetF.all (by simp) (hK1 hx)
  · simp -dsimp (disch := omega) [hb, hx]
    exact RetF.same hwf (by simp) (Nat.zero_le _) (fun _ _ => rfl) (hK2 hx)

theorem bytes_call {x n : Nat} (r : Ram h p b N C M a w) (hK1 : x + n ≤ N → K (.tuple #[.string (txt (bytesM M x n)), .int .i64 0]) h) (hK2 : ¬ x + n ≤ N → K (.tuple #[.string (txt []), .int .i64 6]) h) : ACall prog 14 [ptr p, .int .u64 x, .int .u64 n] h K := by
  refine acallF_of tb0 func14 rfl rfl mixed (by kernel_rfl) fun hwf => ?_
  have hb := r.blk'
  have h1 := r.N1
  have hr := r.row
  simp -dsimp (disch := omega) [hb]
  refine is_call r ?_
  simp -dsimp (disch := omega) [hb]
  refine there_call r ?_
  by_cases hx : x + n ≤ N
  · have e1 := @asl_to b N C x (x + n) .u64 .u64 (x + n) (by omega) hx r.NC (by omega)
    simp -dsimp (disch := omega) [hb, hx, hr, e1]
    have e2 : mem n (fun i => M (x + i)) = ((bytesM M x n).map byteV).toArray := by
      rw [mem_bytes (fun i => r.M8 (x + i))]
      congr 2
      unfold bytesM
      simp
    have hrow := rowAt_mem hr hx r.NC
    rw [e2, Nat.mul_one] at hrow
    have hrow' : rowB (h.blks (offA b C x).block) (offA b C x).off n = some ((bytesM M x n).map byteV).toArray := by simpa using hrow
    rw [hrow', ofBytes_row]
    simp -dsimp (disch := omega)
    exact RetF.same hwf (by simp) (Nat.zero_le _) (fun _ _ => rfl) (hK1 hx)
  · simp -dsimp (disch := omega) [hb, hx]
    exact RetF.same hwf (by simp) (Nat.zero_le _) (fun _ _ => rfl) (hK2 hx)
end
end Go.Proofs.Ytkbiadobkheafaa.Rm
