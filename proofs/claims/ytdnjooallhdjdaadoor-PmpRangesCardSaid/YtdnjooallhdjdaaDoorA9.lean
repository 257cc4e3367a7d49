/-
  Ranges are the document's: the law's body.
-/
import Derived.Test.YtdnjooallhdjdaaDoorA8
namespace Go.Proofs.YtdnjooallhdjdaaDoor
open Go Go.Mini Go.Proofs.Tryd

def ivR (n : Int) : Value → Nat | .int _ i => (n - i).toNat | _ => 0
theorem pmpRanges_call {c : Nat} {A : Nat → Nat} {i : Int} {h : Hp} {K : Value → Hp → Prop} (hr : Regs h c A) (hK : K (.bool true) h) : ACall prog 3 [.int .u64 c, .agg (adr A), .int .i64 i] h K := by
  refine acallF_of tb0 func3 rfl rfl mixed (by kernel_rfl) fun hwf => ?_
  have a1 := adr_size A
  have a2 := adr_one A
  have a3 := adr_row A
  have hn : 100 < h.next := hwf.lt _ _ hr.tab
  simp -dsimp (disch := omega) [a2, a3]
  refine awp_loop (fun t h' => h' = h.alloc ⟨adr A, 1, true⟩ ∧ ∃ k : Int, -1 ≤ k ∧ k ≤ 9 ∧ t 0 = .int .u64 c ∧ t 2 = .int .i64 i ∧ t 4 = .pointer (some ⟨h.next, 0, none⟩) ∧ t 7 = .int .i64 k) (fun t _ => ivR 9 (t 7)) ?_ ?_
  · simp -dsimp (disch := omega)
  · rintro t _ ⟨rfl, k, hk1, hk2, g0, g2, g4, g7⟩
    refine vcF_sound mixed (tb := tb0) _ (by kernel_rfl) ?_
    simp -dsimp (disch := omega) [g0, g2, g4, g7]
    have hr' : Regs (h.alloc ⟨adr A, 1, true⟩) c A := ⟨by simp (disch := omega) [hr.tab], hr.cfg, hr.adr⟩
    refine CondF_dec (fun hcc => ?_) (fun hcc => ?_)
    · simp -dsimp (disch := omega) [g0, g2, g4, g7, a3]
      refine range_call hr' ?_
      simp -dsimp (disch := omega) [g0, g2, g4, g7, a3]
      refine refRange_call hr' ?_
      simp -dsimp (disch := omega) [g0, g2, g4, g7, a3]
      simp [ivR]
      omega
    · simp -dsimp (disch := omega) [g0, g2, g4, g7, a3]
      refine range_call hr' ?_
      simp -dsimp (disch := omega) [g0, g2, g4, g7, a3]
      refine refRange_call hr' ?_
      simp -dsimp (disch := omega) [g0, g2, g4, g7, a3]
      refine awake_call hr'.tab ?_
      simp -dsimp (disch := omega) [g0, g2, g4, g7, a3]
      exact RetF.same hwf (by simp (disch := omega)) (Nat.zero_le _) (fun i hi => by simp (disch := omega)) hK

end Go.Proofs.YtdnjooallhdjdaaDoor
