/-
  ImageBuilds' body.
-/
import Derived.Test.YtcbagjhbmdmjfaaDoorL1
set_option linter.unusedSimpArgs false
set_option linter.unusedVariables false
set_option linter.unusedSectionVars false
namespace Go.Proofs.YtcbagjhbmdmjfaaDoor
set_option maxRecDepth 100000
open Go Go.Mini Go.Proofs.Tryd

def bR (x : Nat) (l : List Sg) (n : Int) : ByteArray := if chkI x l n = 0 then txt (bldS x l) else txt []
theorem build1_call {x : Nat} {l : List Sg} {v : Value} {n : Int} {h : Hp} {K : Value → Hp → Prop} (hx : x < 18446744073709551616) (hv : Sl h 2 l.length (sgC l) v) (hl : ∀ g ∈ l, g.ok) (hL : l.length < 9223372036854775808) (hK : K (.tuple #[.string (bR x l n), .int .i64 (chkI x l n)]) h) : ACall prog 11 [imV x v, .int .i64 n] h K :=
  build_call hx hv hl hL (fun c => by unfold bR at hK; rw [if_neg c] at hK; exact hK) (fun c => by unfold bR at hK; rw [if_pos c, c] at hK; exact hK)
theorem refBuild1_call {x : Nat} {l : List Sg} {v : Value} {n : Int} {h : Hp} {K : Value → Hp → Prop} (hx : x < 18446744073709551616) (hv : Sl h 2 l.length (sgC l) v) (hl : ∀ g ∈ l, g.ok) (hL : l.length < 9223372036854775808) (hK : K (.tuple #[.string (bR x l n), .int .i64 (chkI x l n)]) h) : ACall prog 12 [imV x v, .int .i64 n] h K :=
  refBuild_call hx hv hl hL (fun c => by unfold bR at hK; rw [if_neg c] at hK; exact hK) (fun c => by unfold bR at hK; rw [if_pos c, c] at hK; exact hK)
def tb3 : Nat → Marks := fun k => if k = 5 then ⟨[2, 3], fun _ => True⟩ else ⟨[], fun _ => True⟩
theorem imageBuilds_call {x : Nat} {l : List Sg} {v : Value} {n : Int} {h : Hp} {K : Value → Hp → Prop} (hE : HasErr h) (hn : 100 < h.next) (hx : x < 18446744073709551616) (hv : Sl h 2 l.length (sgC l) v) (hl : ∀ g ∈ l, g.ok) (hL : l.length < 9223372036854775808) (hK : ∀ h', K (.bool true) h') : ACall prog 3 [imV x v, .int .i64 n] h K := by
  refine acallF_of tb3 func3 rfl rfl mixed (by kernel_rfl) fun hwf => ?_
  have hvb := sblk_lt (n := h.next) (v := v) (by have := hwf.args (imV x v) (by simp); simp [imV, vtop, vtopL] at this; omega)
  obtain ⟨va, vc, rfl⟩ := hv.slice
  simp -dsimp (disch := omega) [imV]
  have hE1 := hE.ext (Ext.alloc h ⟨#[.int .u64 x, .slice va l.length vc], 1, true⟩) hn
  have hv1 : Sl (h.alloc ⟨#[.int .u64 x, .slice va l.length vc], 1, true⟩) 2 l.length (sgC l) (.slice va l.length vc) := Sl.ext hv (Ext.alloc _ _) hvb
  refine few_call (x := x) hv1 hl hL (fun f1 f2 => ?_) ?_
  · simp -dsimp (disch := omega)
    refine build1_call (x := x) hx hv1 hl hL ?_
    simp -dsimp (disch := omega)
    refine theirs_call (x := x) hv1 hl (by omega) fun h1 w x1 r1 => ?_
    have n1 : h.next + 1 ≤ h1.next := by have := x1.le; simpa using this
    have r1b := r1.blk
    obtain ⟨wa, wc, rfl⟩ := r1.slice
    simp -dsimp (disch := omega) [imV]
    refine refBuild1_call (x := x) hx (Row.sl r1) hl hL ?_
    have hb1 : h1.blks h.next = some ⟨#[.int .u64 x, .slice va l.length vc], 1, true⟩ := (x1.same _ (by simp)).trans (blks_alloc_eq _ _)
    have hv2 : Sl h1 2 l.length (sgC l) (.slice va l.length vc) := Sl.ext hv1 x1 fun b hb => by have := hvb b hb; simp; omega
    simp -dsimp (disch := omega) [hb1, tb3]
    refine check_call (x := x) hx hv2 hl hL ?_
    simp -dsimp (disch := omega) [hb1, tb3]
    refine theirs_call (x := x) hv2 hl (by omega) fun h2 w2 x2 r2 => ?_
    have n2 := x2.le
    obtain ⟨wa2, wc2, rfl⟩ := r2.slice
    simp -dsimp (disch := omega) [imV, tb3]
    refine refCheck_call (x := x) hx (Row.sl r2) hl hL ?_
    simp -dsimp (disch := omega) [tb3]
    refine awake_call ((hE1.ext x1 (by simp; omega)).ext x2 (by omega)) (by omega) ?_
    simp -dsimp (disch := omega) [tb3]
    exact RetF.all (by simp) (hK _)
  · simp -dsimp (disch := omega)
    refine awake_call hE1 (by simp; omega) ?_
    simp -dsimp (disch := omega)
    exact RetF.all (by simp) (hK _)
end Go.Proofs.YtcbagjhbmdmjfaaDoor
