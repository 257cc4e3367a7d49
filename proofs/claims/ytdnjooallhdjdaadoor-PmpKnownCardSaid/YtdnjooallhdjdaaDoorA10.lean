/-
  The chapter's examples: the law's body.
-/
import Derived.Test.YtdnjooallhdjdaaDoorA8
namespace Go.Proofs.YtdnjooallhdjdaaDoor
open Go Go.Mini Go.Proofs.Tryd

def G2 (i : Nat) : Nat := if i = 0 then 18446744073709551615 else if i = 2 then 5 else 0
theorem adr_G2 : adr G2 = #[.int .u64 18446744073709551615, .int .u64 0, .int .u64 5, .int .u64 0, .int .u64 0, .int .u64 0, .int .u64 0, .int .u64 0] := by simp [adr, List.range_succ, G2]
theorem G2_lt (j : Nat) : G2 j < 18446744073709551616 := by unfold G2; (repeat' split) <;> omega

theorem pmpKnown_call {h : Hp} {K : Value → Hp → Prop} (ht : h.blks 100 = some ⟨tab, 1, false⟩) (hK : K (.bool true) h) : ACall prog 4 [] h K := by
  refine acallF_of tb0 func4 rfl rfl mixed (by kernel_rfl) fun hwf => ?_
  have a1 := adr_size G
  have a2 := adr_one G
  have a3 := adr_row G
  have b1 := adr_size G2
  have b2 := adr_one G2
  have b3 := adr_row G2
  have hn : 100 < h.next := hwf.lt _ _ ht
  simp -dsimp (disch := omega) [a2, a3, b2, b3]
  refine given_call ?_
  simp -dsimp (disch := omega) [a2, a3, b2, b3]
  refine range_call (c := 10228489) (A := G) (i := 3) ⟨by simp (disch := omega) [ht], by omega, fun j _ => G_lt j⟩ ?_
  rw [show eB 10228489 G 3 = false by kernel_rfl, show eF 10228489 G 3 = 0 by kernel_rfl, show eL 10228489 G 3 = 0 by kernel_rfl]
  simp -dsimp (disch := omega) [a2, a3, b2, b3]
  refine range_call (c := 10228489) (A := G) (i := 8) ⟨by simp (disch := omega) [ht], by omega, fun j _ => G_lt j⟩ ?_
  rw [show eB 10228489 G 8 = false by kernel_rfl, show eF 10228489 G 8 = 0 by kernel_rfl, show eL 10228489 G 8 = 0 by kernel_rfl]
  simp -dsimp (disch := omega) [a2, a3, b2, b3]
  refine awake_call (by simp (disch := omega) [ht]) ?_
  simp -dsimp (disch := omega) [a2, a3, b2, b3]
  refine spans_call (i := 1) (a := 16388) (b := 16391) (by simp (disch := omega) [ht]) ?_
  rw [show (eB 10228489 G 1 && (decide (eF 10228489 G 1 = 16388) && decide (eL 10228489 G 1 = 16391))) = true by kernel_rfl]
  simp -dsimp (disch := omega) [a2, a3, b2, b3]
  refine may_call (m := 1) (k := 1) (at_ := 16384) (w := 4) (by simp (disch := omega) [ht]) (by omega) (by omega) (by omega) ?_
  rw [show chk 10228489 G 1 1 16384 4 = false by kernel_rfl]
  simp -dsimp (disch := omega) [a2, a3, b2, b3]
  refine may_call (m := 0) (k := 2) (at_ := 16388) (w := 4) (by simp (disch := omega) [ht]) (by omega) (by omega) (by omega) ?_
  rw [show chk 10228489 G 0 2 16388 4 = true by kernel_rfl]
  simp -dsimp (disch := omega) [a2, a3, b2, b3]
  refine may_call (m := 1) (k := 2) (at_ := 16388) (w := 8) (by simp (disch := omega) [ht]) (by omega) (by omega) (by omega) ?_
  rw [show chk 10228489 G 1 2 16388 8 = false by kernel_rfl]
  simp -dsimp (disch := omega) [a2, a3, b2, b3]
  refine may_call (m := 3) (k := 0) (at_ := 32768) (w := 4) (by simp (disch := omega) [ht]) (by omega) (by omega) (by omega) ?_
  rw [show chk 10228489 G 3 0 32768 4 = true by kernel_rfl]
  simp -dsimp (disch := omega) [a2, a3, b2, b3]
  refine may_call (m := 3) (k := 1) (at_ := 36864) (w := 4) (by simp (disch := omega) [ht]) (by omega) (by omega) (by omega) ?_
  rw [show chk 10228489 G 3 1 36864 4 = true by kernel_rfl]
  simp -dsimp (disch := omega) [a2, a3, b2, b3]
  refine may_call (m := 3) (k := 1) (at_ := 16382) (w := 4) (by simp (disch := omega) [ht]) (by omega) (by omega) (by omega) ?_
  rw [show chk 10228489 G 3 1 16382 4 = false by kernel_rfl]
  simp -dsimp (disch := omega) [a2, a3, b2, b3]
  refine may_call (m := 1) (k := 3) (at_ := 16388) (w := 1) (by simp (disch := omega) [ht]) (by omega) (by omega) (by omega) ?_
  rw [show chk 10228489 G 1 3 16388 1 = false by kernel_rfl]
  simp -dsimp (disch := omega) [a2, a3, b2, b3]
  refine may_call (m := 3) (k := 1) (at_ := 18446744073709551614) (w := 4) (by simp (disch := omega) [ht]) (by omega) (by omega) (by omega) ?_
  rw [show chk 10228489 G 3 1 18446744073709551614 4 = false by kernel_rfl]
  simp -dsimp (disch := omega) [a2, a3, b2, b3]
  refine may_call (m := 3) (k := 1) (at_ := 18446744073709551612) (w := 4) (by simp (disch := omega) [ht]) (by omega) (by omega) (by omega) ?_
  rw [show chk 10228489 G 3 1 18446744073709551612 4 = true by kernel_rfl]
  simp -dsimp (disch := omega) [a2, a3, b2, b3]
  rw [← adr_G2]
  refine range_call (c := 24) (A := G2) (i := 0) ⟨by simp (disch := omega) [ht], by omega, fun j _ => G2_lt j⟩ ?_
  rw [show eB 24 G2 0 = true by kernel_rfl, show eF 24 G2 0 = 0 by kernel_rfl, show eL 24 G2 0 = 144115188075855871 by kernel_rfl]
  simp -dsimp (disch := omega) [a2, a3, b2, b3]
  refine range_call (c := 2048) (A := G2) (i := 1) ⟨by simp (disch := omega) [ht], by omega, fun j _ => G2_lt j⟩ ?_
  rw [show eB 2048 G2 1 = false by kernel_rfl, show eF 2048 G2 1 = 0 by kernel_rfl, show eL 2048 G2 1 = 0 by kernel_rfl]
  simp -dsimp (disch := omega) [a2, a3, b2, b3]
  refine range_call (c := 524288) (A := G2) (i := 2) ⟨by simp (disch := omega) [ht], by omega, fun j _ => G2_lt j⟩ ?_
  rw [show eB 524288 G2 2 = true by kernel_rfl, show eF 524288 G2 2 = 0 by kernel_rfl, show eL 524288 G2 2 = 19 by kernel_rfl]
  simp -dsimp (disch := omega) [a2, a3, b2, b3]
  refine first_call (c := 10228489) (A := G) (m := 0) (k := 0) (at_ := 16382) (w := 4) ⟨by simp (disch := omega) [ht], by omega, fun j _ => G_lt j⟩ (by omega) (by omega) ?_
  rw [show fI 10228489 G 16382 (lastOf 16382 4) = 0 by kernel_rfl, show wholeF 10228489 G 16382 4 = false by kernel_rfl]
  simp -dsimp (disch := omega) [a2, a3, b2, b3]
  refine first_call (c := 10228489) (A := G) (m := 0) (k := 0) (at_ := 20480) (w := 0) ⟨by simp (disch := omega) [ht], by omega, fun j _ => G_lt j⟩ (by omega) (by omega) ?_
  rw [show fI 10228489 G 20480 (lastOf 20480 0) = (-1) by kernel_rfl, show wholeF 10228489 G 20480 0 = false by kernel_rfl]
  simp -dsimp (disch := omega) [a2, a3, b2, b3]
  refine awake_call (by simp (disch := omega) [ht]) ?_
  simp -dsimp (disch := omega) [a2, a3, b2, b3]
  exact RetF.same hwf (by simp (disch := omega)) (Nat.zero_le _) (fun i hi => by simp (disch := omega)) hK

end Go.Proofs.YtdnjooallhdjdaaDoor
