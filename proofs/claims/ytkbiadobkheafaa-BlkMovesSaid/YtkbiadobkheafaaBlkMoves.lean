/-
  What was written to a sector is read from it until it is written again; nothing is moved ahead of a command's end: for every input, no condition.
-/
import Derived.Test.YtkbiadobkheafaaRows
import Derived.Test.YtkbiadobkheafaaV5
import Derived.Test.YtkbiadobkheafaaM19
import Derived.WalkKit
import Derived.ProofKit
import Derived.OpenShut
import Derived.ShutString
import Derived.ChangeOld
import Derived.Below
set_option linter.unusedSimpArgs false
set_option linter.unusedVariables false
set_option linter.unusedSectionVars false
namespace Go.Proofs.Ytkbiadobkheafaa
open Go Go.Mini Go.Proofs.Try
open Go.ChangeShapes Go.WideShapes Go.ChangeAt Go.RowKit
open Go.ChangeMaps (open_string shut_string)

theorem own : ownKnob Try.prog.godebug = none := by kernel_rfl
theorem laidOut : laidOutB Try.prog = true := by kernel_rfl

set_option maxRecDepth 100000 in
set_option maxHeartbeats 1000000 in
theorem blkMoves_lifted (os : Os) (started : os.Started) (H : Type) (enc : TypeId × Value → H) :
    ReturnsInHanded {} Try.checked os 3 .any (Rows.blkMovesSpec.pre6 enc Try.prog Try.f3 Rows.blkMovesRow.domain false) (Rows.blkMovesSpec.post enc Try.prog Try.f3 false true false false) := by
  refine returnsInHanded_of_change (C := Try.checked) own started (by kernel_rfl) Try.func3
    (ChangeSpec.witness6 (enc := enc) (C := Try.checked) false ⟨#[], #[.string ⟨#[]⟩, .agg #[.int .u32 0, .int .u64 0, .int .u64 0, .int .u32 0, .int .u32 0]], []⟩ 8 (by kernel_rfl) (by kernel_rfl) (by kernel_rfl) (by kernel_rfl)) ?_
  intro W base args ds gs before hval0 hW hcnd _
  have hval : ∀ (j : Nat) t v, Try.f3.params[j]? = some t → args[j]? = some v → Value.okWide Try.prog W .any base t v := hval0
  have hW' := hW
  obtain ⟨p, q, hA0, hV, rfl, hfz, hnd⟩ := hW
  have hA : DataW.TrodAll enc Try.prog W 0 (fun _ => true) true Try.f3.params.toList args.toList ds p := hA0
  rw [Try.params3] at hA hval
  obtain ⟨v0, vs0, d0, ds0, p0, q0, hargs, rfl, rfl, h0, r0⟩ := trodAll_cons hA
  obtain ⟨v1, vs1, d1, ds1, p1, q1, rfl, rfl, rfl, h1, r1⟩ := trodAll_cons r0
  obtain ⟨rfl, rfl, rfl⟩ := trodAll_nil r1
  obtain rfl : args = #[v0, v1] := by cases args; simp_all
  obtain ⟨rfl, rfl⟩ := trodVars_none hV
  have lt0 : ∀ x ∈ p0, x.block < W.heap.size := by obtain ⟨m, hm⟩ := h0; exact DataW.trod_lt m _ _ _ hm
  have lt1 : ∀ x ∈ p1, x.block < W.heap.size := by obtain ⟨m, hm⟩ := h1; exact DataW.trod_lt m _ _ _ hm
  obtain ⟨s0, rfl, rfl, rfl, ws0⟩ := open_string Try.underlying9 (hval 0 9 v0 rfl rfl) h0
  obtain ⟨l, rfl⟩ : ∃ l, s0 = txt l := ⟨s0.data.toList, rfl⟩
  obtain ⟨cs1, rfl, _, _⟩ : ∃ cs, v1 = .agg cs ∧ cs.size = Try.prog.cellsOf 25 ∧ Row.okWide Try.prog W .any base 25 cs := by
    have := hval 1 25 v1 rfl rfl
    simpa [Value.okWide, Try.underlying25] using this
  obtain ⟨x1_0, x1_1, x1_2, x1_3, x1_4, hcs1, y1_0, y1_1, y1_2, y1_3, y1_4⟩ : ∃ u0 u1 u2 u3 u4, cs1.toList = [u0, u1, u2, u3, u4] ∧ leafIn (.int .u32) u0 ∧ leafIn (.int .u64) u1 ∧ leafIn (.int .u64) u2 ∧ leafIn (.int .u32) u3 ∧ leafIn (.int .u32) u4 := by
    obtain ⟨m, hm⟩ := h1
    exact leaves5 (leaves_in 5 25 [.int .u32, .int .u64, .int .u64, .int .u32, .int .u32] m cs1.toList _ (by kernel_rfl) (by kernel_rfl) hm)
  obtain ⟨secI, rfl, bdsec⟩ := leaf_u32 y1_0
  obtain ⟨sec, rfl⟩ := Int.eq_ofNat_of_zero_le bdsec.1
  obtain ⟨frI, rfl, bdfr⟩ := leaf_u64 y1_1
  obtain ⟨fr, rfl⟩ := Int.eq_ofNat_of_zero_le bdfr.1
  obtain ⟨tooI, rfl, bdtoo⟩ := leaf_u64 y1_2
  obtain ⟨too, rfl⟩ := Int.eq_ofNat_of_zero_le bdtoo.1
  obtain ⟨dlyI, rfl, bddly⟩ := leaf_u32 y1_3
  obtain ⟨dly, rfl⟩ := Int.eq_ofNat_of_zero_le bddly.1
  obtain ⟨othI, rfl, bdoth⟩ := leaf_u32 y1_4
  obtain ⟨oth, rfl⟩ := Int.eq_ofNat_of_zero_le bdoth.1
  obtain rfl : cs1 = #[.int .u32 sec, .int .u64 fr, .int .u64 too, .int .u32 dly, .int .u32 oth] := by apply Array.ext'; simpa using hcs1
  have walk := law_of (P := Try.prog) (f := 3) (args := [.string (txt l), .agg #[.int .u32 sec, .int .u64 fr, .int .u64 too, .int .u32 dly, .int .u32 oth]]) (l := []) (W := W) (by simp) (by simp [vtop, vtopL]) (blkMoves_call (lt63 (show l.length = (txt l).size from rfl) ws0) (by omega) (by omega) (by omega) (by omega) (by omega) fun h' hs => rfl)
  simp only [List.map_cons, List.map_nil, rlL, rl] at walk
  clear hA0 hval0
  refine walk.mono fun e W' ⟨he, bel⟩ => ?_
  subst he
  exact ⟨_, rfl, _, _, _, [], _, [], hW', trodAll_mk1 (shut_bool Try.underlying4 _), (trodAll_cons_mk (Below.trod laidOut (by kernel_rfl) (of_decide_eq_true (by kernel_rfl)) h0 bel lt0) (trodAll_cons_mk (Below.trod laidOut (by kernel_rfl) (of_decide_eq_true (by kernel_rfl)) h1 bel lt1) trodAll_mk0)), rfl, bel.frame _, fun h => by cases h⟩

theorem blkMoves_over : Rows.blkMovesRow.holds Try.pinned (OpenSpec.ofChange Rows.blkMovesSpec) :=
  OpenClaim.holds_of_wide 3 Try.f3 rfl rfl rfl rfl rfl rfl rfl ⟨rfl, rfl, rfl, rfl, rfl⟩ rfl rfl rfl rfl rfl (by kernel_rfl) Try.func3 (by kernel_rfl)
    (of_decide_eq_true (by kernel_rfl)) (by unfold Func.isWrapper; first | (rw [if_pos (by decide +kernel)]; kernel_rfl) | (rw [if_neg (by decide +kernel)]; exact ⟨rfl, rfl⟩))
    (fun os started H enc _ => blkMoves_lifted os started H enc)

theorem blkMoves_holds : Rows.BlkMovesSaid := blkMoves_over

end Go.Proofs.Ytkbiadobkheafaa
