/-
  What was written is read until it is written over; a write changes no byte beside its own: for every input, no condition.
-/
import Derived.Test.YtgafaelakjnemaaRows
import Derived.Test.YtgafaelakjnemaaK1
import Derived.Test.YtgafaelakjnemaaM19
import Derived.WalkKit
import Derived.ProofKit
import Derived.OpenShut
import Derived.ShutString
import Derived.ChangeOld
import Derived.Below
set_option linter.unusedSimpArgs false
set_option linter.unusedVariables false
namespace Go.Proofs.Ytgafaelakjnemaa
open Go Go.Mini Go.Proofs.Try
open Go.ChangeShapes Go.WideShapes Go.ChangeAt Go.RowKit
open Go.ChangeMaps (open_string shut_string)

theorem own : ownKnob Try.prog.godebug = none := by kernel_rfl
theorem laidOut : laidOutB Try.prog = true := by kernel_rfl

set_option maxRecDepth 100000 in
set_option maxHeartbeats 1000000 in
theorem ramKeeps_lifted (os : Os) (started : os.Started) (H : Type) (enc : TypeId × Value → H) :
    ReturnsInHanded {} Try.checked os 7 .any (Rows.ramKeepsSpec.pre6 enc Try.prog Try.f7 Rows.ramKeepsRow.domain false) (Rows.ramKeepsSpec.post enc Try.prog Try.f7 false true false false) := by
  refine returnsInHanded_of_change (C := Try.checked) own started (by kernel_rfl) Try.func7
    (ChangeSpec.witness6 (enc := enc) (C := Try.checked) false ⟨#[], #[.string ⟨#[]⟩, .agg #[.int .u64 0, .int .u64 0, .int .i64 0, .int .u64 0]], []⟩ 8 (by kernel_rfl) (by kernel_rfl) (by kernel_rfl) (by kernel_rfl)) ?_
  intro W base args ds gs before hval0 hW hcnd _
  have hval : ∀ (j : Nat) t v, Try.f7.params[j]? = some t → args[j]? = some v → Value.okWide Try.prog W .any base t v := hval0
  have hW' := hW
  obtain ⟨p, q, hA0, hV, rfl, hfz, hnd⟩ := hW
  have hA : DataW.TrodAll enc Try.prog W 0 (fun _ => true) true Try.f7.params.toList args.toList ds p := hA0
  rw [Try.params7] at hA hval
  obtain ⟨v0, vs0, d0, ds0, p0, q0, hargs, rfl, rfl, h0, r0⟩ := trodAll_cons hA
  obtain ⟨v1, vs1, d1, ds1, p1, q1, rfl, rfl, rfl, h1, r1⟩ := trodAll_cons r0
  obtain ⟨rfl, rfl, rfl⟩ := trodAll_nil r1
  obtain rfl : args = #[v0, v1] := by cases args; simp_all
  obtain ⟨rfl, rfl⟩ := trodVars_none hV
  have lt0 : ∀ x ∈ p0, x.block < W.heap.size := by obtain ⟨m, hm⟩ := h0; exact DataW.trod_lt m _ _ _ hm
  have lt1 : ∀ x ∈ p1, x.block < W.heap.size := by obtain ⟨m, hm⟩ := h1; exact DataW.trod_lt m _ _ _ hm
  obtain ⟨s0, rfl, rfl, rfl, ws0⟩ := open_string Try.underlying9 (hval 0 9 v0 rfl rfl) h0
  obtain ⟨l, rfl⟩ : ∃ l, s0 = txt l := ⟨s0.data.toList, rfl⟩
  obtain ⟨cs1, rfl, _, _⟩ : ∃ cs, v1 = .agg cs ∧ cs.size = Try.prog.cellsOf 63 ∧ Row.okWide Try.prog W .any base 63 cs := by
    have := hval 1 63 v1 rfl rfl
    simpa [Value.okWide, Try.underlying63] using this
  obtain ⟨x1_0, x1_1, x1_2, x1_3, hcs1, y1_0, y1_1, y1_2, y1_3⟩ : ∃ u0 u1 u2 u3, cs1.toList = [u0, u1, u2, u3] ∧ leafIn (.int .u64) u0 ∧ leafIn (.int .u64) u1 ∧ leafIn (.int .i64) u2 ∧ leafIn (.int .u64) u3 := by
    obtain ⟨m, hm⟩ := h1
    exact leaves4 (leaves_in 5 63 [.int .u64, .int .u64, .int .i64, .int .u64] m cs1.toList _ (by kernel_rfl) (by kernel_rfl) hm)
  obtain ⟨xI, rfl, bdx⟩ := leaf_u64 y1_0
  obtain ⟨x, rfl⟩ := Int.eq_ofNat_of_zero_le bdx.1
  obtain ⟨yI, rfl, bdy⟩ := leaf_u64 y1_1
  obtain ⟨y, rfl⟩ := Int.eq_ofNat_of_zero_le bdy.1
  obtain ⟨n, rfl, bdn⟩ := leaf_i64 y1_2
  obtain ⟨zI, rfl, bdz⟩ := leaf_u64 y1_3
  obtain ⟨z, rfl⟩ := Int.eq_ofNat_of_zero_le bdz.1
  obtain rfl : cs1 = #[.int .u64 x, .int .u64 y, .int .i64 n, .int .u64 z] := by apply Array.ext'; simpa using hcs1
  have walk := law_of (P := Try.prog) (f := 7) (args := [.string (txt l), .agg #[.int .u64 x, .int .u64 y, .int .i64 n, .int .u64 z]]) (l := []) (W := W) (by simp) (by simp [vtop, vtopL]) (ramKeeps_call (lt63 (show l.length = (txt l).size from rfl) ws0) (by omega) (by omega) (by omega) bdn fun h' hs => rfl)
  simp only [List.map_cons, List.map_nil, rlL, rl] at walk
  clear hA0 hval0
  refine walk.mono fun e W' ⟨he, bel⟩ => ?_
  subst he
  exact ⟨_, rfl, _, _, _, [], _, [], hW', trodAll_mk1 (shut_bool Try.underlying4 _), (trodAll_cons_mk (Below.trod laidOut (by kernel_rfl) (of_decide_eq_true (by kernel_rfl)) h0 bel lt0) (trodAll_cons_mk (Below.trod laidOut (by kernel_rfl) (of_decide_eq_true (by kernel_rfl)) h1 bel lt1) trodAll_mk0)), rfl, bel.frame _, fun h => by cases h⟩

theorem ramKeeps_over : Rows.ramKeepsRow.holds Try.pinned (OpenSpec.ofChange Rows.ramKeepsSpec) :=
  OpenClaim.holds_of_wide 7 Try.f7 rfl rfl rfl rfl rfl rfl rfl ⟨rfl, rfl, rfl, rfl, rfl⟩ rfl rfl rfl rfl rfl (by kernel_rfl) Try.func7 (by kernel_rfl)
    (of_decide_eq_true (by kernel_rfl)) (by unfold Func.isWrapper; first | (rw [if_pos (by decide +kernel)]; kernel_rfl) | (rw [if_neg (by decide +kernel)]; exact ⟨rfl, rfl⟩))
    (fun os started H enc _ => ramKeeps_lifted os started H enc)

theorem ramKeeps_holds : Rows.RamKeepsSaid := ramKeeps_over

end Go.Proofs.Ytgafaelakjnemaa
