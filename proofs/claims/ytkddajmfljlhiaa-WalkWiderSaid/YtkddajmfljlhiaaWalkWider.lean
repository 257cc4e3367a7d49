/-
  What is allowed without SUM or MXR is so with it; where a Store is fine, a Load is; what U may fetch, S may not: for every input, no condition.
-/
import Derived.Test.YtkddajmfljlhiaaRows
import Derived.Test.YtkddajmfljlhiaaW8
import Derived.Test.YtkddajmfljlhiaaW9
import Derived.Test.YtkddajmfljlhiaaM19
import Derived.WalkKit
import Derived.ProofKit
import Derived.OpenShut
import Derived.ShutString
import Derived.ChangeOld
import Derived.Below
set_option linter.unusedSimpArgs false
set_option linter.unusedVariables false
namespace Go.Proofs.Ytkddajmfljlhiaa
open Go Go.Mini Go.Proofs.Try
open Go.ChangeShapes Go.WideShapes Go.ChangeAt Go.RowKit
open Go.ChangeMaps (open_string shut_string)

theorem own : ownKnob Try.prog.godebug = none := by kernel_rfl
theorem laidOut : laidOutB Try.prog = true := by kernel_rfl

set_option maxRecDepth 100000 in
set_option maxHeartbeats 1000000 in
theorem walkWider_lifted (os : Os) (started : os.Started) (H : Type) (enc : TypeId × Value → H) :
    ReturnsInHanded {} Try.checked os 6 .any (Rows.walkWiderSpec.pre6 enc Try.prog Try.f6 Rows.walkWiderRow.domain false) (Rows.walkWiderSpec.post enc Try.prog Try.f6 false true false false) := by
  refine returnsInHanded_of_change (C := Try.checked) own started (by kernel_rfl) Try.func6
    (ChangeSpec.witness6 (enc := enc) (C := Try.checked) false ⟨#[], #[.slice none 0 0, .agg #[.int .u64 0, .int .u64 0, .int .u8 0, .int .u8 0, .bool false, .bool false]], []⟩ 8 (by kernel_rfl) (by kernel_rfl) (by kernel_rfl) (by kernel_rfl)) ?_
  intro W base args ds gs before hval0 hW hcnd _
  have hval : ∀ (j : Nat) t v, Try.f6.params[j]? = some t → args[j]? = some v → Value.okWide Try.prog W .any base t v := hval0
  have hW' := hW
  obtain ⟨p, q, hA0, hV, rfl, hfz, hnd⟩ := hW
  have hA : DataW.TrodAll enc Try.prog W 0 (fun _ => true) true Try.f6.params.toList args.toList ds p := hA0
  rw [Try.params6] at hA hval
  obtain ⟨v0, vs0, d0, ds0, p0, q0, hargs, rfl, rfl, h0, r0⟩ := trodAll_cons hA
  obtain ⟨v1, vs1, d1, ds1, p1, q1, rfl, rfl, rfl, h1, r1⟩ := trodAll_cons r0
  obtain ⟨rfl, rfl, rfl⟩ := trodAll_nil r1
  obtain rfl : args = #[v0, v1] := by cases args; simp_all
  obtain ⟨rfl, rfl⟩ := trodVars_none hV
  have lt0 : ∀ x ∈ p0, x.block < W.heap.size := by obtain ⟨m, hm⟩ := h0; exact DataW.trod_lt m _ _ _ hm
  have lt1 : ∀ x ∈ p1, x.block < W.heap.size := by obtain ⟨m, hm⟩ := h1; exact DataW.trod_lt m _ _ _ hm
  obtain ⟨A, rows0, okA, b0, c0, f0⟩ := open_sl (d := 5) (ls := [.int .u64, .int .u64, .bool, .bool]) Try.underlying22 (by kernel_rfl) (by kernel_rfl) (by decide) (hval 0 22 v0 rfl rfl) h0
  obtain ⟨l, l10, l20, lok⟩ := words_of rows0 b0
  obtain ⟨w0, e10, e20, lin⟩ := f0 [A] 0 rfl
  rw [l10, ← l20] at lin
  obtain ⟨cs1, rfl, _, _⟩ : ∃ cs, v1 = .agg cs ∧ cs.size = Try.prog.cellsOf 25 ∧ Row.okWide Try.prog W .any base 25 cs := by
    have := hval 1 25 v1 rfl rfl
    simpa [Value.okWide, Try.underlying25] using this
  obtain ⟨x1_0, x1_1, x1_2, x1_3, x1_4, x1_5, hcs1, y1_0, y1_1, y1_2, y1_3, y1_4, y1_5⟩ : ∃ u0 u1 u2 u3 u4 u5, cs1.toList = [u0, u1, u2, u3, u4, u5] ∧ leafIn (.int .u64) u0 ∧ leafIn (.int .u64) u1 ∧ leafIn (.int .u8) u2 ∧ leafIn (.int .u8) u3 ∧ leafIn (.bool) u4 ∧ leafIn (.bool) u5 := by
    obtain ⟨m, hm⟩ := h1
    exact leaves6 (leaves_in 5 25 [.int .u64, .int .u64, .int .u8, .int .u8, .bool, .bool] m cs1.toList _ (by kernel_rfl) (by kernel_rfl) hm)
  obtain ⟨vaI, rfl, bdva⟩ := leaf_u64 y1_0
  obtain ⟨va, rfl⟩ := Int.eq_ofNat_of_zero_le bdva.1
  obtain ⟨saI, rfl, bdsa⟩ := leaf_u64 y1_1
  obtain ⟨sa, rfl⟩ := Int.eq_ofNat_of_zero_le bdsa.1
  obtain ⟨kiI, rfl, bdki⟩ := leaf_u8 y1_2
  obtain ⟨ki, rfl⟩ := Int.eq_ofNat_of_zero_le bdki.1
  obtain ⟨moI, rfl, bdmo⟩ := leaf_u8 y1_3
  obtain ⟨mo, rfl⟩ := Int.eq_ofNat_of_zero_le bdmo.1
  obtain ⟨su, rfl⟩ := leaf_bool y1_4
  obtain ⟨mx, rfl⟩ := leaf_bool y1_5
  obtain rfl : cs1 = #[.int .u64 va, .int .u64 sa, .int .u8 ki, .int .u8 mo, .bool su, .bool mx] := by apply Array.ext'; simpa using hcs1
  have walk := law_of (P := Try.prog) (f := 6) (args := [w0, .agg #[.int .u64 va, .int .u64 sa, .int .u8 ki, .int .u8 mo, .bool su, .bool mx]]) (l := [A]) (W := W) (by simpa using okA) (by simp [vtop, vtopL]; omega) (walkWider_call (va := va) (sa := sa) (ki := ki) (mo := mo) (su := su) (mx := mx) lin lok ⟨by omega, by omega, by omega, by omega⟩ (lt63 l20 c0) rfl)
  simp only [List.map_cons, List.map_nil, e10, rlL, rl] at walk
  clear hA0 hval0
  refine walk.mono fun e W' ⟨he, bel⟩ => ?_
  subst he
  exact ⟨_, rfl, _, _, _, [], _, [], hW', trodAll_mk1 (shut_bool Try.underlying4 _), (trodAll_cons_mk (Below.trod laidOut (by kernel_rfl) (of_decide_eq_true (by kernel_rfl)) h0 bel lt0) (trodAll_cons_mk (Below.trod laidOut (by kernel_rfl) (of_decide_eq_true (by kernel_rfl)) h1 bel lt1) trodAll_mk0)), rfl, bel.frame _, fun h => by cases h⟩

theorem walkWider_over : Rows.walkWiderRow.holds Try.pinned (OpenSpec.ofChange Rows.walkWiderSpec) :=
  OpenClaim.holds_of_wide 6 Try.f6 rfl rfl rfl rfl rfl rfl rfl ⟨rfl, rfl, rfl, rfl, rfl⟩ rfl rfl rfl rfl rfl (by kernel_rfl) Try.func6 (by kernel_rfl)
    (of_decide_eq_true (by kernel_rfl)) (by unfold Func.isWrapper; first | (rw [if_pos (by decide +kernel)]; kernel_rfl) | (rw [if_neg (by decide +kernel)]; exact ⟨rfl, rfl⟩))
    (fun os started H enc _ => walkWider_lifted os started H enc)

theorem walkWider_holds : Rows.WalkWiderSaid := walkWider_over

end Go.Proofs.Ytkddajmfljlhiaa
