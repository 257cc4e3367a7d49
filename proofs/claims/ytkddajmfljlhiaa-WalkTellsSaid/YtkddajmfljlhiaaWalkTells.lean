/-
  What a walk over any words tells, of two asks, what it writes, and whether any entry is allowed, is the document's: for every input, no condition.
-/
import Derived.Test.YtkddajmfljlhiaaRows
import Derived.Test.YtkddajmfljlhiaaX8
import Derived.Test.YtkddajmfljlhiaaM26
import Derived.Test.YtkddajmfljlhiaaM19
import Derived.WalkKit
import Derived.ProofKit
import Derived.OpenShut
import Derived.ShutString
import Derived.ChangeOld
import Derived.Below
set_option linter.unusedSimpArgs false
set_option linter.unusedVariables false
namespace Go.Proofs.Ytkddajmfljlhiaa
open Go Go.Mini Go.Proofs.Try
open Go.ChangeShapes Go.WideShapes Go.ChangeAt Go.RowKit
open Go.ChangeMaps (open_string shut_string)

theorem own : ownKnob Try.prog.godebug = none := by kernel_rfl
theorem laidOut : laidOutB Try.prog = true := by kernel_rfl

set_option maxRecDepth 100000 in
set_option maxHeartbeats 1000000 in
theorem walkTells_lifted (os : Os) (started : os.Started) (H : Type) (enc : TypeId × Value → H) :
    ReturnsInHanded {} Try.checked os 3 .any (Rows.walkTellsSpec.pre6 enc Try.prog Try.f3 Rows.walkTellsRow.domain false) (Rows.walkTellsSpec.post enc Try.prog Try.f3 false true false false) := by
  refine returnsInHanded_of_change (C := Try.checked) own started (by kernel_rfl) Try.func3
    (ChangeSpec.witness6 (enc := enc) (C := Try.checked) false ⟨#[], #[.slice none 0 0, .agg #[.int .u64 0, .int .u64 0, .int .u8 0, .int .u8 0, .bool false, .bool false, .int .u64 0, .int .u64 0, .int .u8 0, .int .u8 0, .bool false, .bool false], .int .u64 0], []⟩ 8 (by kernel_rfl) (by kernel_rfl) (by kernel_rfl) (by kernel_rfl)) ?_
  intro W base args ds gs before hval0 hW hcnd _
  have hval : ∀ (j : Nat) t v, Try.f3.params[j]? = some t → args[j]? = some v → Value.okWide Try.prog W .any base t v := hval0
  have hW' := hW
  obtain ⟨p, q, hA0, hV, rfl, hfz, hnd⟩ := hW
  have hA : DataW.TrodAll enc Try.prog W 0 (fun _ => true) true Try.f3.params.toList args.toList ds p := hA0
  rw [Try.params3] at hA hval
  obtain ⟨v0, vs0, d0, ds0, p0, q0, hargs, rfl, rfl, h0, r0⟩ := trodAll_cons hA
  obtain ⟨v1, vs1, d1, ds1, p1, q1, rfl, rfl, rfl, h1, r1⟩ := trodAll_cons r0
  obtain ⟨v2, vs2, d2, ds2, p2, q2, rfl, rfl, rfl, h2, r2⟩ := trodAll_cons r1
  obtain ⟨rfl, rfl, rfl⟩ := trodAll_nil r2
  obtain rfl : args = #[v0, v1, v2] := by cases args; simp_all
  obtain ⟨rfl, rfl⟩ := trodVars_none hV
  have lt0 : ∀ x ∈ p0, x.block < W.heap.size := by obtain ⟨m, hm⟩ := h0; exact DataW.trod_lt m _ _ _ hm
  have lt1 : ∀ x ∈ p1, x.block < W.heap.size := by obtain ⟨m, hm⟩ := h1; exact DataW.trod_lt m _ _ _ hm
  have lt2 : ∀ x ∈ p2, x.block < W.heap.size := by obtain ⟨m, hm⟩ := h2; exact DataW.trod_lt m _ _ _ hm
  obtain ⟨A, rows0, okA, b0, c0, f0⟩ := open_sl (d := 5) (ls := [.int .u64, .int .u64, .bool, .bool]) Try.underlying22 (by kernel_rfl) (by kernel_rfl) (by decide) (hval 0 22 v0 rfl rfl) h0
  obtain ⟨l, l10, l20, lok⟩ := words_of rows0 b0
  obtain ⟨w0, e10, e20, lin⟩ := f0 [A] 0 rfl
  rw [l10, ← l20] at lin
  obtain ⟨cs1, rfl, _, _⟩ : ∃ cs, v1 = .agg cs ∧ cs.size = Try.prog.cellsOf 26 ∧ Row.okWide Try.prog W .any base 26 cs := by
    have := hval 1 26 v1 rfl rfl
    simpa [Value.okWide, Try.underlying26] using this
  obtain ⟨x1_0, x1_1, x1_2, x1_3, x1_4, x1_5, x1_6, x1_7, x1_8, x1_9, x1_10, x1_11, hcs1, y1_0, y1_1, y1_2, y1_3, y1_4, y1_5, y1_6, y1_7, y1_8, y1_9, y1_10, y1_11⟩ : ∃ u0 u1 u2 u3 u4 u5 u6 u7 u8 u9 u10 u11, cs1.toList = [u0, u1, u2, u3, u4, u5, u6, u7, u8, u9, u10, u11] ∧ leafIn (.int .u64) u0 ∧ leafIn (.int .u64) u1 ∧ leafIn (.int .u8) u2 ∧ leafIn (.int .u8) u3 ∧ leafIn (.bool) u4 ∧ leafIn (.bool) u5 ∧ leafIn (.int .u64) u6 ∧ leafIn (.int .u64) u7 ∧ leafIn (.int .u8) u8 ∧ leafIn (.int .u8) u9 ∧ leafIn (.bool) u10 ∧ leafIn (.bool) u11 := by
    obtain ⟨m, hm⟩ := h1
    exact leaves12 (leavesA_in 5 26 [.int .u64, .int .u64, .int .u8, .int .u8, .bool, .bool, .int .u64, .int .u64, .int .u8, .int .u8, .bool, .bool] m cs1.toList _ (by kernel_rfl) (by kernel_rfl) hm)
  obtain ⟨va0I, rfl, bdva0⟩ := leaf_u64 y1_0
  obtain ⟨va0, rfl⟩ := Int.eq_ofNat_of_zero_le bdva0.1
  obtain ⟨sa0I, rfl, bdsa0⟩ := leaf_u64 y1_1
  obtain ⟨sa0, rfl⟩ := Int.eq_ofNat_of_zero_le bdsa0.1
  obtain ⟨ki0I, rfl, bdki0⟩ := leaf_u8 y1_2
  obtain ⟨ki0, rfl⟩ := Int.eq_ofNat_of_zero_le bdki0.1
  obtain ⟨mo0I, rfl, bdmo0⟩ := leaf_u8 y1_3
  obtain ⟨mo0, rfl⟩ := Int.eq_ofNat_of_zero_le bdmo0.1
  obtain ⟨su0, rfl⟩ := leaf_bool y1_4
  obtain ⟨mx0, rfl⟩ := leaf_bool y1_5
  obtain ⟨va1I, rfl, bdva1⟩ := leaf_u64 y1_6
  obtain ⟨va1, rfl⟩ := Int.eq_ofNat_of_zero_le bdva1.1
  obtain ⟨sa1I, rfl, bdsa1⟩ := leaf_u64 y1_7
  obtain ⟨sa1, rfl⟩ := Int.eq_ofNat_of_zero_le bdsa1.1
  obtain ⟨ki1I, rfl, bdki1⟩ := leaf_u8 y1_8
  obtain ⟨ki1, rfl⟩ := Int.eq_ofNat_of_zero_le bdki1.1
  obtain ⟨mo1I, rfl, bdmo1⟩ := leaf_u8 y1_9
  obtain ⟨mo1, rfl⟩ := Int.eq_ofNat_of_zero_le bdmo1.1
  obtain ⟨su1, rfl⟩ := leaf_bool y1_10
  obtain ⟨mx1, rfl⟩ := leaf_bool y1_11
  obtain rfl : cs1 = #[.int .u64 va0, .int .u64 sa0, .int .u8 ki0, .int .u8 mo0, .bool su0, .bool mx0, .int .u64 va1, .int .u64 sa1, .int .u8 ki1, .int .u8 mo1, .bool su1, .bool mx1] := by apply Array.ext'; simpa using hcs1
  obtain ⟨pte1, rfl, rfl, rfl, wfpte⟩ := Go.ChangeShapes.open_int Try.underlying23 (hval 2 23 v2 rfl rfl) h2
  obtain ⟨pte2, eqpte, bpte⟩ := leaf_u64 (leaf_lit wfpte)
  cases eqpte
  obtain ⟨pte, rfl⟩ := Int.eq_ofNat_of_zero_le bpte.1
  have walk := law_of (P := Try.prog) (f := 3) (args := [w0, .agg #[.int .u64 va0, .int .u64 sa0, .int .u8 ki0, .int .u8 mo0, .bool su0, .bool mx0, .int .u64 va1, .int .u64 sa1, .int .u8 ki1, .int .u8 mo1, .bool su1, .bool mx1], .int .u64 pte]) (l := [A]) (W := W) (by simpa using okA) (by simp [vtop, vtopL]; omega) (walkTells_call (x0 := ⟨va0, sa0, ki0, mo0, su0, mx0⟩) (x1 := ⟨va1, sa1, ki1, mo1, su1, mx1⟩) lin lok ⟨by show va0 < _; omega, by show sa0 < _; omega, by show ki0 < _; omega, by show mo0 < _; omega⟩ ⟨by show va1 < _; omega, by show sa1 < _; omega, by show ki1 < _; omega, by show mo1 < _; omega⟩ (by omega) (lt63 l20 c0) rfl)
  simp only [List.map_cons, List.map_nil, e10, rlL, rl] at walk
  clear hA0 hval0
  refine walk.mono fun e W' ⟨he, bel⟩ => ?_
  subst he
  exact ⟨_, rfl, _, _, _, [], _, [], hW', trodAll_mk1 (shut_bool Try.underlying4 _), (trodAll_cons_mk (Below.trod laidOut (by kernel_rfl) (of_decide_eq_true (by kernel_rfl)) h0 bel lt0) (trodAll_cons_mk (Below.trod laidOut (by kernel_rfl) (of_decide_eq_true (by kernel_rfl)) h1 bel lt1) (trodAll_cons_mk (Below.trod laidOut (by kernel_rfl) (of_decide_eq_true (by kernel_rfl)) h2 bel lt2) trodAll_mk0))), rfl, bel.frame _, fun h => by cases h⟩

theorem walkTells_over : Rows.walkTellsRow.holds Try.pinned (OpenSpec.ofChange Rows.walkTellsSpec) :=
  OpenClaim.holds_of_wide 3 Try.f3 rfl rfl rfl rfl rfl rfl rfl ⟨rfl, rfl, rfl, rfl, rfl⟩ rfl rfl rfl rfl rfl (by kernel_rfl) Try.func3 (by kernel_rfl)
    (of_decide_eq_true (by kernel_rfl)) (by unfold Func.isWrapper; first | (rw [if_pos (by decide +kernel)]; kernel_rfl) | (rw [if_neg (by decide +kernel)]; exact ⟨rfl, rfl⟩))
    (fun os started H enc _ => walkTells_lifted os started H enc)

theorem walkTells_holds : Rows.WalkTellsSaid := walkTells_over

end Go.Proofs.Ytkddajmfljlhiaa
