/-
  In each frame each guest has just its budget of steps, at the same places, whatever the frame: for every input, no condition.
-/
import Derived.Test.YtndnpmfoegkkeaaRows
import Derived.Test.YtndnpmfoegkkeaaP5
import Derived.Test.YtndnpmfoegkkeaaM19
import Derived.WalkKit
import Derived.ProofKit
import Derived.OpenShut
import Derived.ShutString
import Derived.ChangeOld
import Derived.Below
set_option linter.unusedSimpArgs false
set_option linter.unusedVariables false
set_option linter.unusedSectionVars false
namespace Go.Proofs.Ytndnpmfoegkkeaa
open Go Go.Mini Go.Proofs.Try
open Go.ChangeShapes Go.WideShapes Go.ChangeAt Go.RowKit
open Go.ChangeMaps (open_string shut_string)

theorem lt63 {a b : Nat} (h : a = b) (h2 : b ≤ maxLen) : a < 9223372036854775808 := by
  have : maxLen < 9223372036854775808 := by decide
  omega
theorem wins_of (rows : List (List Value)) : (∀ r ∈ rows, leavesIn [.int .u8, .int .u16] r) → ∃ l : List Win, rows.flatten = winsC l ∧ l.length = rows.length ∧ ∀ e ∈ l, e.ok := by
  induction rows with
  | nil => intro _; exact ⟨[], rfl, rfl, fun e he => by cases he⟩
  | cons r rows ih =>
    intro h
    obtain ⟨l, h1, h2, h3⟩ := ih fun r hr => h r (by simp [hr])
    obtain ⟨x0, x1, rfl, q0, q1⟩ := Go.Mini.leaves2 (h r (by simp))
    obtain ⟨a, rfl, ha⟩ := leaf_u8 q0
    obtain ⟨s, rfl, hs⟩ := leaf_u16 q1
    obtain ⟨a, rfl⟩ := Int.eq_ofNat_of_zero_le ha.1
    obtain ⟨s, rfl⟩ := Int.eq_ofNat_of_zero_le hs.1
    refine ⟨⟨a, s⟩ :: l, by rw [List.flatten_cons, h1]; rfl, by simp [h2], fun e he => ?_⟩
    rcases List.mem_cons.1 he with rfl | he
    · exact ⟨by show a < _; omega, by show s < _; omega⟩
    · exact h3 e he
theorem own : ownKnob Try.prog.godebug = none := by kernel_rfl
theorem laidOut : laidOutB Try.prog = true := by kernel_rfl

set_option maxRecDepth 100000 in
set_option maxHeartbeats 1000000 in
theorem frameBudgets_lifted (os : Os) (started : os.Started) (H : Type) (enc : TypeId × Value → H) :
    ReturnsInHanded {} Try.checked os 4 .any (Rows.frameBudgetsSpec.pre6 enc Try.prog Try.f4 Rows.frameBudgetsRow.domain false) (Rows.frameBudgetsSpec.post enc Try.prog Try.f4 false true false false) := by
  refine returnsInHanded_of_change (C := Try.checked) own started (by kernel_rfl) Try.func4
    (ChangeSpec.witness6 (enc := enc) (C := Try.checked) false ⟨#[], #[.slice none 0 0, .int .i64 0, .int .u64 0], []⟩ 8 (by kernel_rfl) (by kernel_rfl) (by kernel_rfl) (by kernel_rfl)) ?_
  intro W base args ds gs before hval0 hW hcnd _
  have hval : ∀ (j : Nat) t v, Try.f4.params[j]? = some t → args[j]? = some v → Value.okWide Try.prog W .any base t v := hval0
  have hW' := hW
  obtain ⟨p, q, hA0, hV, rfl, hfz, hnd⟩ := hW
  have hA : DataW.TrodAll enc Try.prog W 0 (fun _ => true) true Try.f4.params.toList args.toList ds p := hA0
  rw [Try.params4] at hA hval
  obtain ⟨v0, vs0, d0, ds0, p0, q0, hargs, rfl, rfl, h0, r0⟩ := trodAll_cons hA
  obtain ⟨v1, vs1, d1, ds1, p1, q1, rfl, rfl, rfl, h1, r1⟩ := trodAll_cons r0
  obtain ⟨v2, vs2, d2, ds2, p2, q2, rfl, rfl, rfl, h2, r2⟩ := trodAll_cons r1
  obtain ⟨rfl, rfl, rfl⟩ := trodAll_nil r2
  obtain rfl : args = #[v0, v1, v2] := by cases args; simp_all
  obtain ⟨rfl, rfl⟩ := trodVars_none hV
  have lt0 : ∀ x ∈ p0, x.block < W.heap.size := by obtain ⟨m, hm⟩ := h0; exact DataW.trod_lt m _ _ _ hm
  have lt1 : ∀ x ∈ p1, x.block < W.heap.size := by obtain ⟨m, hm⟩ := h1; exact DataW.trod_lt m _ _ _ hm
  have lt2 : ∀ x ∈ p2, x.block < W.heap.size := by obtain ⟨m, hm⟩ := h2; exact DataW.trod_lt m _ _ _ hm
  obtain ⟨A, rows0, okA, b0, c0, f0⟩ := open_sl (d := 2) (ls := [.int .u8, .int .u16]) Try.underlying22 (by kernel_rfl) (by kernel_rfl) (by decide) (hval 0 22 v0 rfl rfl) h0
  obtain ⟨l, l10, l20, lok⟩ := wins_of rows0 b0
  obtain ⟨g, rfl, rfl, rfl, wfg⟩ := Go.ChangeShapes.open_int Try.underlying3 (hval 1 3 v1 rfl rfl) h1
  obtain ⟨g2, eqg, bg⟩ := leaf_i64 (leaf_lit wfg)
  cases eqg
  obtain ⟨q, rfl, rfl, rfl, wfq⟩ := Go.ChangeShapes.open_int Try.underlying31 (hval 2 31 v2 rfl rfl) h2
  obtain ⟨q2, eqq, bq⟩ := leaf_u64 (leaf_lit wfq)
  cases eqq
  obtain ⟨q, rfl⟩ := Int.eq_ofNat_of_zero_le bq.1
  obtain ⟨w0, e10, e20, lin⟩ := f0 [A] 0 rfl
  rw [l10, ← l20] at lin
  have walk := law_of (P := Try.prog) (f := 4) (args := [w0, .int .i64 g, .int .u64 q]) (l := [A]) (W := W) (by simpa using okA) (by simpa [vtop] using e20) (frameBudgets_call lok lin (lt63 l20 c0) (by omega) rfl)
  simp only [List.map_cons, List.map_nil, e10, rl] at walk
  clear hA0 hval0
  refine walk.mono fun e W' ⟨he, bel⟩ => ?_
  subst he
  exact ⟨_, rfl, _, _, _, [], _, [], hW', trodAll_mk1 (shut_bool Try.underlying4 _), (trodAll_cons_mk (Below.trod laidOut (by kernel_rfl) (of_decide_eq_true (by kernel_rfl)) h0 bel lt0) (trodAll_cons_mk (Below.trod laidOut (by kernel_rfl) (of_decide_eq_true (by kernel_rfl)) h1 bel lt1) (trodAll_cons_mk (Below.trod laidOut (by kernel_rfl) (of_decide_eq_true (by kernel_rfl)) h2 bel lt2) trodAll_mk0))), rfl, bel.frame _, fun h => by cases h⟩

theorem frameBudgets_over : Rows.frameBudgetsRow.holds Try.pinned (OpenSpec.ofChange Rows.frameBudgetsSpec) :=
  OpenClaim.holds_of_wide 4 Try.f4 rfl rfl rfl rfl rfl rfl rfl ⟨rfl, rfl, rfl, rfl, rfl⟩ rfl rfl rfl rfl rfl (by kernel_rfl) Try.func4 (by kernel_rfl)
    (of_decide_eq_true (by kernel_rfl)) (by unfold Func.isWrapper; first | (rw [if_pos (by decide +kernel)]; kernel_rfl) | (rw [if_neg (by decide +kernel)]; exact ⟨rfl, rfl⟩))
    (fun os started H enc _ => frameBudgets_lifted os started H enc)

theorem frameBudgets_holds : Rows.FrameBudgetsSaid := frameBudgets_over

end Go.Proofs.Ytndnpmfoegkkeaa
