/-
  The bytes of any events, which line each is of, and which are told at any steps, are the document's: for every input, no condition.
-/
import Derived.Test.YtcfgagpjdhhddaaRows
import Derived.Test.YtcfgagpjdhhddaaD17
import Derived.Test.YtcfgagpjdhhddaaW3
import Derived.Test.YtcfgagpjdhhddaaM19
import Derived.WalkKit
import Derived.ProofKit
import Derived.OpenShut
import Derived.ShutString
import Derived.ChangeOld
import Derived.Below
set_option linter.unusedSimpArgs false
set_option linter.unusedVariables false
set_option linter.unusedSectionVars false
namespace Go.Proofs.Ytcfgagpjdhhddaa
open Go Go.Mini Go.Proofs.Try
open Go.ChangeShapes Go.WideShapes Go.ChangeAt Go.RowKit
open Go.ChangeMaps (open_string shut_string)

theorem own : ownKnob Try.prog.godebug = none := by kernel_rfl
theorem laidOut : laidOutB Try.prog = true := by kernel_rfl

set_option maxRecDepth 100000 in
set_option maxHeartbeats 1000000 in
theorem eventTells_lifted (os : Os) (started : os.Started) (H : Type) (enc : TypeId × Value → H) :
    ReturnsInHanded {} Try.checked os 7 .any (Rows.eventTellsSpec.pre6 enc Try.prog Try.f7 Rows.eventTellsRow.domain false) (Rows.eventTellsSpec.post enc Try.prog Try.f7 false true false false) := by
  refine returnsInHanded_of_change (C := Try.checked) own started (by kernel_rfl) Try.func7
    (ChangeSpec.witness6 (enc := enc) (C := Try.checked) false ⟨#[], #[.slice none 0 0, .slice none 0 0], []⟩ 8 (by kernel_rfl) (by kernel_rfl) (by kernel_rfl) (by kernel_rfl)) ?_
  intro W base args ds gs before hval0 hW hcnd _
  have hval : ∀ (j : Nat) t v, Try.f7.params[j]? = some t → args[j]? = some v → Value.okWide Try.prog W .any base t v := hval0
  have hW' := hW
  obtain ⟨p, q, hA0, hV, rfl, hfz, hnd⟩ := hW
  have hA : DataW.TrodAll enc Try.prog W 0 (fun _ => true) true Try.f7.params.toList args.toList ds p := hA0
  rw [Try.params7] at hA hval
  obtain ⟨v0, vs0, d0, ds0, p0, q0, hargs, rfl, rfl, h0, r0⟩ := trodAll_cons hA
  obtain ⟨v1, vs1, d1, ds1, p1, q1, rfl, rfl, rfl, h1, r1⟩ := trodAll_cons r0
  obtain ⟨rfl, rfl, rfl⟩ := trodAll_nil r1
  obtain rfl : args = #[v0, v1] := by cases args; simp_all
  obtain ⟨rfl, rfl⟩ := trodVars_none hV
  have lt0 : ∀ x ∈ p0, x.block < W.heap.size := by obtain ⟨m, hm⟩ := h0; exact DataW.trod_lt m _ _ _ hm
  have lt1 : ∀ x ∈ p1, x.block < W.heap.size := by obtain ⟨m, hm⟩ := h1; exact DataW.trod_lt m _ _ _ hm
  obtain ⟨A, rows0, okA, b0, c0, f0⟩ := open_sl (d := 5) (ls := [.int .u32, .int .u8, .int .u8, .int .u32]) Try.underlying23 (by kernel_rfl) (by kernel_rfl) (by decide) (hval 0 23 v0 rfl rfl) h0
  obtain ⟨l, l10, l20, lok⟩ := evs_of rows0 b0
  obtain ⟨B, rows1, okB, b1, c1, f1⟩ := open_sl (d := 5) (ls := [.int .u64]) Try.underlying43 (by kernel_rfl) (by kernel_rfl) (by decide) (hval 1 43 v1 rfl rfl) h1
  obtain ⟨k, l11, l21, kok⟩ := u64s_of rows1 b1
  obtain ⟨w0, e10, e20, lin⟩ := f0 [A, B] 0 rfl
  rw [l10, ← l20] at lin
  obtain ⟨w1, e11, e21, kin⟩ := f1 [A, B] 1 rfl
  rw [l11, ← l21] at kin
  have walk := law_of (P := Try.prog) (f := 7) (args := [w0, w1]) (l := [A, B]) (W := W) (by simpa using ⟨okA, okB⟩) (by simp [vtop]; exact ⟨by omega, by omega⟩) (eventTells_call lok kok lin kin fun _ _ => rfl)
  simp only [List.map_cons, List.map_nil, e10, e11, rl] at walk
  clear hA0 hval0
  refine walk.mono fun e W' ⟨he, bel⟩ => ?_
  subst he
  exact ⟨_, rfl, _, _, _, [], _, [], hW', trodAll_mk1 (shut_bool Try.underlying4 _), (trodAll_cons_mk (Below.trod laidOut (by kernel_rfl) (of_decide_eq_true (by kernel_rfl)) h0 bel lt0) (trodAll_cons_mk (Below.trod laidOut (by kernel_rfl) (of_decide_eq_true (by kernel_rfl)) h1 bel lt1) trodAll_mk0)), rfl, bel.frame _, fun h => by cases h⟩

theorem eventTells_over : Rows.eventTellsRow.holds Try.pinned (OpenSpec.ofChange Rows.eventTellsSpec) :=
  OpenClaim.holds_of_wide 7 Try.f7 rfl rfl rfl rfl rfl rfl rfl ⟨rfl, rfl, rfl, rfl, rfl⟩ rfl rfl rfl rfl rfl (by kernel_rfl) Try.func7 (by kernel_rfl)
    (of_decide_eq_true (by kernel_rfl)) (by unfold Func.isWrapper; first | (rw [if_pos (by decide +kernel)]; kernel_rfl) | (rw [if_neg (by decide +kernel)]; exact ⟨rfl, rfl⟩))
    (fun os started H enc _ => eventTells_lifted os started H enc)

theorem eventTells_holds : Rows.EventTellsSaid := eventTells_over

end Go.Proofs.Ytcfgagpjdhhddaa
