/-
  What is taken of any text by codec.Source, in any order, and where the source stands, is the document's: for every input, no condition.
-/
import Derived.Test.YtpppnibhlkpgmaaRows
import Derived.Test.YtpppnibhlkpgmaaA8
import Derived.Test.YtpppnibhlkpgmaaM19
import Derived.WalkKit
import Derived.ProofKit
import Derived.OpenShut
import Derived.ShutString
import Derived.ChangeOld
import Derived.Below
namespace Go.Proofs.Ytpppnibhlkpgmaa
open Go Go.Mini Go.Proofs.Try
open Go.ChangeShapes Go.WideShapes Go.ChangeAt Go.RowKit
open Go.ChangeMaps (open_string shut_string)

theorem own : ownKnob Try.prog.godebug = none := by kernel_rfl
theorem laidOut : laidOutB Try.prog = true := by kernel_rfl

theorem asks_of (rows : List (List Value)) : (∀ r ∈ rows, leavesIn [.bool, .int .i64] r) → ∃ l : List (Bool × Int), rows.flatten = askCells l ∧ l.length = rows.length := by
  induction rows with
  | nil => intro _; exact ⟨[], rfl, rfl⟩
  | cons r rows ih =>
    intro h
    obtain ⟨l, h1, h2⟩ := ih fun r hr => h r (by simp [hr])
    have hr := h r (by simp)
    obtain ⟨x, y, rfl, hx, hy⟩ := leaves2 hr
    obtain ⟨a, rfl⟩ := leaf_bool hx
    obtain ⟨b, rfl, hb⟩ := leaf_i64 hy
    exact ⟨(a, b) :: l, by simp [askCells, h1], by simp [h2]⟩

set_option maxRecDepth 100000 in
theorem codecTakes_lifted (os : Os) (started : os.Started) (H : Type) (enc : TypeId × Value → H) :
    ReturnsInHanded {} Try.checked os 5 .any (Rows.codecTakesSpec.pre6 enc Try.prog Try.f5 Rows.codecTakesRow.domain false) (Rows.codecTakesSpec.post enc Try.prog Try.f5 false true false false) := by
  refine returnsInHanded_of_change (C := Try.checked) own started (by kernel_rfl) Try.func5
    (ChangeSpec.witness6 (enc := enc) (C := Try.checked) false ⟨#[], #[.string ⟨#[]⟩, .slice none 0 0], []⟩ 8 (by kernel_rfl) (by kernel_rfl) (by kernel_rfl) (by kernel_rfl)) ?_
  intro W base args ds gs before hval0 hW hcnd _
  have hval : ∀ (j : Nat) t v, Try.f5.params[j]? = some t → args[j]? = some v → Value.okWide Try.prog W .any base t v := hval0
  have hW' := hW
  obtain ⟨p, q, hA0, hV, rfl, hfz, hnd⟩ := hW
  have hA : DataW.TrodAll enc Try.prog W 0 (fun _ => true) true Try.f5.params.toList args.toList ds p := hA0
  rw [Try.params5] at hA hval
  obtain ⟨v0, vs0, d0, ds0, p0, q0, hargs, rfl, rfl, h0, r0⟩ := trodAll_cons hA
  obtain ⟨v1, vs1, d1, ds1, p1, q1, rfl, rfl, rfl, h1, r1⟩ := trodAll_cons r0
  obtain ⟨rfl, rfl, rfl⟩ := trodAll_nil r1
  obtain rfl : args = #[v0, v1] := by cases args; simp_all
  obtain ⟨rfl, rfl⟩ := trodVars_none hV
  have lt0 : ∀ x ∈ p0, x.block < W.heap.size := by obtain ⟨m, hm⟩ := h0; exact DataW.trod_lt m _ _ _ hm
  have lt1 : ∀ x ∈ p1, x.block < W.heap.size := by obtain ⟨m, hm⟩ := h1; exact DataW.trod_lt m _ _ _ hm
  obtain ⟨A, rows, a1, a2, a3, a4⟩ := open_sl (d := 5) (ls := [.bool, .int .i64]) Try.underlying37 (by kernel_rfl) (by kernel_rfl) (by decide) (hval 1 37 v1 rfl rfl) h1
  obtain ⟨s1, rfl⟩ := okWide_string Try.underlying9 (hval 0 9 v0 rfl rfl)
  obtain ⟨l, l1, l2⟩ := asks_of rows a2
  obtain ⟨v', b1, b2, b3⟩ := a4 [A] 0 rfl
  rw [l1, ← l2] at b3
  have walk := law_of (P := Try.prog) (f := 5) (args := [.string s1, v']) (l := [A]) (W := W) (by simpa using a1) (by simpa [vtop] using b2) (codecTakes_call b3 fun _ _ => rfl)
  simp only [List.map_cons, List.map_nil, b1, rl] at walk
  clear hA0 hval0
  refine walk.mono fun e W' ⟨he, bel⟩ => ?_
  subst he
  exact ⟨_, rfl, _, _, _, [], _, [], hW', trodAll_mk1 (shut_bool Try.underlying4 _), (trodAll_cons_mk (Below.trod laidOut (by kernel_rfl) (of_decide_eq_true (by kernel_rfl)) h0 bel lt0) (trodAll_cons_mk (Below.trod laidOut (by kernel_rfl) (of_decide_eq_true (by kernel_rfl)) h1 bel lt1) trodAll_mk0)), rfl, bel.frame _, fun h => by cases h⟩

theorem codecTakes_over : Rows.codecTakesRow.holds Try.pinned (OpenSpec.ofChange Rows.codecTakesSpec) :=
  OpenClaim.holds_of_wide 5 Try.f5 rfl rfl rfl rfl rfl rfl rfl ⟨rfl, rfl, rfl, rfl, rfl⟩ rfl rfl rfl rfl rfl (by kernel_rfl) Try.func5 (by kernel_rfl)
    (of_decide_eq_true (by kernel_rfl)) (by unfold Func.isWrapper; first | (rw [if_pos (by decide +kernel)]; kernel_rfl) | (rw [if_neg (by decide +kernel)]; exact ⟨rfl, rfl⟩))
    (fun os started H enc _ => codecTakes_lifted os started H enc)

theorem codecTakes_holds : Rows.CodecTakesSaid := codecTakes_over

end Go.Proofs.Ytpppnibhlkpgmaa
