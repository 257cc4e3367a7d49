/-
  What codec.Put put is taken by codec.Source as it was, but for what is above its width, in order; cut short, it is torn at the first field that is not whole: for every input, no condition.
-/
import Derived.Test.YtpppnibhlkpgmaaRows
import Derived.Test.YtpppnibhlkpgmaaA12
import Derived.Test.YtpppnibhlkpgmaaM19
import Derived.WalkKit
import Derived.ProofKit
import Derived.OpenShut
import Derived.ShutString
import Derived.ChangeOld
import Derived.Below
namespace Go.Proofs.Ytpppnibhlkpgmaa
open Go Go.Mini Go.Proofs.Try
open Go.ChangeShapes Go.WideShapes Go.ChangeAt Go.RowKit
open Go.ChangeMaps (open_string shut_string)

theorem own : ownKnob Try.prog.godebug = none := by kernel_rfl
theorem laidOut : laidOutB Try.prog = true := by kernel_rfl

theorem fields_of (rows : List (List Value)) : (∀ r ∈ rows, leavesIn [.int .u64, .int .i64] r) → ∃ l : List (Int × Int), rows.flatten = fldCells l ∧ l.length = rows.length ∧ ∀ f ∈ l, 0 ≤ f.1 ∧ f.1 ≤ 18446744073709551615 := by
  induction rows with
  | nil => intro _; exact ⟨[], rfl, rfl, by simp⟩
  | cons r rows ih =>
    intro h
    obtain ⟨l, h1, h2, h3⟩ := ih fun r hr => h r (by simp [hr])
    have hr := h r (by simp)
    obtain ⟨x, y, rfl, hx, hy⟩ := leaves2 hr
    obtain ⟨a, rfl, ha⟩ := leaf_u64 hx
    obtain ⟨b, rfl, hb⟩ := leaf_i64 hy
    refine ⟨(a, b) :: l, by simp [fldCells, h1], by simp [h2], ?_⟩
    intro f hf
    rcases List.mem_cons.1 hf with rfl | hf
    · exact ha
    · exact h3 f hf

set_option maxRecDepth 100000 in
theorem codecBack_lifted (os : Os) (started : os.Started) (H : Type) (enc : TypeId × Value → H) :
    ReturnsInHanded {} Try.checked os 6 .any (Rows.codecBackSpec.pre6 enc Try.prog Try.f6 Rows.codecBackRow.domain false) (Rows.codecBackSpec.post enc Try.prog Try.f6 false true false false) := by
  refine returnsInHanded_of_change (C := Try.checked) own started (by kernel_rfl) Try.func6
    (ChangeSpec.witness6 (enc := enc) (C := Try.checked) false ⟨#[], #[.slice none 0 0, .int .u16 0], []⟩ 8 (by kernel_rfl) (by kernel_rfl) (by kernel_rfl) (by kernel_rfl)) ?_
  intro W base args ds gs before hval0 hW hcnd _
  have hval : ∀ (j : Nat) t v, Try.f6.params[j]? = some t → args[j]? = some v → Value.okWide Try.prog W .any base t v := hval0
  have hW' := hW
  obtain ⟨p, q, hA0, hV, rfl, hfz, hnd⟩ := hW
  have hA : DataW.TrodAll enc Try.prog W 0 (fun _ => true) true Try.f6.params.toList args.toList ds p := hA0
  rw [Try.params6] at hA hval
  obtain ⟨v0, vs0, d0, ds0, p0, q0, hargs, rfl, rfl, h0, r0⟩ := trodAll_cons hA
  obtain ⟨v1, vs1, d1, ds1, p1, q1, rfl, rfl, rfl, h1, r1⟩ := trodAll_cons r0
  obtain ⟨rfl, rfl, rfl⟩ := trodAll_nil r1
  obtain rfl : args = #[v0, v1] := by cases args; simp_all
  obtain ⟨rfl, rfl⟩ := trodVars_none hV
  have lt0 : ∀ x ∈ p0, x.block < W.heap.size := by obtain ⟨m, hm⟩ := h0; exact DataW.trod_lt m _ _ _ hm
  have lt1 : ∀ x ∈ p1, x.block < W.heap.size := by obtain ⟨m, hm⟩ := h1; exact DataW.trod_lt m _ _ _ hm
  obtain ⟨A, rows, a1, a2, a3, a4⟩ := open_sl (d := 5) (ls := [.int .u64, .int .i64]) Try.underlying22 (by kernel_rfl) (by kernel_rfl) (by decide) (hval 0 22 v0 rfl rfl) h0
  obtain ⟨C, rfl, rfl, rfl, wfC⟩ := Go.ChangeShapes.open_int Try.underlying32 (hval 1 32 v1 rfl rfl) h1
  obtain ⟨C', eC, hC⟩ := leaf_u16 (leaf_lit wfC)
  cases eC
  obtain ⟨l, l1, l2, l3⟩ := fields_of rows a2
  obtain ⟨v', b1, b2, b3⟩ := a4 [A] 0 rfl
  rw [l1, ← l2] at b3
  have walk := law_of (P := Try.prog) (f := 6) (args := [v', .int .u16 C]) (l := [A]) (W := W) (by simpa using a1) (by simpa [vtop] using b2) (codecBack_call b3 l3 hC fun _ _ => rfl)
  simp only [List.map_cons, List.map_nil, b1, rl] at walk
  clear hA0 hval0
  refine walk.mono fun e W' ⟨he, bel⟩ => ?_
  subst he
  exact ⟨_, rfl, _, _, _, [], _, [], hW', trodAll_mk1 (shut_bool Try.underlying4 _), (trodAll_cons_mk (Below.trod laidOut (by kernel_rfl) (of_decide_eq_true (by kernel_rfl)) h0 bel lt0) (trodAll_cons_mk (Below.trod laidOut (by kernel_rfl) (of_decide_eq_true (by kernel_rfl)) h1 bel lt1) trodAll_mk0)), rfl, bel.frame _, fun h => by cases h⟩

theorem codecBack_over : Rows.codecBackRow.holds Try.pinned (OpenSpec.ofChange Rows.codecBackSpec) :=
  OpenClaim.holds_of_wide 6 Try.f6 rfl rfl rfl rfl rfl rfl rfl ⟨rfl, rfl, rfl, rfl, rfl⟩ rfl rfl rfl rfl rfl (by kernel_rfl) Try.func6 (by kernel_rfl)
    (of_decide_eq_true (by kernel_rfl)) (by unfold Func.isWrapper; first | (rw [if_pos (by decide +kernel)]; kernel_rfl) | (rw [if_neg (by decide +kernel)]; exact ⟨rfl, rfl⟩))
    (fun os started H enc _ => codecBack_lifted os started H enc)

theorem codecBack_holds : Rows.CodecBackSaid := codecBack_over

end Go.Proofs.Ytpppnibhlkpgmaa
