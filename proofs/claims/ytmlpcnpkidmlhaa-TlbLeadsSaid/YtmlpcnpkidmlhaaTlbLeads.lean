/-
  A page's addresses lead to places as far from each other, up to the size of the leaf; the offset stays: for every input, no condition.
-/
import Derived.Test.YtmlpcnpkidmlhaaRows
import Derived.Test.YtmlpcnpkidmlhaaZ7
import Derived.Test.YtmlpcnpkidmlhaaM19
import Derived.WalkKit
import Derived.ProofKit
import Derived.OpenShut
import Derived.ShutString
import Derived.ChangeOld
import Derived.Below
set_option linter.unusedSimpArgs false
set_option linter.unusedVariables false
namespace Go.Proofs.Ytmlpcnpkidmlhaa
open Go Go.Mini Go.Proofs.Try
open Go.ChangeShapes Go.WideShapes Go.ChangeAt Go.RowKit
open Go.ChangeMaps (open_string shut_string)

theorem own : ownKnob Try.prog.godebug = none := by kernel_rfl
theorem laidOut : laidOutB Try.prog = true := by kernel_rfl

set_option maxRecDepth 100000 in
set_option maxHeartbeats 1000000 in
theorem tlbLeads_lifted (os : Os) (started : os.Started) (H : Type) (enc : TypeId × Value → H) :
    ReturnsInHanded {} Try.checked os 4 .any (Rows.tlbLeadsSpec.pre6 enc Try.prog Try.f4 Rows.tlbLeadsRow.domain false) (Rows.tlbLeadsSpec.post enc Try.prog Try.f4 false true false false) := by
  refine returnsInHanded_of_change (C := Try.checked) own started (by kernel_rfl) Try.func4
    (ChangeSpec.witness6 (enc := enc) (C := Try.checked) false ⟨#[], #[.agg #[.int .u64 0, .int .u64 0, .int .u64 0, .int .i64 0, .int .u64 0, .int .u64 0, .int .u64 0, .int .i64 0], .int .u64 0, .int .u64 0], []⟩ 8 (by kernel_rfl) (by kernel_rfl) (by kernel_rfl) (by kernel_rfl)) ?_
  intro W base args ds gs before hval0 hW hcnd _
  have hval : ∀ (j : Nat) t v, Try.f4.params[j]? = some t → args[j]? = some v → Value.okWide Try.prog W .any base t v := hval0
  have hW' := hW
  obtain ⟨p, q, hA0, hV, rfl, hfz, hnd⟩ := hW
  have hA : DataW.TrodAll enc Try.prog W 0 (fun _ => true) true Try.f4.params.toList args.toList ds p := hA0
  rw [Try.params4] at hA hval
  obtain ⟨v0, vs0, d0, ds0, p0, q0, hargs, rfl, rfl, h0, r0⟩ := trodAll_cons hA
  obtain ⟨v1, vs1, d1, ds1, p1, q1, rfl, rfl, rfl, h1, r1⟩ := trodAll_cons r0
  obtain ⟨v2, vs2, d2, ds2, p2, q2, rfl, rfl, rfl, h2, r2⟩ := trodAll_cons r1
  obtain ⟨rfl, rfl, rfl⟩ := trodAll_nil r2
  obtain rfl : args = #[v0, v1, v2] := by cases args; simp_all
  obtain ⟨rfl, rfl⟩ := trodVars_none hV
  have lt0 : ∀ x ∈ p0, x.block < W.heap.size := by obtain ⟨m, hm⟩ := h0; exact DataW.trod_lt m _ _ _ hm
  have lt1 : ∀ x ∈ p1, x.block < W.heap.size := by obtain ⟨m, hm⟩ := h1; exact DataW.trod_lt m _ _ _ hm
  have lt2 : ∀ x ∈ p2, x.block < W.heap.size := by obtain ⟨m, hm⟩ := h2; exact DataW.trod_lt m _ _ _ hm
  obtain ⟨cs0, rfl, _, _⟩ : ∃ cs, v0 = .agg cs ∧ cs.size = Try.prog.cellsOf 25 ∧ Row.okWide Try.prog W .any base 25 cs := by
    have := hval 0 25 v0 rfl rfl
    simpa [Value.okWide, Try.underlying25] using this
  obtain ⟨x0_0, x0_1, x0_2, x0_3, x0_4, x0_5, x0_6, x0_7, hcs0, y0_0, y0_1, y0_2, y0_3, y0_4, y0_5, y0_6, y0_7⟩ : ∃ u0 u1 u2 u3 u4 u5 u6 u7, cs0.toList = [u0, u1, u2, u3, u4, u5, u6, u7] ∧ leafIn (.int .u64) u0 ∧ leafIn (.int .u64) u1 ∧ leafIn (.int .u64) u2 ∧ leafIn (.int .i64) u3 ∧ leafIn (.int .u64) u4 ∧ leafIn (.int .u64) u5 ∧ leafIn (.int .u64) u6 ∧ leafIn (.int .i64) u7 := by
    obtain ⟨m, hm⟩ := h0
    exact leaves8 (leavesA_in 5 25 [.int .u64, .int .u64, .int .u64, .int .i64, .int .u64, .int .u64, .int .u64, .int .i64] m cs0.toList _ (by kernel_rfl) (by kernel_rfl) hm)
  obtain ⟨saI, rfl, bdsa⟩ := leaf_u64 y0_0
  obtain ⟨sa, rfl⟩ := Int.eq_ofNat_of_zero_le bdsa.1
  obtain ⟨vpI, rfl, bdvp⟩ := leaf_u64 y0_1
  obtain ⟨vp, rfl⟩ := Int.eq_ofNat_of_zero_le bdvp.1
  obtain ⟨ptI, rfl, bdpt⟩ := leaf_u64 y0_2
  obtain ⟨pt, rfl⟩ := Int.eq_ofNat_of_zero_le bdpt.1
  obtain ⟨le, rfl, bdle⟩ := leaf_i64 y0_3
  obtain ⟨n0I, rfl, bdn0⟩ := leaf_u64 y0_4
  obtain ⟨n0, rfl⟩ := Int.eq_ofNat_of_zero_le bdn0.1
  obtain ⟨n1I, rfl, bdn1⟩ := leaf_u64 y0_5
  obtain ⟨n1, rfl⟩ := Int.eq_ofNat_of_zero_le bdn1.1
  obtain ⟨n2I, rfl, bdn2⟩ := leaf_u64 y0_6
  obtain ⟨n2, rfl⟩ := Int.eq_ofNat_of_zero_le bdn2.1
  obtain ⟨rd, rfl, bdrd⟩ := leaf_i64 y0_7
  obtain rfl : cs0 = #[.int .u64 sa, .int .u64 vp, .int .u64 pt, .int .i64 le, .int .u64 n0, .int .u64 n1, .int .u64 n2, .int .i64 rd] := by apply Array.ext'; simpa using hcs0
  obtain ⟨xa1, rfl, rfl, rfl, wfxa⟩ := Go.ChangeShapes.open_int Try.underlying22 (hval 1 22 v1 rfl rfl) h1
  obtain ⟨xa2, eqxa, bxa⟩ := leaf_u64 (leaf_lit wfxa)
  cases eqxa
  obtain ⟨xa, rfl⟩ := Int.eq_ofNat_of_zero_le bxa.1
  obtain ⟨xb1, rfl, rfl, rfl, wfxb⟩ := Go.ChangeShapes.open_int Try.underlying22 (hval 2 22 v2 rfl rfl) h2
  obtain ⟨xb2, eqxb, bxb⟩ := leaf_u64 (leaf_lit wfxb)
  cases eqxb
  obtain ⟨xb, rfl⟩ := Int.eq_ofNat_of_zero_le bxb.1
  have walk := law_of (P := Try.prog) (f := 4) (args := [.agg #[.int .u64 sa, .int .u64 vp, .int .u64 pt, .int .i64 le, .int .u64 n0, .int .u64 n1, .int .u64 n2, .int .i64 rd], .int .u64 xa, .int .u64 xb]) (l := []) (W := W) (by simp) (by simp [vtop, vtopL]) (tlbLeads_call (e := ⟨sa, vp, pt, le, n0, n1, n2, rd⟩) ⟨by show sa < _; omega, by show vp < _; omega, by show pt < _; omega⟩ (by omega) (by omega) fun h' hs => rfl)
  simp only [List.map_cons, List.map_nil, rlL, rl] at walk
  clear hA0 hval0
  refine walk.mono fun e W' ⟨he, bel⟩ => ?_
  subst he
  exact ⟨_, rfl, _, _, _, [], _, [], hW', trodAll_mk1 (shut_bool Try.underlying4 _), (trodAll_cons_mk (Below.trod laidOut (by kernel_rfl) (of_decide_eq_true (by kernel_rfl)) h0 bel lt0) (trodAll_cons_mk (Below.trod laidOut (by kernel_rfl) (of_decide_eq_true (by kernel_rfl)) h1 bel lt1) (trodAll_cons_mk (Below.trod laidOut (by kernel_rfl) (of_decide_eq_true (by kernel_rfl)) h2 bel lt2) trodAll_mk0))), rfl, bel.frame _, fun h => by cases h⟩

theorem tlbLeads_over : Rows.tlbLeadsRow.holds Try.pinned (OpenSpec.ofChange Rows.tlbLeadsSpec) :=
  OpenClaim.holds_of_wide 4 Try.f4 rfl rfl rfl rfl rfl rfl rfl ⟨rfl, rfl, rfl, rfl, rfl⟩ rfl rfl rfl rfl rfl (by kernel_rfl) Try.func4 (by kernel_rfl)
    (of_decide_eq_true (by kernel_rfl)) (by unfold Func.isWrapper; first | (rw [if_pos (by decide +kernel)]; kernel_rfl) | (rw [if_neg (by decide +kernel)]; exact ⟨rfl, rfl⟩))
    (fun os started H enc _ => tlbLeads_lifted os started H enc)

theorem tlbLeads_holds : Rows.TlbLeadsSaid := tlbLeads_over

end Go.Proofs.Ytmlpcnpkidmlhaa
