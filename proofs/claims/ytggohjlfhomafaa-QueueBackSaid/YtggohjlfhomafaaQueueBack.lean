/-
  Load of Dump is the same queue, and goes on the same: for every input, no condition.
-/
import Derived.Test.YtggohjlfhomafaaRows
import Derived.Test.YtggohjlfhomafaaB2
import Derived.Test.YtggohjlfhomafaaM26
import Derived.Test.YtggohjlfhomafaaM19
import Derived.WalkKit
import Derived.ProofKit
import Derived.OpenShut
import Derived.ShutString
import Derived.ChangeOld
import Derived.Below
set_option linter.unusedSimpArgs false
set_option linter.unusedVariables false
set_option linter.unusedSectionVars false
namespace Go.Proofs.Ytggohjlfhomafaa
open Go Go.Mini Go.Proofs.Try
open Go.ChangeShapes Go.WideShapes Go.ChangeAt Go.RowKit
open Go.ChangeMaps (open_string shut_string)

theorem lt63 {a b : Nat} (h : a = b) (h2 : b ≤ maxLen) : a < 9223372036854775808 := by
  have : maxLen < 9223372036854775808 := by decide
  omega
theorem open_two {H : Type} {enc : TypeId × Value → H} {P : Program} {W : World} {t e el : TypeId} {r : Reach} {bs : Nat} {v : Value} {D : DataW H} {p : List MemPlace} (ht : P.underlying t = some (.array 2 e)) (he : P.underlying e = some (.slice el)) (hc : P.cellsOf e = 1) (hts : P.cellTypes P.depth t = some [e, e]) (hsz : P.cellsOf t = 2)
    (hok : Value.okWide P W r bs t v) (h : DataW.Trod enc P W 0 (fun _ => true) true t v D p) :
    ∃ s0 s1 D0 p0 D1 p1, v = .agg #[s0, s1] ∧ Value.okWide P W r bs e s0 ∧ Value.okWide P W r bs e s1 ∧ DataW.Trod enc P W 0 (fun _ => true) true e s0 D0 p0 ∧ DataW.Trod enc P W 0 (fun _ => true) true e s1 D1 p1 := by
  obtain ⟨cs, rfl, hn, ts, h1, _, h2⟩ : ∃ cs, v = .agg cs ∧ cs.size = P.cellsOf t ∧ Row.okWide P W r bs t cs := by
    simpa [Value.okWide, ht] using hok
  rw [hts] at h1
  cases h1
  rw [hsz] at hn
  obtain ⟨s0, s1, rfl⟩ : ∃ s0 s1, cs = #[s0, s1] := by
    rcases cs with ⟨_ | ⟨s0, _ | ⟨s1, _ | ⟨x, l⟩⟩⟩⟩ <;> simp at hn
    exact ⟨s0, s1, rfl⟩
  obtain ⟨u0, w0, ok0⟩ := h2 0 s0 rfl
  obtain ⟨u1, w1, ok1⟩ := h2 1 s1 rfl
  cases w0
  cases w1
  have ok0' : Value.okWide P W r bs e s0 := by simpa [Value.okWide, he] using ok0
  have ok1' : Value.okWide P W r bs e s1 := by simpa [Value.okWide, he] using ok1
  obtain ⟨m, hm⟩ := h
  obtain ⟨xs, m', _, _, _, hxs, hf⟩ := DataW.trod_array ht hm
  have t0 := hf 0 (by omega)
  have t1 := hf 1 (by omega)
  rw [hc] at t0 t1
  have x0 : ∃ y, xs[0]? = some y := ⟨_, List.getElem?_eq_getElem (by omega)⟩
  have x1 : ∃ y, xs[1]? = some y := ⟨_, List.getElem?_eq_getElem (by omega)⟩
  obtain ⟨⟨D0, p0⟩, x0⟩ := x0
  obtain ⟨⟨D1, p1⟩, x1⟩ := x1
  rw [x0] at t0
  rw [x1] at t1
  obtain ⟨a0, k0, c0, z0⟩ := WideShapes.okWide_slice he ok0'
  obtain ⟨a1, k1, c1, z1⟩ := WideShapes.okWide_slice he ok1'
  exact ⟨s0, s1, D0, p0, D1, p1, rfl, ok0', ok1', ⟨m', by rw [z0] at t0 ⊢; simpa [Value.cells] using t0⟩, ⟨m', by rw [z1] at t1 ⊢; simpa [Value.cells] using t1⟩⟩
theorem own : ownKnob Try.prog.godebug = none := by kernel_rfl
theorem laidOut : laidOutB Try.prog = true := by kernel_rfl

set_option maxRecDepth 100000 in
set_option maxHeartbeats 1000000 in
theorem queueBack_lifted (os : Os) (started : os.Started) (H : Type) (enc : TypeId × Value → H) :
    ReturnsInHanded {} Try.checked os 5 .any (Rows.queueBackSpec.pre6 enc Try.prog Try.f5 Rows.queueBackRow.domain false) (Rows.queueBackSpec.post enc Try.prog Try.f5 false true false false) := by
  refine returnsInHanded_of_change (C := Try.checked) own started (by kernel_rfl) Try.func5
    (ChangeSpec.witness6 (enc := enc) (C := Try.checked) false ⟨#[], #[.agg #[.int .u8 0, .int .u8 0], .agg #[.slice none 0 0, .slice none 0 0], .string ⟨#[]⟩], []⟩ 8 (by kernel_rfl) (by kernel_rfl) (by kernel_rfl) (by kernel_rfl)) ?_
  intro W base args ds gs before hval0 hW hcnd _
  have hval : ∀ (j : Nat) t v, Try.f5.params[j]? = some t → args[j]? = some v → Value.okWide Try.prog W .any base t v := hval0
  have hW' := hW
  obtain ⟨p, q, hA0, hV, rfl, hfz, hnd⟩ := hW
  have hA : DataW.TrodAll enc Try.prog W 0 (fun _ => true) true Try.f5.params.toList args.toList ds p := hA0
  rw [Try.params5] at hA hval
  obtain ⟨v0, vs0, d0, ds0, p0, q0, hargs, rfl, rfl, h0, r0⟩ := trodAll_cons hA
  obtain ⟨v1, vs1, d1, ds1, p1, q1, rfl, rfl, rfl, h1, r1⟩ := trodAll_cons r0
  obtain ⟨v2, vs2, d2, ds2, p2, q2, rfl, rfl, rfl, h2, r2⟩ := trodAll_cons r1
  obtain ⟨rfl, rfl, rfl⟩ := trodAll_nil r2
  obtain rfl : args = #[v0, v1, v2] := by cases args; simp_all
  obtain ⟨rfl, rfl⟩ := trodVars_none hV
  have lt0 : ∀ x ∈ p0, x.block < W.heap.size := by obtain ⟨m, hm⟩ := h0; exact DataW.trod_lt m _ _ _ hm
  have lt1 : ∀ x ∈ p1, x.block < W.heap.size := by obtain ⟨m, hm⟩ := h1; exact DataW.trod_lt m _ _ _ hm
  have lt2 : ∀ x ∈ p2, x.block < W.heap.size := by obtain ⟨m, hm⟩ := h2; exact DataW.trod_lt m _ _ _ hm
  obtain ⟨cs0, rfl, _, _⟩ : ∃ cs, v0 = .agg cs ∧ cs.size = Try.prog.cellsOf 43 ∧ Row.okWide Try.prog W .any base 43 cs := by
    have := hval 0 43 v0 rfl rfl
    simpa [Value.okWide, Try.underlying43] using this
  obtain ⟨u0, u1, hcs0, y0, y1⟩ : ∃ u0 u1, cs0.toList = [u0, u1] ∧ leafIn (.int .u8) u0 ∧ leafIn (.int .u8) u1 := by
    obtain ⟨m, hm⟩ := h0
    exact Go.Mini.leaves2 (leavesA_in 5 43 [.int .u8, .int .u8] m cs0.toList _ (by kernel_rfl) (by kernel_rfl) hm)
  obtain ⟨q, rfl, bq⟩ := leaf_u8 y0
  obtain ⟨q, rfl⟩ := Int.eq_ofNat_of_zero_le bq.1
  obtain ⟨g, rfl, bg⟩ := leaf_u8 y1
  obtain ⟨g, rfl⟩ := Int.eq_ofNat_of_zero_le bg.1
  obtain rfl : cs0 = #[.int .u8 q, .int .u8 g] := by apply Array.ext'; simpa using hcs0
  obtain ⟨s0, s1, D0, P0, D1, P1, rfl, ok0, ok1, tr0, tr1⟩ := open_two Try.underlying44 Try.underlying22 (by kernel_rfl) (by kernel_rfl) (by kernel_rfl) (hval 1 44 v1 rfl rfl) h1
  obtain ⟨S, rfl⟩ := okWide_string Try.underlying9 (hval 2 9 v2 rfl rfl)
  obtain ⟨A0, rows0, okA0, b0, c0, f0⟩ := open_sl (d := 2) (ls := [.int .u8, .str]) Try.underlying22 (by kernel_rfl) (by kernel_rfl) (by decide) ok0 tr0
  obtain ⟨A1, rows1, okA1, b1, c1, f1⟩ := open_sl (d := 2) (ls := [.int .u8, .str]) Try.underlying22 (by kernel_rfl) (by kernel_rfl) (by decide) ok1 tr1
  obtain ⟨l0, l10, l20, lok0⟩ := acts_of rows0 b0
  obtain ⟨l1, l11, l21, lok1⟩ := acts_of rows1 b1
  obtain ⟨w0, e10, e20, lin0⟩ := f0 [A0, A1] 0 rfl
  obtain ⟨w1, e11, e21, lin1⟩ := f1 [A0, A1] 1 rfl
  rw [l10, ← l20] at lin0
  rw [l11, ← l21] at lin1
  have walk := law_of (P := Try.prog) (f := 5) (args := [.agg #[.int .u8 q, .int .u8 g], .agg #[w0, w1], .string S]) (l := [A0, A1]) (W := W) (by simpa using ⟨okA0, okA1⟩) (by simp [vtop, vtopL]; omega) (queueBack_call (by omega) (by omega) lok0 lok1 (lt63 l20 c0) (lt63 l21 c1) lin0 lin1 rfl)
  simp only [List.map_cons, List.map_nil, rl, rlL, e10, e11] at walk
  clear hA0 hval0
  refine walk.mono fun e W' ⟨he, bel⟩ => ?_
  subst he
  exact ⟨_, rfl, _, _, _, [], _, [], hW', trodAll_mk1 (shut_bool Try.underlying4 _), (trodAll_cons_mk (Below.trod laidOut (by kernel_rfl) (of_decide_eq_true (by kernel_rfl)) h0 bel lt0) (trodAll_cons_mk (Below.trod laidOut (by kernel_rfl) (of_decide_eq_true (by kernel_rfl)) h1 bel lt1) (trodAll_cons_mk (Below.trod laidOut (by kernel_rfl) (of_decide_eq_true (by kernel_rfl)) h2 bel lt2) trodAll_mk0))), rfl, bel.frame _, fun h => by cases h⟩

theorem queueBack_over : Rows.queueBackRow.holds Try.pinned (OpenSpec.ofChange Rows.queueBackSpec) :=
  OpenClaim.holds_of_wide 5 Try.f5 rfl rfl rfl rfl rfl rfl rfl ⟨rfl, rfl, rfl, rfl, rfl⟩ rfl rfl rfl rfl rfl (by kernel_rfl) Try.func5 (by kernel_rfl)
    (of_decide_eq_true (by kernel_rfl)) (by unfold Func.isWrapper; first | (rw [if_pos (by decide +kernel)]; kernel_rfl) | (rw [if_neg (by decide +kernel)]; exact ⟨rfl, rfl⟩))
    (fun os started H enc _ => queueBack_lifted os started H enc)

theorem queueBack_holds : Rows.QueueBackSaid := queueBack_over

end Go.Proofs.Ytggohjlfhomafaa
