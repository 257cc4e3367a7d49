/-
  Sources do not touch one another; registers that are written are read as what is kept of them: for every input; the tables of the library are what the program's text lays.
-/
import Derived.Test.YtfdhahnnhaeibaaDoorQ13
import Derived.Test.YtfdhahnnhaeibaaDoorWD
set_option linter.unusedSimpArgs false
set_option linter.unusedVariables false
set_option linter.unusedSectionVars false
namespace Go.Proofs.YtfdhahnnhaeibaaDoor
open Go Go.Mini Go.Proofs.Tryd
open Go.ChangeShapes Go.WideShapes Go.ChangeAt Go.RowKit
open Go.ChangeMaps (open_string shut_string)

set_option maxRecDepth 100000 in
set_option maxHeartbeats 1000000 in
theorem plicApart_lifted (os : Os) (started : os.Started) (H : Type) (enc : TypeId × Value → H) :
    ReturnsInHanded {} Tryd.checked os 4 .any (fun w args => (Rows.plicApartSpec.pre enc Tryd.prog Tryd.f4 [] false w args ∧ laidMetH Tryd.prog laidL w) ∧ sizedMet enc Tryd.prog Tryd.f4 (OpenSpec.ofChange Rows.plicApartSpec) false w args)
      (Rows.plicApartSpec.post enc Tryd.prog Tryd.f4 false true false false) := by
  refine returnsInHanded_of_change_and (C := Tryd.checked) (X := fun w _ => laidMetH Tryd.prog laidL w) (fun _ _ _ hh h => h.of_heap hh) own started (by kernel_rfl) Tryd.func4
    (ChangeSpec.witness_shaped (enc := enc) (C := Tryd.checked) (os := os) (X := fun w _ => laidMetH Tryd.prog laidL w) false (World.doorLaid Tryd.prog 400 os) #[.slice none 0 0, .agg #[.int .u8 0, .int .i64 0, .bool false, .int .u64 0, .int .u64 0, .int .i64 0], .int .u8 0] 8 rfl (World.shaped_of_RefB (by kernel_rfl) (by kernel_rfl)) (by kernel_rfl) (by kernel_rfl) (by kernel_rfl) (door_met os _)) ?_
  intro W base args ds gs before hval0 hW _ _ hL _
  have hval : ∀ (j : Nat) t v, Tryd.f4.params[j]? = some t → args[j]? = some v → Value.okWide Tryd.prog W .any base t v := hval0
  have hW' := hW
  obtain ⟨p, q, hA0, hV, rfl, hfz, hnd⟩ := hW
  have hA : DataW.TrodAll enc Tryd.prog W 0 (fun _ => true) true Tryd.f4.params.toList args.toList ds p := hA0
  rw [Tryd.params4] at hA hval
  obtain ⟨v0, vs0, d0, ds0, p0, q0, hargs, rfl, rfl, h0, r0⟩ := trodAll_cons hA
  obtain ⟨v1, vs1, d1, ds1, p1, q1, rfl, rfl, rfl, h1, r1⟩ := trodAll_cons r0
  obtain ⟨v2, vs2, d2, ds2, p2, q2, rfl, rfl, rfl, h2, r2⟩ := trodAll_cons r1
  obtain ⟨rfl, rfl, rfl⟩ := trodAll_nil r2
  obtain rfl : args = #[v0, v1, v2] := by cases args; simp_all
  obtain ⟨rfl, rfl⟩ := trodVars_none hV
  have lt0 : ∀ x ∈ p0, x.block < W.heap.size := by obtain ⟨m, hm⟩ := h0; exact DataW.trod_lt m _ _ _ hm
  have lt1 : ∀ x ∈ p1, x.block < W.heap.size := by obtain ⟨m, hm⟩ := h1; exact DataW.trod_lt m _ _ _ hm
  have lt2 : ∀ x ∈ p2, x.block < W.heap.size := by obtain ⟨m, hm⟩ := h2; exact DataW.trod_lt m _ _ _ hm
  obtain ⟨A, rows0, okA, b0, c0, f0⟩ := open_sl (d := 5) (ls := [.int .u8, .int .i64, .bool, .int .u64, .int .u64, .int .i64]) Tryd.underlying22 (by kernel_rfl) (by kernel_rfl) (by decide) (hval 0 22 v0 rfl rfl) h0
  obtain ⟨l, l10, l20, lok⟩ := acts_of rows0 b0
  obtain ⟨w0, e10, e20, lin⟩ := f0 [A] 0 rfl
  rw [l10, ← l20] at lin
  obtain ⟨cs1, rfl, _, _⟩ : ∃ cs, v1 = .agg cs ∧ cs.size = Tryd.prog.cellsOf 35 ∧ Row.okWide Tryd.prog W .any base 35 cs := by
    have := hval 1 35 v1 rfl rfl
    simpa [Value.okWide, Tryd.underlying35] using this
  obtain ⟨x1_0, x1_1, x1_2, x1_3, x1_4, x1_5, hcs1, y1_0, y1_1, y1_2, y1_3, y1_4, y1_5⟩ : ∃ u0 u1 u2 u3 u4 u5, cs1.toList = [u0, u1, u2, u3, u4, u5] ∧ leafIn (.int .u8) u0 ∧ leafIn (.int .i64) u1 ∧ leafIn (.bool) u2 ∧ leafIn (.int .u64) u3 ∧ leafIn (.int .u64) u4 ∧ leafIn (.int .i64) u5 := by
    obtain ⟨m, hm⟩ := h1
    exact leaves6 (leaves_in 5 35 [.int .u8, .int .i64, .bool, .int .u64, .int .u64, .int .i64] m cs1.toList _ (by kernel_rfl) (by kernel_rfl) hm)
  obtain ⟨waI, rfl, bdwa⟩ := leaf_u8 y1_0
  obtain ⟨wa, rfl⟩ := Int.eq_ofNat_of_zero_le bdwa.1
  obtain ⟨na, rfl, bdna⟩ := leaf_i64 y1_1
  obtain ⟨xa, rfl⟩ := leaf_bool y1_2
  obtain ⟨oaI, rfl, bdoa⟩ := leaf_u64 y1_3
  obtain ⟨oa, rfl⟩ := Int.eq_ofNat_of_zero_le bdoa.1
  obtain ⟨vaI, rfl, bdva⟩ := leaf_u64 y1_4
  obtain ⟨va, rfl⟩ := Int.eq_ofNat_of_zero_le bdva.1
  obtain ⟨da, rfl, bdda⟩ := leaf_i64 y1_5
  obtain rfl : cs1 = #[.int .u8 wa, .int .i64 na, .bool xa, .int .u64 oa, .int .u64 va, .int .i64 da] := by apply Array.ext'; simpa using hcs1
  obtain ⟨oo1, rfl, rfl, rfl, wfoo⟩ := Go.ChangeShapes.open_int Tryd.underlying5 (hval 2 5 v2 rfl rfl) h2
  obtain ⟨oo2, eqoo, boo⟩ := leaf_u8 (leaf_lit wfoo)
  cases eqoo
  obtain ⟨oo, rfl⟩ := Int.eq_ofNat_of_zero_le boo.1
  have walk := law_of (P := Tryd.prog) (f := 4) (args := [w0, .agg #[.int .u8 wa, .int .i64 na, .bool xa, .int .u64 oa, .int .u64 va, .int .i64 da], .int .u8 oo]) (l := [A]) (W := W) (by simpa using okA) (by simp [vtop, vtopL]; omega) (plicApart_call (a := ⟨wa, na, xa, oa, va, da⟩) lok (lt63 l20 c0) lin ⟨by show wa < _; omega, bdna, by show oa < _; omega, by show va < _; omega, bdda⟩ (by omega) rfl)
  simp only [List.map_cons, List.map_nil, e10, rlL, rl] at walk
  clear hA0 hval0
  refine walk.mono fun e W' ⟨he, bel⟩ => ?_
  subst he
  exact ⟨_, rfl, _, _, _, [], _, [], hW', trodAll_mk1 (shut_bool Tryd.underlying4 _), (trodAll_cons_mk (Below.trod laidOut (by kernel_rfl) (of_decide_eq_true (by kernel_rfl)) h0 bel lt0) (trodAll_cons_mk (Below.trod laidOut (by kernel_rfl) (of_decide_eq_true (by kernel_rfl)) h1 bel lt1) (trodAll_cons_mk (Below.trod laidOut (by kernel_rfl) (of_decide_eq_true (by kernel_rfl)) h2 bel lt2) trodAll_mk0))), rfl, bel.frame _, fun h => by cases h⟩

theorem plicApart_row : Rows.PlicApartSaid :=
  OpenClaim.holds_of_wide 4 Tryd.f4 rfl rfl rfl rfl rfl rfl rfl ⟨rfl, rfl, rfl, rfl, rfl⟩ rfl rfl rfl rfl rfl (by kernel_rfl) Tryd.func4 (by kernel_rfl)
    (of_decide_eq_true (by kernel_rfl)) (by unfold Func.isWrapper; first | (rw [if_pos (by decide +kernel)]; kernel_rfl) | (rw [if_neg (by decide +kernel)]; exact ⟨rfl, rfl⟩))
    (fun os started H enc _ => plicApart_lifted os started H enc)

theorem plicApart_holds : Rows.PlicApartCardSaid :=
  Claim7.holds_tied_plain_at .later [] [.data, .data, .data] true (true, "15c89e3045c32a0f01ce0ff43a91e2c46f462afaa420ae97fd69991b1e485d6b") false
    plicApart_row (fun _ h => by cases h) (by kernel_rfl) (fun _ h => by cases h) plicApart_row_tie rfl ⟨rfl, rfl⟩ (by kernel_rfl) rfl
    (fun f fn hf hfn => by
      obtain rfl : f = 4 := Option.some.inj ((show Tryd.prog.funcNamed "almonry/almonrylaw14.PlicApart" = some 4 by kernel_rfl).symm.trans hf) |>.symm
      obtain rfl : fn = Tryd.f4 := (Option.some.inj (Tryd.func4.symm.trans hfn)).symm
      exact ⟨by kernel_rfl, fun j t ht => by
        rw [Tryd.params4] at ht
        rcases j with _ | _ | _ | j
        · obtain rfl : t = 22 := by simpa using ht.symm
          exact (show Tryd.prog.wantsStandIn 22 = false by kernel_rfl)
        · obtain rfl : t = 35 := by simpa using ht.symm
          exact (show Tryd.prog.wantsStandIn 35 = false by kernel_rfl)
        · obtain rfl : t = 5 := by simpa using ht.symm
          exact (show Tryd.prog.wantsStandIn 5 = false by kernel_rfl)
        · simp at ht⟩)
    (by kernel_rfl)

end Go.Proofs.YtfdhahnnhaeibaaDoor
