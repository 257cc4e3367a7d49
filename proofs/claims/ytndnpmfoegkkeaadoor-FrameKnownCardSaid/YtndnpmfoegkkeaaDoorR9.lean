/-
  FrameKnown's body.
-/
import Derived.Test.YtndnpmfoegkkeaaDoorR8
set_option linter.unusedSimpArgs false
set_option linter.unusedVariables false
set_option linter.unusedSectionVars false
namespace Go.Proofs.YtndnpmfoegkkeaaDoor
open Go Go.Mini Go.Proofs.Tryd
set_option maxRecDepth 100000

section
variable {h : Hp} {K : Value → Hp → Prop}
set_option maxHeartbeats 4000000 in
theorem frameKnown_call (ht : PowAt h) (hK : ∀ h', K (.bool true) h') : ACall prog 4 [] h K := by
  refine acallF_of tb0 func4 rfl rfl mixed (by kernel_rfl) fun hwf => ?_
  have h100 : 100 < h.next := hwf.lt _ _ ht
  simp -dsimp (disch := omega)
  refine given_call ?_
  simp -dsimp (disch := omega)
  have hc : checkW wins 2 = 0 := by decide
  refine new_call (l := wins) wins_ok ⟨rfl, .inr ⟨_, _, _, rfl, blks_alloc_eq _ _, by simp [wins], fun j _ => by simp [wins, winsC, winC]⟩⟩ (by decide) (fun e => absurd hc e) (fun _ _ H p e1 hp q => ?_)
  have hsame : ∀ i, i < h.next → H.blks i = h.blks i := fun i hi => by rw [e1.same i (by simp; omega)]; exact blks_alloc_ne _ _ _ (by omega)
  have pw : PowAt H := by unfold PowAt; rw [hsame _ h100]; exact ht
  simp -dsimp (disch := omega)
  dsimp only [List.append]
  simp -dsimp (disch := omega)
  refine awake_call ?_
  simp -dsimp (disch := omega)
  refine budW_call (g := 1) (n := 1) q (by decide) ?_
  simp -dsimp (disch := omega)
  refine budW_call (g := 255) (n := 1) q (by decide) ?_
  simp -dsimp (disch := omega)
  refine budW_call (g := 7) (n := 0) q (by decide) ?_
  simp -dsimp (disch := omega)
  refine ownW_call (x := 0) (g := 0) q (by omega) (by decide) ?_
  simp -dsimp (disch := omega)
  refine ownW_call (x := 4) (g := 0) q (by omega) (by decide) ?_
  simp -dsimp (disch := omega)
  refine ownW_call (x := 5) (g := 0) q (by omega) (by decide) ?_
  simp -dsimp (disch := omega)
  refine ownW_call (x := 1000000002) (g := 1) q (by omega) (by decide) ?_
  simp -dsimp (disch := omega)
  refine ownedW_call (g := 0) (x := 5) (n := 3) q (by omega) (by decide) ?_
  simp -dsimp (disch := omega)
  refine ownedW_call (g := 1) (x := 3) (n := 1) q (by omega) (by decide) ?_
  simp -dsimp (disch := omega)
  refine lawNext_call (g := 0) (step := 2) (want := 4) q (by omega) (fun R hR => (next_is (b0 := 2) hR (by decide) (by decide) (by decide)).trans (by decide)) ?_
  simp -dsimp (disch := omega)
  refine lawNext_call (g := 0) (step := 1) (want := 1) q (by omega) (fun R hR => (next_is (b0 := 0) hR (by decide) (by decide) (by decide)).trans (by decide)) ?_
  simp -dsimp (disch := omega)
  refine lawNext_call (g := 0) (step := 0) (want := 0) q (by omega) (fun R hR => (next_is (b0 := 0) hR (by decide) (by decide) (by decide)).trans (by decide)) ?_
  simp -dsimp (disch := omega)
  refine textW_call q pw ?_
  simp -dsimp (disch := omega)
  refine nextW_call (g := 2) (step := 0) (R := (0, false)) q (by omega) (fun R hR => next_no2 hR) ?_
  simp -dsimp (disch := omega)
  refine nextW_call (g := 1) (step := 18446744073709551615) (R := (0, false)) q (by omega) (fun R hR => (next_is (b0 := 2) hR (by decide) (by decide) (by decide)).trans (by decide)) ?_
  simp -dsimp (disch := omega)
  refine given_call ?_
  simp -dsimp (disch := omega)
  refine next_no (g := 0) (x := 0) (.inl rfl) ?_
  simp -dsimp (disch := omega)
  refine ACallF.gen fun Z hZ => ?_
  try rw [← hZ]
  have zn : Z.next = H.next + 3 := by rw [hZ]; simp
  have zb : Z.blks H.next = some ⟨#[.int .u8 0, .int .u16 2, .int .u8 1, .int .u16 0, .int .u8 255, .int .u16 1, .int .u8 0, .int .u16 1], 2, true⟩ := by rw [hZ]; simp (disch := omega)
  have zl : Z.blks (H.next + 1) = some ⟨#[.int .u8 0, .int .u16 1000, .int .u8 0, .int .u16 25], 2, true⟩ := by rw [hZ]; simp (disch := omega)
  have zz : Z.blks (H.next + 2) = some ⟨#[.slice none 0 0, .slice none 0 0], 1, true⟩ := by rw [hZ]; simp (disch := omega)
  have eZ : Ext H Z := by rw [hZ]; exact ((Ext.alloc _ _).then_alloc _).then_alloc _
  have qz := q.mono eZ
  clear hZ
  refine ownW_call (x := 18446744073709551615) (g := 0) qz (by omega) (by decide) ?_
  simp -dsimp (disch := omega)
  refine given_call ?_
  simp -dsimp (disch := omega)
  refine chkG (g := 3) (c := 11) (blks_alloc_eq _ _) (by decide) ?_
  simp -dsimp (disch := omega)
  refine given_call ?_
  simp -dsimp (disch := omega)
  refine chkG (g := 1) (c := 6) (by exact blks_alloc_eq _ _) (by decide) ?_
  simp -dsimp (disch := omega)
  refine given_call ?_
  simp -dsimp (disch := omega)
  refine chkG (g := 0) (c := 2) (by exact blks_alloc_eq _ _) (by decide) ?_
  simp -dsimp (disch := omega)
  refine given_call ?_
  simp -dsimp (disch := omega)
  refine chkG (g := 17) (c := 2) (by exact blks_alloc_eq _ _) (by decide) ?_
  simp -dsimp (disch := omega)
  refine ACallF.gen fun Y hY => ?_
  try rw [← hY]
  have yn : Y.next = H.next + 7 := by rw [hY]; simp [zn]
  have eY : Ext Z Y := by rw [hY]; exact (((Ext.alloc _ _).then_alloc _).then_alloc _).then_alloc _
  have yb := (eY.same H.next (by omega)).trans zb
  have yl := (eY.same (H.next + 1) (by omega)).trans zl
  have yz := (eY.same (H.next + 2) (by omega)).trans zz
  clear hY
  refine chkNil ?_
  simp -dsimp (disch := omega)
  refine chkBad yb ?_
  simp -dsimp (disch := omega)
  refine chkLong yl ?_
  simp -dsimp (disch := omega)
  refine mk_row (n := 33) rfl rfl ⟨by decide, by decide⟩ ?_
  simp -dsimp (disch := omega)
  refine ACallF.gen fun X hX => ?_
  try rw [← hX]
  have xn : X.next = H.next + 8 := by rw [hX]; simp [yn]
  have eX : Ext Y X := by rw [hX]; exact Ext.alloc _ _
  have xz := (eX.same (H.next + 2) (by omega)).trans yz
  have xm : X.blks Y.next = some ⟨zeroRow #[.int .u8 0, .int .u16 0] 66, 2, true⟩ := by rw [hX]; exact blks_alloc_eq _ _
  have nz : NoT X (ptr (H.next + 2)) := .inr ⟨_, rfl, by omega, xz⟩
  clear hX
  refine chkMany xm ?_
  simp -dsimp (disch := omega)
  refine length_no (.inl rfl) ?_
  simp -dsimp (disch := omega)
  refine owner_no (x := 3) nz ?_
  simp -dsimp (disch := omega)
  refine budget_no (g := 0) (.inl rfl) ?_
  simp -dsimp (disch := omega)
  refine owned_no (g := 0) (x := 9) nz ?_
  simp -dsimp (disch := omega)
  refine text_no nz ?_
  simp -dsimp (disch := omega)
  refine awake_call ?_
  simp -dsimp (disch := omega)
  exact RetF.all (r := .bool true) (by simp) (hK _)
end
end Go.Proofs.YtndnpmfoegkkeaaDoor
