/-
  ConfigBuilds: the walk.
-/
import Derived.Test.YtmnemfeofhinaaaDoorLA
set_option linter.unusedSimpArgs false
set_option linter.unusedVariables false
set_option linter.unusedSectionVars false
namespace Go.Proofs.YtmnemfeofhinaaaDoor
set_option maxRecDepth 100000
open Go Go.Mini Go.Proofs.Tryd
def tb5 : Nat → Marks := fun k => if k = 8 then ⟨[1, 2], fun _ => True⟩ else ⟨[], fun _ => True⟩
theorem tb5_8 : tb5 8 = ⟨[1, 2], fun _ => True⟩ := rfl
section
variable {h : Hp} {K : Value → Hp → Prop}
set_option maxHeartbeats 4000000 in
theorem configBuilds_call {gs : List Gu} {ws : List Win} {L : List (Ch × Value)} {vg vw vc : Value} (hv : CfT h gs ws L vg vw vc) (hE : HasErr h) (h100 : 100 < h.next) (hK : ∀ h', K (.bool true) h') : ACall prog 5 [.agg #[vg, vw, vc]] h K := by
  refine acallF_of tb5 func5 rfl rfl mixed (by kernel_rfl) fun hwf => ?_
  obtain ⟨ag, cg, e1⟩ := hv.v.g.slice
  obtain ⟨aw, cw, e2⟩ := hv.v.w.slice
  obtain ⟨ac, cc, e3⟩ := hv.v.c.sl.slice
  subst e1 e2 e3
  obtain ⟨o, ho⟩ : ∃ o, o = chkC gs ws (L.map (·.1)) := ⟨_, rfl⟩
  obtain ⟨H, hH⟩ : ∃ H, H = h.alloc ⟨#[.slice ag gs.length cg, .slice aw ws.length cw, .slice ac L.length cc], 1, true⟩ := ⟨_, rfl⟩
  have xH : Ext h H := by rw [hH]; exact Ext.alloc _ _
  have Hn : H.next = h.next + 1 := by rw [hH]; simp
  have BH : H.blks h.next = some ⟨#[.slice ag gs.length cg, .slice aw ws.length cw, .slice ac L.length cc], 1, true⟩ := by rw [hH]; exact blks_alloc_eq _ _
  simp -dsimp (disch := omega)
  rw [← hH]
  refine few_call (hv.ext xH).v ?_
  cases hf : fewL gs ws (L.map (·.1)) with
  | false =>
    simp -dsimp (disch := omega)
    refine awake_call (hE.ext xH h100) (by omega) ?_
    simp -dsimp (disch := omega)
    exact RetF.all (by simp) (hK _)
  | true =>
    simp -dsimp (disch := omega) [BH]
    refine refCheck28_call (hv.ext xH).v ?_
    rw [← ho]
    have bad : ∀ z, o = some z → FltOk z := fun z hz => chkC_fltOk (ho.symm.trans hz)
    cases o with
    | some z =>
      obtain ⟨f, a, n⟩ := z
      have hz := bad _ rfl
      obtain ⟨bT, hbT⟩ : ∃ b : Blk, b = ⟨#[.string f, .int .i64 a, .int .i64 n, .slice none 0 0, .slice none 0 0, .slice none 0 0], 1, true⟩ := ⟨_, rfl⟩
      have xT : Ext H (H.alloc bT) := Ext.alloc _ _
      have hbl : bldO gs ws (L.map (·.1)) = [] := by unfold bldO; rw [← ho, if_neg (by simp)]
      simp -dsimp (disch := omega) [toldV, badV, BH]
      rw [← hbT]
      refine build_call ((hv.ext xH).ext xT).v fun h2 v2 x2 he2 => ?_
      rw [← ho] at he2
      rw [hbl]
      have B2 : h2.blks H.next = some ⟨#[.string f, .int .i64 a, .int .i64 n, .slice none 0 0, .slice none 0 0, .slice none 0 0], 1, true⟩ := by rw [← hbT]; exact (x2.same _ (by simp)).trans (blks_alloc_eq _ _)
      have B1 : h2.blks h.next = some ⟨#[.slice ag gs.length cg, .slice aw ws.length cw, .slice ac L.length cc], 1, true⟩ := ((xT.trans x2).same _ (by omega)).trans BH
      have hz3 : ¬ n = 0 := hz.2.2
      have x02 := (xH.trans xT).trans x2
      have x02n := x02.le
      have xHn := (xT.trans x2).le
      simp -dsimp (disch := omega) [B1, B2, hz3, tb5_8]
      refine check_call' (((hv.ext xH).ext xT).ext x2).v fun h3 v3 x3 he3 => ?_
      rw [← ho] at he3
      have B3 := (x3.same H.next (by have := x2.le; simp at this; omega)).trans B2
      have x03 := x02.trans x3
      have x03n := x03.le
      simp -dsimp (disch := omega) [B3, tb5_8]
      refine ⟨fun j hj _ => x3.same j hj, ?_⟩
      have hn0 : ∀ z, some (f, a, n) = some z → z.2.2 ≠ 0 := fun z e => by cases e; exact hz3
      refine tells_call (o := some (f, a, n)) (vg := .slice none 0 0) (vw := .slice none 0 0) (vc := .slice none 0 0) rfl rfl rfl he3 (hE.ext x03 h100) (Nat.lt_of_lt_of_le h100 x03n) hn0 ?_
      simp -dsimp (disch := omega) [B3, tb5_8]
      refine tells_call (o := some (f, a, n)) (vg := .slice none 0 0) (vw := .slice none 0 0) (vc := .slice none 0 0) rfl rfl rfl (he2.ext x3) (hE.ext x03 h100) (Nat.lt_of_lt_of_le h100 x03n) hn0 ?_
      simp -dsimp (disch := omega) [tb5_8]
      refine awake_call (hE.ext x03 h100) (Nat.lt_of_lt_of_le h100 x03n) ?_
      simp -dsimp (disch := omega) [tb5_8]
      exact RetF.all (by simp) (hK _)
    | none =>
      obtain ⟨bT, hbT⟩ : ∃ b : Blk, b = ⟨#[.string (txt []), .int .i64 (-1), .int .i64 0, .slice ag gs.length cg, .slice aw ws.length cw, .slice ac L.length cc], 1, true⟩ := ⟨_, rfl⟩
      have xT : Ext H (H.alloc bT) := Ext.alloc _ _
      have hbl : bldO gs ws (L.map (·.1)) = bldB gs ws (L.map (·.1)) := by unfold bldO; rw [← ho, if_pos rfl]
      simp -dsimp (disch := omega) [toldV, goodV, BH]
      rw [← hbT]
      refine build_call ((hv.ext xH).ext xT).v fun h2 v2 x2 he2 => ?_
      rw [← ho] at he2
      rw [hbl]
      have he2' : v2 = .nilIface := he2
      have B2 : h2.blks H.next = some ⟨#[.string (txt []), .int .i64 (-1), .int .i64 0, .slice ag gs.length cg, .slice aw ws.length cw, .slice ac L.length cc], 1, true⟩ := by rw [← hbT]; exact (x2.same _ (by simp)).trans (blks_alloc_eq _ _)
      have B1 : h2.blks h.next = some ⟨#[.slice ag gs.length cg, .slice aw ws.length cw, .slice ac L.length cc], 1, true⟩ := ((xT.trans x2).same _ (by omega)).trans BH
      have x02 := (xH.trans xT).trans x2
      have x02n := x02.le
      have xHn := (xT.trans x2).le
      simp -dsimp (disch := omega) [B1, B2, tb5_8]
      refine refBytes28_call (((hv.ext xH).ext xT).ext x2).v (chkC_none ho.symm) ?_
      simp -dsimp (disch := omega) [B1, B2, tb5_8]
      refine check_call' (((hv.ext xH).ext xT).ext x2).v fun h3 v3 x3 he3 => ?_
      rw [← ho] at he3
      have he3' : v3 = .nilIface := he3
      have B3 := (x3.same H.next (by have := x2.le; simp at this; omega)).trans B2
      have x03 := x02.trans x3
      have x03n := x03.le
      simp -dsimp (disch := omega) [B3, tb5_8]
      refine ⟨fun j hj _ => x3.same j hj, ?_⟩
      have hn0 : ∀ z : Flt, (none : Option Flt) = some z → z.2.2 ≠ 0 := fun z e => by cases e
      refine tells_call (o := none) (vg := .slice ag gs.length cg) (vw := .slice aw ws.length cw) (vc := .slice ac L.length cc) rfl rfl rfl he3 (hE.ext x03 h100) (Nat.lt_of_lt_of_le h100 x03n) hn0 ?_
      simp -dsimp (disch := omega) [B3, tb5_8]
      refine tells_call (o := none) (vg := .slice ag gs.length cg) (vw := .slice aw ws.length cw) (vc := .slice ac L.length cc) rfl rfl rfl (he2.ext x3) (hE.ext x03 h100) (Nat.lt_of_lt_of_le h100 x03n) hn0 ?_
      simp -dsimp (disch := omega) [tb5_8]
      refine awake_call (hE.ext x03 h100) (Nat.lt_of_lt_of_le h100 x03n) ?_
      simp -dsimp (disch := omega) [tb5_8]
      exact RetF.all (by simp) (hK _)
end
end Go.Proofs.YtmnemfeofhinaaaDoor
