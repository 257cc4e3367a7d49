/-
  ConfigParses: the walk.
-/
import Derived.Test.YtmnemfeofhinaaaDoorLA
set_option linter.unusedSimpArgs false
set_option linter.unusedVariables false
set_option linter.unusedSectionVars false
namespace Go.Proofs.YtmnemfeofhinaaaDoor
set_option maxRecDepth 100000
open Go Go.Mini Go.Proofs.Tryd
section
variable {h : Hp} {K : Value → Hp → Prop}
set_option maxHeartbeats 4000000 in
theorem configParses_call {S : List UInt8} (hE : HasErr h) (h100 : 100 < h.next) (hS : S.length < 9223372036854775808) (hK : ∀ h', K (.bool true) h') : ACall prog 3 [.string (txt S)] h K := by
  refine acallF_of tb0 func3 rfl rfl mixed (by kernel_rfl) fun hwf => ?_
  have hsz : (txt S).size = S.length := txt_size S
  by_cases c : 3000 < S.length
  · have c' : (3000 : Int) < S.length := by omega
    simp -dsimp (disch := omega) [hsz, c']
    refine awake_call hE h100 ?_
    simp -dsimp (disch := omega)
    exact RetF.all (by simp) (hK _)
  have c' : ¬ (3000 : Int) < S.length := by omega
  simp -dsimp (disch := omega) [hsz, c']
  refine parse_call (by omega) fun h1 v L vg vw vc x1 he hc hL => ?_
  obtain ⟨ag, cg, e1⟩ := hc.v.g.slice
  obtain ⟨aw, cw, e2⟩ := hc.v.w.slice
  obtain ⟨ac, cc, e3⟩ := hc.v.c.sl.slice
  subst e1 e2 e3
  simp -dsimp (disch := omega)
  obtain ⟨H, hH⟩ : ∃ H, H = h1.alloc ⟨#[.slice ag (orN (prF S) (prG S).1).length cg, .slice aw (orN (prF S) (prW S).1).length cw, .slice ac L.length cc], 1, true⟩ := ⟨_, rfl⟩
  rw [← hH]
  have xH : Ext h1 H := by rw [hH]; exact Ext.alloc _ _
  have Hn : H.next = h1.next + 1 := by rw [hH]; simp
  have BH : H.blks h1.next = some ⟨#[.slice ag (orN (prF S) (prG S).1).length cg, .slice aw (orN (prF S) (prW S).1).length cw, .slice ac L.length cc], 1, true⟩ := by rw [hH]; exact blks_alloc_eq _ _
  refine refParse_call (by omega) fun h2 L' wg ww wc x2 hc' hL' => ?_
  have xx : Ext h H := x1.trans xH
  have En := x2.le
  cases hp : prF S with
  | none =>
    rw [hp] at he hc hL hc' hL' BH
    obtain ⟨ag', cg', e1⟩ := hc'.v.g.slice
    obtain ⟨aw', cw', e2⟩ := hc'.v.w.slice
    obtain ⟨ac', cc', e3⟩ := hc'.v.c.sl.slice
    subst e1 e2 e3
    obtain rfl : v = .nilIface := he
    have B2 := (x2.same h1.next (by omega)).trans BH
    simp -dsimp (disch := omega) [toldV, goodV]
    refine tells_call (o := none) (vg := .slice ag' (orN none (prG S).1).length cg') (vw := .slice aw' (orN none (prW S).1).length cw') (vc := .slice ac' L'.length cc') rfl rfl rfl rfl (hE.ext (xx.trans (x2.then_alloc _)) h100) (Nat.lt_of_lt_of_le h100 (xx.trans (x2.then_alloc _)).le) (fun z hz => by cases hz) ?_
    have n1 : ¬ h1.next = h2.next := by omega
    simp -dsimp (disch := omega) [B2, n1]
    refine same_call ((hc.ext xH).ext (x2.then_alloc _)).v (hc'.ext (Ext.alloc _ _)).v (hL.trans hL'.symm) ?_
    simp -dsimp (disch := omega)
    refine awake_call (hE.ext (xx.trans (x2.then_alloc _)) h100) (Nat.lt_of_lt_of_le h100 (xx.trans (x2.then_alloc _)).le) ?_
    simp -dsimp (disch := omega)
    exact RetF.all (by simp) (hK _)
  | some z =>
    rw [hp] at he hc hL hc' hL' BH
    obtain ⟨f, a, n⟩ := z
    have hL0 : L.map (·.1) = ([] : List Ch) := hL
    have B2 := (x2.same h1.next (by omega)).trans BH
    have hz := prF_fltOk hp
    have he2 := (he.ext xH).ext (x2.then_alloc ⟨#[.string f, .int .i64 a, .int .i64 n, .slice none 0 0, .slice none 0 0, .slice none 0 0], 1, true⟩)
    simp -dsimp (disch := omega) [toldV, badV]
    refine tells_call (o := some (f, a, n)) (vg := .slice none 0 0) (vw := .slice none 0 0) (vc := .slice none 0 0) rfl rfl rfl he2 (hE.ext (xx.trans (x2.then_alloc _)) h100) (Nat.lt_of_lt_of_le h100 (xx.trans (x2.then_alloc _)).le) (fun z hz' => by cases hz'; exact hz.2.2) ?_
    have n1 : ¬ h1.next = h2.next := by omega
    simp -dsimp (disch := omega) [B2, n1]
    refine same_call (L' := []) ((hc.ext xH).ext (x2.then_alloc _)).v (CfT.nil _).v hL0 ?_
    simp -dsimp (disch := omega)
    refine awake_call (hE.ext (xx.trans (x2.then_alloc _)) h100) (Nat.lt_of_lt_of_le h100 (xx.trans (x2.then_alloc _)).le) ?_
    simp -dsimp (disch := omega)
    exact RetF.all (by simp) (hK _)
end
end Go.Proofs.YtmnemfeofhinaaaDoor
