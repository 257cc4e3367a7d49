/-
  ConfigBack: the walk.
-/
import Derived.Test.YtmnemfeofhinaaaDoorP5
set_option linter.unusedSimpArgs false
set_option linter.unusedVariables false
set_option linter.unusedSectionVars false
namespace Go.Proofs.YtmnemfeofhinaaaDoor
set_option maxRecDepth 100000
open Go Go.Mini Go.Proofs.Tryd

section
variable {h : Hp} {K : Value → Hp → Prop}
set_option maxHeartbeats 8000000 in
/-- Behind the first half: what is parsed, Build gives the same bytes of. -/
theorem back_tail {S : List UInt8} {h0 hh : Hp} {t : Tm} (hS : S.length ≤ 3000) (E : Ext h0 hh) (hE : HasErr h0) (h100 : 100 < h0.next) (t1 : t 1 = .string (txt S)) (hK : ∀ h', K (.bool true) h') :
    vcF prog f6.ntmps tb0 (sndC (sndC (sndC (sndC (bodyC f6))))) (FnQ prog f6.results.toList h0 K) t hh (.mk _) := by
  have e0 : (sndC (sndC (sndC (sndC (bodyC f6))))) = (sndC (sndC (sndC (sndC (bodyC f6))))) := rfl
  conv at e0 => rhs; whnf
  rw [e0]
  clear e0
  simp -dsimp (disch := omega) [t1]
  refine parse_call (by omega) fun h1 v L vg vw vc x1 he hc hL => ?_
  obtain ⟨ag, cg, e1⟩ := hc.v.g.slice
  obtain ⟨aw, cw, e2⟩ := hc.v.w.slice
  obtain ⟨ac, cc, e3⟩ := hc.v.c.sl.slice
  subst e1 e2 e3
  have E1 := E.trans x1
  cases hp : prF S with
  | some z =>
    rw [hp] at he hc hL
    obtain ⟨f, a, n⟩ := z
    obtain ⟨p, rfl, _, _⟩ := he
    have hg0 : (orN (some (f, a, n)) (prG S).1).length = 0 := rfl
    simp -dsimp (disch := omega) [t1, hg0]
    refine awake_call (hE.ext (E1.then_alloc _) h100) (Nat.lt_of_lt_of_le h100 (E1.then_alloc _).le) ?_
    simp -dsimp (disch := omega)
    exact RetF.all (by simp) (hK _)
  | none =>
    have hd := pr_none hp
    rw [hp] at he hc hL
    obtain rfl : v = .nilIface := he
    obtain ⟨gs, hgs⟩ : ∃ gs, gs = (prG S).1 := ⟨_, rfl⟩
    obtain ⟨ws, hws⟩ : ∃ ws, ws = (prW S).1 := ⟨_, rfl⟩
    rw [show orN (none : Option Flt) (prG S).1 = gs from hgs.symm, show orN (none : Option Flt) (prW S).1 = ws from hws.symm] at hc
    rw [show orN (none : Option Flt) (prC S).1 = (prC S).1 from rfl] at hL
    rw [← hgs, ← hws, ← hL] at hd
    rw [show orN (none : Option Flt) (prG S).1 = gs from hgs.symm, show orN (none : Option Flt) (prW S).1 = ws from hws.symm]
    obtain ⟨i1, i2, i3, i4, i5, i6, i7, i8⟩ := docP_inv hd
    have hco := chkC_none i2
    have hw0 := checkW_zero hco.w0
    have hg16 := hco.g16
    obtain ⟨H, hH⟩ : ∃ H, H = h1.alloc ⟨#[.slice ag gs.length cg, .slice aw ws.length cw, .slice ac L.length cc], 1, true⟩ := ⟨_, rfl⟩
    have xH : Ext h1 H := by rw [hH]; exact Ext.alloc _ _
    have Hn : H.next = h1.next + 1 := by rw [hH]; simp
    have BH : H.blks h1.next = some ⟨#[.slice ag gs.length cg, .slice aw ws.length cw, .slice ac L.length cc], 1, true⟩ := by rw [hH]; exact blks_alloc_eq _ _
    simp -dsimp (disch := omega) [t1]
    rw [← hH]
    have cH := hc.ext xH
    refine build_call cH.v fun h2 v2 x2 he2 => ?_
    rw [i2] at he2
    obtain rfl : v2 = .nilIface := he2
    rw [show bldO gs ws (L.map (·.1)) = S by unfold bldO; rw [if_pos i2, ← i1]]
    have B2 := (x2.same h1.next (by omega)).trans BH
    have c2 := cH.ext x2
    have x2n := x2.le
    simp -dsimp (disch := omega) [B2, t1]
    refine new_call c2.v.wok c2.v.w c2.v.lw (fun h => absurd hco.w0 h) (fun _ hl32 h3 p x3 hp3 q3 => ?_)
    have c3 := c2.ext x3
    have B3 := (x3.same h1.next (by omega)).trans B2
    have x3n := x3.le
    simp -dsimp (disch := omega) [t1, B3]
    refine check_call' c3.v fun h4 v4 x4 he4 => ?_
    rw [i2] at he4
    obtain rfl : v4 = .nilIface := he4
    have B4 := (x4.same h1.next (by omega)).trans B3
    have q4 := q3.mono x4
    have x4n := x4.le
    have E4 := (((E1.trans xH).trans x2).trans x3).trans x4
    have hsum : sumS ws < 18446744073709551616 := by have := sumS_bound c2.v.wok; omega
    simp -dsimp (disch := omega) [t1, B4]
    refine awp_loop (fun t h' => h' = h4 ∧ ∃ k : Nat, k ≤ gs.length ∧ t 11 = ptr h1.next ∧ t 15 = ptr p ∧ t 17 = .int .i64 k) (fun t _ => gs.length - ivN (t 17)) ?_ ?_
    · simp -dsimp (disch := omega)
      exact ⟨0, by omega, rfl⟩
    · rintro t' hx ⟨hx4, k, hk, g11, g15, g17⟩
      subst hx
      refine vcF_sound (tb := tb0) mixed _ (by kernel_rfl) ?_
      simp -dsimp (disch := omega) [g11, g17, B4]
      refine CondF_dec (fun hc => ?_) (fun hc => ?_)
      · have ha := ahead_pos hw0.2.1 (hw0.2.2 k hc)
        simp -dsimp (disch := omega) [g15, g17]
        refine budget_call q4 c2.v.wok hw0.1 hl32 hsum ?_
        obtain ⟨A, hA⟩ : ∃ A, A = aheadF ws k (sumS ws) := ⟨_, rfl⟩
        rw [← hA] at ha ⊢
        have ha1 : ¬ (A : Int) < 1 := by omega
        have ha2 : ¬ A < 1 := by omega
        have ha3 : ¬ A = 0 := by omega
        simp -dsimp (disch := omega) [g11, g15, g17, ha1, ha2, ha3]
        exact ⟨⟨k + 1, by omega, by omega⟩, by simp [ivN, g17]; omega⟩
      · simp -dsimp (disch := omega)
        refine awake_call (hE.ext E4 h100) (Nat.lt_of_lt_of_le h100 E4.le) ?_
        simp -dsimp (disch := omega)
        exact RetF.all (by simp) (hK _)
set_option maxHeartbeats 8000000 in
theorem configBack_call {gs : List Gu} {ws : List Win} {L : List (Ch × Value)} {vg vw vc : Value} {S : List UInt8} {a : Nat} (hv : CfT h gs ws L vg vw vc) (hE : HasErr h) (h100 : 100 < h.next) (hS : S.length < 9223372036854775808) (ha : a < 65536) (hK : ∀ h', K (.bool true) h') : ACall prog 6 [.agg #[vg, vw, vc], .string (txt S), .int .u16 a] h K := by
  refine acallF_of tb0 func6 rfl rfl mixed (by kernel_rfl) fun hwf => ?_
  obtain ⟨RR, hR1⟩ : ∃ RR, RR = (sndC (sndC (sndC (sndC (bodyC f6))))) := ⟨_, rfl⟩
  have hR2 := hR1
  conv at hR2 => rhs; whnf
  rw [← hR2]
  clear hR2
  have hsz : (txt S).size = S.length := rfl
  obtain ⟨ag, cg, e1⟩ := hv.v.g.slice
  obtain ⟨aw, cw, e2⟩ := hv.v.w.slice
  obtain ⟨ac, cc, e3⟩ := hv.v.c.sl.slice
  subst e1 e2 e3
  obtain ⟨cs, hcs⟩ : ∃ cs, cs = L.map (·.1) := ⟨_, rfl⟩
  obtain ⟨o, ho⟩ : ∃ o, o = chkC gs ws cs := ⟨_, rfl⟩
  obtain ⟨H, hH⟩ : ∃ H, H = h.alloc ⟨#[.slice ag gs.length cg, .slice aw ws.length cw, .slice ac L.length cc], 1, true⟩ := ⟨_, rfl⟩
  have xH : Ext h H := by rw [hH]; exact Ext.alloc _ _
  have Hn : H.next = h.next + 1 := by rw [hH]; simp
  have BH : H.blks h.next = some ⟨#[.slice ag gs.length cg, .slice aw ws.length cw, .slice ac L.length cc], 1, true⟩ := by rw [hH]; exact blks_alloc_eq _ _
  simp -dsimp (disch := omega)
  rw [← hH]
  refine few_call (hv.ext xH).v ?_
  cases hf : fewL gs ws (L.map (·.1)) with
  | false =>
    simp -dsimp (disch := omega)
    refine awake_call (hE.ext xH h100) (by omega) ?_
    simp -dsimp (disch := omega)
    exact RetF.all (by simp) (hK _)
  | true =>
    by_cases c : 3000 < S.length
    · have c' : (3000 : Int) < S.length := by omega
      simp -dsimp (disch := omega) [hsz, c']
      refine awake_call (hE.ext xH h100) (by omega) ?_
      simp -dsimp (disch := omega)
      exact RetF.all (by simp) (hK _)
    have c' : ¬ (3000 : Int) < S.length := by omega
    simp -dsimp (disch := omega) [hsz, c', BH]
    refine build_call (hv.ext xH).v fun h2 v2 x2 he2 => ?_
    rw [← hcs, ← ho] at he2
    rw [← hcs]
    have B2 := (x2.same h.next (by omega)).trans BH
    have x02 := xH.trans x2
    have x02n := x02.le
    have x2n := x2.le
    obtain ⟨B, hB⟩ : ∃ B, B = bldO gs ws cs := ⟨_, rfl⟩
    rw [← hB]
    cases o with
    | some z =>
      obtain ⟨f, at_, n⟩ := z
      obtain ⟨p, rfl, _, _⟩ := he2
      simp -dsimp (disch := omega)
      rw [hR1]
      exact back_tail (S := S) (by omega) x02 hE h100 (by simp -dsimp (disch := omega)) hK
    | none =>
      obtain rfl : v2 = .nilIface := he2
      have hBB : B = bldB gs ws cs := by rw [hB]; unfold bldO; rw [← ho, if_pos rfl]
      have hco := chkC_none ho.symm
      have hbl := bld_len hco hv.v.gok
      have hokc : ∀ x ∈ cs, x.ok := fun x hx => by
        rw [hcs] at hx
        obtain ⟨y, hy, rfl⟩ := List.mem_map.1 hx
        exact (hv.v.c.ok y hy).1
      have hd := bldB_parses ho.symm hv.v.gok hv.v.wok hokc
      rw [← hBB] at hbl hd
      obtain ⟨p1, p2, p3, p4⟩ := pr_good hd
      simp -dsimp (disch := omega)
      refine parse_call (by omega) fun h3 v3 L3 wg ww wc x3 he3 hc3 hL3 => ?_
      rw [p1] at he3 hc3 hL3
      obtain rfl : v3 = .nilIface := he3
      rw [show orN (none : Option Flt) (prG B).1 = gs from p2, show orN (none : Option Flt) (prW B).1 = ws from p3] at hc3
      rw [show orN (none : Option Flt) (prC B).1 = cs from p4, hcs] at hL3
      obtain ⟨ag', cg', e1⟩ := hc3.v.g.slice
      obtain ⟨aw', cw', e2⟩ := hc3.v.w.slice
      obtain ⟨ac', cc', e3⟩ := hc3.v.c.sl.slice
      subst e1 e2 e3
      have B3 := (x3.same h.next (by omega)).trans B2
      have x3n := x3.le
      have x03 := x02.trans x3
      obtain ⟨N, hN⟩ : ∃ N, N = B.length := ⟨_, rfl⟩
      have hszB : (txt B).size = N := by rw [hN]; rfl
      have hNi : ¬ (N : Int) = 0 := by omega
      have hNn : ¬ N = 0 := by omega
      obtain ⟨i, hi⟩ : ∃ i, i = a % N := ⟨_, rfl⟩
      have hi1 : i < N := by rw [hi]; exact Nat.mod_lt _ (by omega)
      have hi2 : (a : Int) % N = i := by rw [hi]; omega
      have x1 : (txt B).extract 0 i = txt (B.take i) := by rw [ext_txt]; rfl
      have n37 : ¬ (N : Int) < 37 := by omega
      have n37' : ¬ N < 37 := by omega
      have nn : ¬ h.next = h3.next := by omega
      simp -dsimp (disch := omega) [B3, nn]
      refine same_call (((hv.ext x02).ext x3).ext (Ext.alloc _ _)).v (hc3.ext (Ext.alloc _ _)).v hL3.symm ?_
      simp -dsimp (disch := first | omega | (simp; omega)) [hszB, hNi, hNn, hi2, x1, n37, n37']
      obtain ⟨z, hz1, hz2⟩ := docP_cut hd (k := i) (by omega)
      have hz := pr_bad hz1
      obtain ⟨f, at_, n⟩ := z
      simp only at hz2
      subst hz2
      refine parses_call (by rw [List.length_take]; omega) fun h4 v4 x4 he4 => ?_
      rw [hz] at he4
      have he4' : IsEr h4 (.flt f at_ 4) v4 := he4
      have x04 := x03.trans ((Ext.alloc _ _).trans x4)
      simp -dsimp (disch := omega)
      refine code_call he4' (hE.ext x04 h100) (Nat.lt_of_lt_of_le h100 x04.le) ?_
      simp -dsimp (disch := omega) [Er.code]
      rw [hR1]
      exact back_tail (S := S) (by omega) x04 hE h100 (by simp -dsimp (disch := omega)) hK
end
end Go.Proofs.YtmnemfeofhinaaaDoor
