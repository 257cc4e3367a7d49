/-
  ConfigSpoilt: the walk.
-/
import Derived.Test.YtmnemfeofhinaaaDoorP5
set_option linter.unusedSimpArgs false
set_option linter.unusedVariables false
set_option linter.unusedSectionVars false
namespace Go.Proofs.YtmnemfeofhinaaaDoor
set_option maxRecDepth 100000
open Go Go.Mini Go.Proofs.Tryd

theorem xor_ne (b c : Int) (hb : 0 ≤ b ∧ b ≤ 255) (hc : 1 ≤ c ∧ c ≤ 255) :
    (((UInt8.ofNat (IntKind.u8.wrap ((((b % 2 ^ IntKind.u8.bits).toNat ^^^ (c % 2 ^ IntKind.u8.bits).toNat : Nat)) : Int)).toNat).toNat : Nat) : Int) ≠ b := by
  obtain ⟨b, rfl⟩ := Int.eq_ofNat_of_zero_le hb.1
  obtain ⟨c, rfl⟩ := Int.eq_ofNat_of_zero_le (show 0 ≤ c by omega)
  have e1 : ((b : Int) % 2 ^ IntKind.u8.bits).toNat = b := by rw [show (2 : Int) ^ IntKind.u8.bits = 256 from rfl]; omega
  have e2 : ((c : Int) % 2 ^ IntKind.u8.bits).toNat = c := by rw [show (2 : Int) ^ IntKind.u8.bits = 256 from rfl]; omega
  rw [e1, e2]
  have hlt : b ^^^ c < 2 ^ 8 := Nat.xor_lt_two_pow (by omega) (by omega)
  rw [IntWalk.u8_in _ (by omega), ofNat_toNat _ (by omega)]
  intro h
  have h1 : b ^^^ c = b := by omega
  have h2 : b ^^^ (b ^^^ c) = c := by rw [← Nat.xor_assoc, Nat.xor_self, Nat.zero_xor]
  rw [h1, Nat.xor_self] at h2
  omega
theorem xor_ne2 (x : Int) (c : Nat) (hx : 0 ≤ x ∧ x ≤ 255) (hc : 1 ≤ c ∧ c ≤ 255) :
    (((UInt8.ofNat (IntKind.u8.wrap ((((x % 2 ^ IntKind.u8.bits).toNat ^^^ c % 2 ^ IntKind.u8.bits : Nat)) : Int)).toNat).toNat : Nat) : Int) ≠ x := by
  have h := xor_ne x c hx (by omega)
  have e : ((c : Int) % 2 ^ IntKind.u8.bits).toNat = c % 2 ^ IntKind.u8.bits := by
    rw [show (2 : Int) ^ IntKind.u8.bits = 256 from rfl, show (2 : Nat) ^ IntKind.u8.bits = 256 from rfl]; omega
  rw [e] at h
  exact h
section
variable {h : Hp} {K : Value → Hp → Prop}
set_option maxHeartbeats 8000000 in
theorem configSpoilt_call {gs : List Gu} {ws : List Win} {L : List (Ch × Value)} {vg vw vc : Value} {a b : Nat} (hv : CfT h gs ws L vg vw vc) (hE : HasErr h) (h100 : 100 < h.next) (ha : a < 65536) (hb : b < 256) (hK : ∀ h', K (.bool true) h') : ACall prog 4 [.agg #[vg, vw, vc], .int .u16 a, .int .u8 b] h K := by
  refine acallF_of tb0 func4 rfl rfl mixed (by kernel_rfl) fun hwf => ?_
  obtain ⟨ag, cg, e1⟩ := hv.v.g.slice
  obtain ⟨aw, cw, e2⟩ := hv.v.w.slice
  obtain ⟨ac, cc, e3⟩ := hv.v.c.sl.slice
  subst e1 e2 e3
  obtain ⟨cs, hcs⟩ : ∃ cs, cs = L.map (·.1) := ⟨_, rfl⟩
  obtain ⟨o, ho⟩ : ∃ o, o = chkC gs ws cs := ⟨_, rfl⟩
  obtain ⟨H, hH⟩ : ∃ H, H = h.alloc ⟨#[.slice ag gs.length cg, .slice aw ws.length cw, .slice ac L.length cc], 1, true⟩ := ⟨_, rfl⟩
  have xH : Ext h H := by rw [hH]; exact Ext.alloc _ _
  have Hn : H.next = h.next + 1 := by rw [hH]; simp
  have BH : H.blks h.next = some ⟨#[.slice ag gs.length cg, .slice aw ws.length cw, .slice ac L.length cc], 1, true⟩ := by rw [hH]; exact blks_alloc_eq _ _
  simp -dsimp (disch := omega)
  rw [← hH]
  refine build_call (hv.ext xH).v fun h2 v2 x2 he2 => ?_
  rw [← hcs, ← ho] at he2
  rw [← hcs]
  have B2 := (x2.same h.next (by omega)).trans BH
  have x02 := xH.trans x2
  have x02n := x02.le
  have n100 : 100 < h2.next := Nat.lt_of_lt_of_le h100 x02n
  have E2 := hE.ext x02 h100
  obtain ⟨B, hB⟩ : ∃ B, B = bldO gs ws cs := ⟨_, rfl⟩
  rw [← hB]
  simp -dsimp (disch := omega) [B2]
  refine few_call ((hv.ext xH).ext x2).v ?_
  cases hf : fewL gs ws (L.map (·.1)) with
  | false =>
    simp -dsimp (disch := omega)
    refine awake_call E2 n100 ?_
    simp -dsimp (disch := omega)
    exact RetF.all (by simp) (hK _)
  | true =>
    cases o with
    | some z =>
      obtain ⟨f, at_, n⟩ := z
      obtain ⟨p, rfl, _, _⟩ := he2
      simp -dsimp (disch := omega)
      refine awake_call E2 n100 ?_
      simp -dsimp (disch := omega)
      exact RetF.all (by simp) (hK _)
    | none =>
      obtain rfl : v2 = .nilIface := he2
      by_cases hb0 : b = 0
      · subst hb0
        simp -dsimp (disch := omega)
        refine awake_call E2 n100 ?_
        simp -dsimp (disch := omega)
        exact RetF.all (by simp) (hK _)
      have hb0' : ¬ (b : Int) = 0 := by omega
      have hBB : B = bldB gs ws cs := by rw [hB]; unfold bldO; rw [← ho, if_pos rfl]
      have hbl := bld_len (chkC_none ho.symm) hv.v.gok
      have hsf := fun i c' => spoilt_flt (gs := gs) (ws := ws) (cs := cs) (i := i) (c' := c')
      rw [← hBB] at hbl hsf
      have hsz : (txt B).size = B.length := rfl
      have hnz : ¬ B = [] := fun e => by rw [e] at hbl; simp at hbl
      obtain ⟨N, hN⟩ : ∃ N, N = B.length := ⟨_, rfl⟩
      have hNi : ¬ (N : Int) = 0 := by omega
      have hNn : ¬ N = 0 := by omega
      rw [← hN] at hsz
      obtain ⟨i, hi⟩ : ∃ i, i = a % N := ⟨_, rfl⟩
      have hi1 : i < N := by rw [hi]; exact Nat.mod_lt _ (by omega)
      have hi2 : (a : Int) % N = i := by rw [hi]; omega
      have x1 : (txt B).extract 0 i = txt (B.take i) := by rw [ext_txt]; rfl
      have x3 : (txt B).extract (i + 1) N = txt (B.drop (i + 1)) := by
        rw [ext_txt, List.take_of_length_le (by rw [List.length_drop]; omega)]
      have y1 : (txt (B.take i)).size = i := by rw [txt_size, List.length_take]; omega
      have y2 : (txt (B.drop (i + 1))).size = N - (i + 1) := by rw [txt_size, List.length_drop]; omega
      simp -dsimp (disch := first | omega | (simp; omega)) [hb0, hb0', hsz, hNi, hNn, hi2, x1, x3, y1, y2]
      obtain ⟨C, hC⟩ : ∃ C : UInt8, C = UInt8.ofNat (IntKind.u8.wrap ((((bAt (txt B) i % 2 ^ IntKind.u8.bits).toNat ^^^ b % 2 ^ IntKind.u8.bits : Nat)) : Int)).toNat := ⟨_, rfl⟩
      have hCn : (C.toNat : Int) ≠ bAt (txt B) i := by rw [hC]; exact xor_ne2 _ _ (bAt_range _ _) (by omega)
      rw [← hC]
      obtain ⟨z, hz, hz1, hz2, hz3⟩ := hsf i C (by omega) hCn
      obtain ⟨f, at_, n⟩ := z
      have hTl : (B.take i ++ C :: B.drop (i + 1)).length = N := by rw [List.length_append, List.length_cons, List.length_take, List.length_drop]; omega
      refine parses_call (by omega) fun h3 v3 x3 he3 => ?_
      rw [hz] at he3
      have he3' : IsEr h3 (.flt f at_ n) v3 := he3
      have x03 := x02.trans ((Ext.alloc _ _).trans x3)
      have hf0 : ¬ f = txt [] := hz1
      have ha0 : (0 : Int) ≤ at_ := hz2
      obtain ⟨p, rfl, hp, hpn⟩ := he3
      simp -dsimp (disch := omega)
      refine where_call he3' (hE.ext x03 h100) (Nat.lt_of_lt_of_le h100 x03.le) ?_
      simp -dsimp (disch := omega) [Er.field, Er.place, hf0, ha0]
      refine awake_call (hE.ext x03 h100) (Nat.lt_of_lt_of_le h100 x03.le) ?_
      simp -dsimp (disch := omega)
      exact RetF.all (by simp) (hK _)
end
end Go.Proofs.YtmnemfeofhinaaaDoor
