/-
  Entries: may, May, page, Pa.
-/
import Derived.Test.YtmlpcnpkidmlhaaF
import Derived.Test.YtmlpcnpkidmlhaaT1
set_option linter.unusedSimpArgs false
set_option linter.unusedVariables false
set_option linter.unusedSectionVars false
namespace Go.Proofs.Ytmlpcnpkidmlhaa
open Go Go.Mini Go.Proofs.Try

def tb0 : Nat → Marks := fun _ => ⟨[], fun _ => False⟩
@[simp] theorem tb0_l (k : Nat) : (tb0 k).l = [] := id rfl
abbrev ptr (p : Nat) : Value := .pointer (some ⟨p, 0, none⟩)

structure Ent where
  satp : Nat
  vpn : Nat
  pte : Nat
  lev : Int
  a0 : Nat
  a1 : Nat
  a2 : Nat
  rd : Int
def Ent.ok (e : Ent) : Prop := e.satp < 18446744073709551616 ∧ e.vpn < 18446744073709551616 ∧ e.pte < 18446744073709551616
instance (e : Ent) : Decidable e.ok := by unfold Ent.ok; infer_instance
def entL (e : Ent) : List Value := [.int .u64 e.satp, .int .u64 e.vpn, .int .u64 e.pte, .int .i64 e.lev, .int .u64 e.a0, .int .u64 e.a1, .int .u64 e.a2, .int .i64 e.rd]
def entA (e : Ent) : Array Value := #[.int .u64 e.satp, .int .u64 e.vpn, .int .u64 e.pte, .int .i64 e.lev, .int .u64 e.a0, .int .u64 e.a1, .int .u64 e.a2, .int .i64 e.rd]
def mayB (e : Ent) : Bool := decide (0 ≤ e.lev ∧ e.lev < 3 ∧ 0 ≤ e.rd ∧ e.rd ≤ 3)

section
variable {h : Hp} {K : Value → Hp → Prop}
theorem may_call {e : Ent} (hK : K (.bool (mayB e)) h) : ACall prog 19 [.agg (entA e)] h K := by
  refine acallF_of tb0 func19 rfl rfl mixed (by kernel_rfl) fun hwf => ?_
  obtain ⟨sa, vp, pt, le, a0, a1, a2, rd⟩ := e
  unfold entA at *
  unfold mayB at hK
  simp only at hK
  by_cases h1 : 0 ≤ le
  · by_cases h2 : le < 3
    · by_cases h3 : 0 ≤ rd
      · simp -dsimp (disch := omega) [h1, h2, h3]
        refine RetF.same (r := .bool (decide (rd ≤ 3))) hwf (by simp) (Nat.zero_le _) (fun i hi => by simp (disch := omega)) ?_
        rw [show decide (rd ≤ 3) = decide (0 ≤ le ∧ le < 3 ∧ 0 ≤ rd ∧ rd ≤ 3) from by rw [decide_eq_decide]; omega]
        exact hK
      · rw [decide_eq_false fun h => h3 h.2.2.1] at hK
        simp -dsimp (disch := omega) [h1, h2, h3]
        exact RetF.same hwf (by simp) (Nat.zero_le _) (fun i hi => by simp (disch := omega)) hK
    · rw [decide_eq_false fun h => h2 h.2.1] at hK
      simp -dsimp (disch := omega) [h1, h2]
      exact RetF.same hwf (by simp) (Nat.zero_le _) (fun i hi => by simp (disch := omega)) hK
  · rw [decide_eq_false fun h => h1 h.1] at hK
    simp -dsimp (disch := omega) [h1]
    exact RetF.same hwf (by simp) (Nat.zero_le _) (fun i hi => by simp (disch := omega)) hK
theorem refMay_call {e : Ent} (hK : K (.bool (mayB e)) h) : ACall prog 20 [.agg (entA e)] h K := by
  refine acallF_of tb0 func20 rfl rfl mixed (by kernel_rfl) fun hwf => ?_
  obtain ⟨sa, vp, pt, le, a0, a1, a2, rd⟩ := e
  unfold entA at *
  unfold mayB at hK
  simp only at hK
  by_cases h1 : 0 ≤ le
  · by_cases h2 : le ≤ 2
    · by_cases h3 : 0 ≤ rd
      · simp -dsimp (disch := omega) [h1, h2, h3]
        refine RetF.same (r := .bool (decide (rd ≤ 3))) hwf (by simp) (Nat.zero_le _) (fun i hi => by simp (disch := omega)) ?_
        rw [show decide (rd ≤ 3) = decide (0 ≤ le ∧ le < 3 ∧ 0 ≤ rd ∧ rd ≤ 3) from by rw [decide_eq_decide]; omega]
        exact hK
      · rw [decide_eq_false fun h => h3 h.2.2.1] at hK
        simp -dsimp (disch := omega) [h1, h2, h3]
        exact RetF.same hwf (by simp) (Nat.zero_le _) (fun i hi => by simp (disch := omega)) hK
    · rw [decide_eq_false fun h => by omega] at hK
      simp -dsimp (disch := omega) [h1, h2]
      exact RetF.same hwf (by simp) (Nat.zero_le _) (fun i hi => by simp (disch := omega)) hK
  · rw [decide_eq_false fun h => h1 h.1] at hK
    simp -dsimp (disch := omega) [h1]
    exact RetF.same hwf (by simp) (Nat.zero_le _) (fun i hi => by simp (disch := omega)) hK

/-- Where it leads. -/
def sE (e : Ent) : Nat := 12 + 9 * e.lev.toNat
def paE (e : Ent) (va : Nat) : Nat := if mayB e = true then paN (sE e) e.pte va else 0

set_option maxRecDepth 100000 in
theorem pa_call {e : Ent} {va : Nat} (ok : e.ok) (hv : va < 18446744073709551616) (hK : K (.int .u64 (paE e va)) h) : ACall prog 6 [.agg (entA e), .int .u64 va] h K := by
  refine acallF_of tb0 func6 rfl rfl mixed (by kernel_rfl) fun hwf => ?_
  unfold paE at hK
  by_cases hm : mayB e = true
  · rw [if_pos hm] at hK
    obtain ⟨m1, m2, m3, m4⟩ := of_decide_eq_true hm
    obtain ⟨sa, vp, pt, le, a0, a1, a2, rd⟩ := e
    obtain ⟨o1, o2, o3⟩ := ok
    simp only at m1 m2 m3 m4 o1 o2 o3
    have e10 := shr_u64 pt 10 (by omega)
    obtain ⟨d, hd⟩ : ∃ d, d = pt / 1024 := ⟨_, rfl⟩
    rw [show pt / 2 ^ 10 = d from hd.symm] at e10
    have hdl : d < 18446744073709551616 := by omega
    have aPg : ∀ (ty : TypeId) (xo yo : Operand), abin prog .and ty xo yo (.int .u64 (d : Nat)) (.int .u64 17592186044415) = some (.int .u64 ((d % 17592186044416 : Nat) : Int)) := abin_low d 44 17592186044415 (d % 17592186044416) (by omega) hdl (by rfl) rfl
    obtain ⟨g, hg⟩ : ∃ g, g = d % 17592186044416 := ⟨_, rfl⟩
    rw [← hg] at aPg
    obtain ⟨bs, hbs⟩ : ∃ b, b = g * 4096 := ⟨_, rfl⟩
    have hbsl : bs < 72057594037927936 := by omega
    have e12 := shl_u64 g 12 (by omega) bs (by rw [hbs]) (by omega)
    have hbE : baseE pt = bs := by unfold baseE; omega
    rcases (by omega : le = 0 ∨ le = 1 ∨ le = 2) with rfl | rfl | rfl
    · rw [show paN (sE ⟨sa, vp, pt, 0, a0, a1, a2, rd⟩) pt va = bs / 4096 * 4096 + va % 4096 from by rw [← hbE]; rfl] at hK
      have key := @may_call
      unfold entA at *
      have hmask : IntKind.u64.wrap (2 ^ min 12 IntKind.u64.bits) = 4096 := by decide +kernel
      have aH : ∀ (ty : TypeId) (xo yo : Operand), abin prog .andNot ty xo yo (.int .u64 (bs : Nat)) (.int .u64 4095) = some (.int .u64 ((bs / 4096 * 4096 : Nat) : Int)) := abin_high bs 12 4095 (bs / 4096 * 4096) (by omega) (by omega) (by rfl) rfl
      have aL : ∀ (ty : TypeId) (xo yo : Operand), abin prog .and ty xo yo (.int .u64 (va : Nat)) (.int .u64 4095) = some (.int .u64 ((va % 4096 : Nat) : Int)) := abin_low va 12 4095 (va % 4096) (by omega) hv (by rfl) rfl
      obtain ⟨x, hx⟩ : ∃ x, x = bs / 4096 * 4096 := ⟨_, rfl⟩
      obtain ⟨y, hy⟩ : ∃ y, y = va % 4096 := ⟨_, rfl⟩
      rw [← hx] at aH
      rw [← hy] at aL
      rw [← hx, ← hy] at hK
      have hxb : x ≤ bs := by omega
      have hyl : y < 4096 := by omega
      obtain ⟨z, hz⟩ : ∃ z, z = x + y := ⟨_, rfl⟩
      have aJ := abin_join (P := prog) x y 12 hyl (by omega) z hz (by omega)
      rw [← hz] at hK
      clear hx hy hz hg hd hbs
      simp -dsimp (disch := omega)
      refine key (e := ⟨sa, vp, pt, 0, a0, a1, a2, rd⟩) ?_
      rw [hm]
      simp -dsimp (disch := omega) [e10, aPg, e12, hmask, aH, aL, aJ, -abin_and, -abin_andNot, -abin_or]
      exact RetF.same (r := .int .u64 z) hwf (by simp) (Nat.zero_le _) (fun i hi => by simp (disch := omega)) hK
    · rw [show paN (sE ⟨sa, vp, pt, 1, a0, a1, a2, rd⟩) pt va = bs / 2097152 * 2097152 + va % 2097152 from by rw [← hbE]; rfl] at hK
      have key := @may_call
      unfold entA at *
      have hmask : IntKind.u64.wrap (2 ^ min 21 IntKind.u64.bits) = 2097152 := by decide +kernel
      have aH : ∀ (ty : TypeId) (xo yo : Operand), abin prog .andNot ty xo yo (.int .u64 (bs : Nat)) (.int .u64 2097151) = some (.int .u64 ((bs / 2097152 * 2097152 : Nat) : Int)) := abin_high bs 21 2097151 (bs / 2097152 * 2097152) (by omega) (by omega) (by rfl) rfl
      have aL : ∀ (ty : TypeId) (xo yo : Operand), abin prog .and ty xo yo (.int .u64 (va : Nat)) (.int .u64 2097151) = some (.int .u64 ((va % 2097152 : Nat) : Int)) := abin_low va 21 2097151 (va % 2097152) (by omega) hv (by rfl) rfl
      obtain ⟨x, hx⟩ : ∃ x, x = bs / 2097152 * 2097152 := ⟨_, rfl⟩
      obtain ⟨y, hy⟩ : ∃ y, y = va % 2097152 := ⟨_, rfl⟩
      rw [← hx] at aH
      rw [← hy] at aL
      rw [← hx, ← hy] at hK
      have hxb : x ≤ bs := by omega
      have hyl : y < 2097152 := by omega
      obtain ⟨z, hz⟩ : ∃ z, z = x + y := ⟨_, rfl⟩
      have aJ := abin_join (P := prog) x y 21 hyl (by omega) z hz (by omega)
      rw [← hz] at hK
      clear hx hy hz hg hd hbs
      simp -dsimp (disch := omega)
      refine key (e := ⟨sa, vp, pt, 1, a0, a1, a2, rd⟩) ?_
      rw [hm]
      simp -dsimp (disch := omega) [e10, aPg, e12, hmask, aH, aL, aJ, -abin_and, -abin_andNot, -abin_or]
      exact RetF.same (r := .int .u64 z) hwf (by simp) (Nat.zero_le _) (fun i hi => by simp (disch := omega)) hK
    · rw [show paN (sE ⟨sa, vp, pt, 2, a0, a1, a2, rd⟩) pt va = bs / 1073741824 * 1073741824 + va % 1073741824 from by rw [← hbE]; rfl] at hK
      have key := @may_call
      unfold entA at *
      have hmask : IntKind.u64.wrap (2 ^ min 30 IntKind.u64.bits) = 1073741824 := by decide +kernel
      have aH : ∀ (ty : TypeId) (xo yo : Operand), abin prog .andNot ty xo yo (.int .u64 (bs : Nat)) (.int .u64 1073741823) = some (.int .u64 ((bs / 1073741824 * 1073741824 : Nat) : Int)) := abin_high bs 30 1073741823 (bs / 1073741824 * 1073741824) (by omega) (by omega) (by rfl) rfl
      have aL : ∀ (ty : TypeId) (xo yo : Operand), abin prog .and ty xo yo (.int .u64 (va : Nat)) (.int .u64 1073741823) = some (.int .u64 ((va % 1073741824 : Nat) : Int)) := abin_low va 30 1073741823 (va % 1073741824) (by omega) hv (by rfl) rfl
      obtain ⟨x, hx⟩ : ∃ x, x = bs / 1073741824 * 1073741824 := ⟨_, rfl⟩
      obtain ⟨y, hy⟩ : ∃ y, y = va % 1073741824 := ⟨_, rfl⟩
      rw [← hx] at aH
      rw [← hy] at aL
      rw [← hx, ← hy] at hK
      have hxb : x ≤ bs := by omega
      have hyl : y < 1073741824 := by omega
      obtain ⟨z, hz⟩ : ∃ z, z = x + y := ⟨_, rfl⟩
      have aJ := abin_join (P := prog) x y 30 hyl (by omega) z hz (by omega)
      rw [← hz] at hK
      clear hx hy hz hg hd hbs
      simp -dsimp (disch := omega)
      refine key (e := ⟨sa, vp, pt, 2, a0, a1, a2, rd⟩) ?_
      rw [hm]
      simp -dsimp (disch := omega) [e10, aPg, e12, hmask, aH, aL, aJ, -abin_and, -abin_andNot, -abin_or]
      exact RetF.same (r := .int .u64 z) hwf (by simp) (Nat.zero_le _) (fun i hi => by simp (disch := omega)) hK
  · rw [if_neg hm] at hK
    have key := @may_call
    obtain ⟨sa, vp, pt, le, a0, a1, a2, rd⟩ := e
    unfold entA at *
    simp -dsimp (disch := omega)
    refine key (e := ⟨sa, vp, pt, le, a0, a1, a2, rd⟩) ?_
    rw [Bool.eq_false_iff.2 hm]
    simp -dsimp (disch := omega)
    exact RetF.same hwf (by simp) (Nat.zero_le _) (fun i hi => by simp (disch := omega)) hK
end
end Go.Proofs.Ytmlpcnpkidmlhaa
