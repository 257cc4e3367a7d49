/-
  TlbPlaces, TlbLeads.
-/
import Derived.Test.YtmlpcnpkidmlhaaZ6
import Derived.Test.YtmlpcnpkidmlhaaM26
set_option linter.unusedSimpArgs false
set_option linter.unusedVariables false
namespace Go.Proofs.Ytmlpcnpkidmlhaa
open Go Go.Mini Go.Proofs.Try

theorem leaves8 {a b c d e f g i : Leaf} {r : List Value} (h : leavesIn [a, b, c, d, e, f, g, i] r) : ∃ x0 x1 x2 x3 x4 x5 x6 x7, r = [x0, x1, x2, x3, x4, x5, x6, x7] ∧ leafIn a x0 ∧ leafIn b x1 ∧ leafIn c x2 ∧ leafIn d x3 ∧ leafIn e x4 ∧ leafIn f x5 ∧ leafIn g x6 ∧ leafIn i x7 := by
  match r, h with
  | [x0, x1, x2, x3, x4, x5, x6, x7], ⟨h0, h1, h2, h3, h4, h5, h6, h7, _⟩ => exact ⟨x0, x1, x2, x3, x4, x5, x6, x7, rfl, h0, h1, h2, h3, h4, h5, h6, h7⟩
def tb3 : Nat → Marks := fun k => if k = 1 then ⟨[2, 3], fun _ => True⟩ else ⟨[], fun _ => True⟩
@[simp] theorem tb3_l1 : (tb3 1).l = [2, 3] := rfl
@[simp] theorem tb3_l0 : (tb3 0).l = [] := rfl
@[simp] theorem tb3_R (k x : Nat) : (tb3 k).R x := by unfold tb3; split <;> trivial
def tb4 : Nat → Marks := fun k => if k = 4 then ⟨[2, 3], fun _ => True⟩ else ⟨[], fun _ => True⟩
@[simp] theorem tb4_l4 : (tb4 4).l = [2, 3] := rfl
@[simp] theorem tb4_l6 : (tb4 6).l = [] := rfl
@[simp] theorem tb4_R (k x : Nat) : (tb4 k).R x := by unfold tb4; split <;> trivial
section
variable {h : Hp} {K : Value → Hp → Prop}
theorem tlbPlaces_call {e : Ent} {va : Nat} (ok : e.ok) (hv : va < 18446744073709551616) (hK : ∀ h', (∀ i, i < h.next → h'.blks i = h.blks i) → K (.bool true) h') : ACall prog 3 [.agg (entA e), .int .u64 va] h K := by
  refine acallF_of tb3 func3 rfl rfl mixed (by kernel_rfl) fun hwf => ?_
  obtain ⟨H, hH⟩ : ∃ H, H = h.alloc ⟨entA e, 1, true⟩ := ⟨_, rfl⟩
  have hE : Ext h H := by rw [hH]; exact Ext.alloc h _
  have hB : H.blks h.next = some ⟨entA e, 1, true⟩ := by rw [hH]; exact blks_alloc_eq _ _
  have key := fun K' (hk : K' (.int .u64 (paE e va)) H) => @pa_call H K' e va ok hv hk
  have key2 := fun K' (hk : K' (.int .u64 (paE e va)) H) => @refPa_call H K' e va ok hv hk
  unfold entA at *
  simp -dsimp (disch := omega) [← hH, hB]
  refine key _ ?_
  simp -dsimp (disch := omega) [hB]
  refine key2 _ ?_
  simp -dsimp (disch := omega) [hB]
  refine works_call fun h2 e2 => ?_
  simp -dsimp (disch := omega)
  exact RetF.all (r := .bool true) (by simp) (hK _ (hE.trans e2).same)

set_option maxRecDepth 100000 in
set_option maxHeartbeats 4000000 in
theorem tlbLeads_call {e : Ent} {a b : Nat} (ok : e.ok) (ha : a < 18446744073709551616) (hb : b < 18446744073709551616) (hK : ∀ h', (∀ i, i < h.next → h'.blks i = h.blks i) → K (.bool true) h') : ACall prog 4 [.agg (entA e), .int .u64 a, .int .u64 b] h K := by
  refine acallF_of tb4 func4 rfl rfl mixed (by kernel_rfl) fun hwf => ?_
  obtain ⟨H, hH⟩ : ∃ H, H = h.alloc ⟨entA e, 1, true⟩ := ⟨_, rfl⟩
  have hE : Ext h H := by rw [hH]; exact Ext.alloc h _
  have hB : H.blks h.next = some ⟨entA e, 1, true⟩ := by rw [hH]; exact blks_alloc_eq _ _
  have key := fun K' (hk : K' (.int .u64 (paE e a)) H) => @pa_call H K' e a ok ha hk
  have keyb := fun K' (hk : K' (.int .u64 (paE e b)) H) => @pa_call H K' e b ok hb hk
  obtain ⟨o1, o2, o3⟩ := ok
  by_cases hm : mayB e = true
  · obtain ⟨m1, m2, m3, m4⟩ := of_decide_eq_true hm
    have c1 : ¬ e.lev < 0 := by omega
    have c2 : ¬ 2 < e.lev := by omega
    have c3 : ¬ e.rd < 0 := by omega
    have c4 : ¬ 3 < e.rd := by omega
    have hpa : ∀ x, paE e x = paN (sE e) e.pte x := fun x => by unfold paE; rw [if_pos hm]
    rw [hpa] at key keyb
    have e10 := shr_u64 e.pte 10 (by omega)
    obtain ⟨d, hd⟩ : ∃ d, d = e.pte / 1024 := ⟨_, rfl⟩
    rw [show e.pte / 2 ^ 10 = d from hd.symm] at e10
    have hdl : d < 18446744073709551616 := by omega
    have aPg : ∀ (ty : TypeId) (xo yo : Operand), abin prog .and ty xo yo (.int .u64 (d : Nat)) (.int .u64 17592186044415) = some (.int .u64 ((d % 17592186044416 : Nat) : Int)) := abin_low d 44 17592186044415 (d % 17592186044416) (by omega) hdl (by rfl) rfl
    obtain ⟨g, hg⟩ : ∃ g, g = d % 17592186044416 := ⟨_, rfl⟩
    rw [← hg] at aPg
    have hbE : baseE e.pte = g * 4096 := by unfold baseE; omega
    obtain ⟨l, hl⟩ : ∃ l : Nat, e.lev = l := ⟨e.lev.toNat, by omega⟩
    obtain ⟨s, hs⟩ : ∃ s, s = 12 + 9 * l := ⟨_, rfl⟩
    have hsE : sE e = s := by unfold sE; rw [hl, hs]; rfl
    rw [hsE] at key keyb
    have hsz := shl_u64 1 s (by omega) (2 ^ s) (by rw [Nat.one_mul]) (by have : 2 ^ s ≤ 2 ^ 30 := Nat.pow_le_pow_right (by omega) (by omega); omega)
    have hp := paN_lt s e.pte a (by omega)
    have hq := paN_lt s e.pte b (by omega)
    have hS0 : 0 < 2 ^ s := Nat.pow_pos (by omega)
    have hSl : 2 ^ s ≤ 2 ^ 30 := Nat.pow_le_pow_right (by omega) (by omega)
    have hpm : paN s e.pte a % 2 ^ s = a % 2 ^ s := by unfold paN; rw [Nat.mul_add_mod_self_right, Nat.mod_mod]
    have hpe : paN s e.pte a = g * 4096 / 2 ^ s * 2 ^ s + a % 2 ^ s := by unfold paN; rw [hbE]
    have hqe : paN s e.pte b = g * 4096 / 2 ^ s * 2 ^ s + b % 2 ^ s := by unfold paN; rw [hbE]
    have hbs := Nat.div_add_mod' (g * 4096) (2 ^ s)
    obtain ⟨S, hSS⟩ : ∃ S, S = 2 ^ s := ⟨_, rfl⟩
    rw [← hSS] at hsz hS0 hSl hpm hpe hqe hbs
    obtain ⟨p, hpp⟩ : ∃ p, p = paN s e.pte a := ⟨_, rfl⟩
    obtain ⟨q, hqq⟩ : ∃ q, q = paN s e.pte b := ⟨_, rfl⟩
    rw [← hpp] at key hp hpm hpe
    rw [← hqq] at keyb hq hqe
    obtain ⟨B, hBB⟩ : ∃ B, B = g * 4096 := ⟨_, rfl⟩
    rw [← hBB] at hpe hqe hbs
    obtain ⟨X, hX⟩ : ∃ X, X = B / S * S := ⟨_, rfl⟩
    obtain ⟨ra, hra⟩ : ∃ r, r = a % S := ⟨_, rfl⟩
    obtain ⟨rb, hrb⟩ : ∃ r, r = b % S := ⟨_, rfl⟩
    obtain ⟨rB, hrB⟩ : ∃ r, r = B % S := ⟨_, rfl⟩
    rw [← hX, ← hra] at hpe
    rw [← hX, ← hrb] at hqe
    rw [← hX, ← hrB] at hbs
    rw [← hra] at hpm
    have i1 : (p : Int) % S = ra := by rw [← hpm]; rfl
    have i2 : (a : Int) % S = ra := by rw [hra]; rfl
    have i3 : (b : Int) % S = rb := by rw [hrb]; rfl
    have i4 : (B : Int) % S = rB := by rw [hrB]; rfl
    have hgB : (g : Int) * 4096 = B := by omega
    have hsl : (12 : Int) + 9 * e.lev = s := by omega
    unfold entA at *
    simp -dsimp (disch := omega) [← hH, hB, c1, c2, c3, c4]
    refine key _ ?_
    simp -dsimp (disch := omega) [hB]
    refine keyb _ ?_
    have hsz' : IntKind.u64.wrap (2 ^ min s IntKind.u64.bits) = (S : Nat) := by rw [← hsz]; congr 1; omega
    have hS1 : ¬ (S : Int) = 0 := by omega
    have e56 := shr_u64 p 56 (by omega)
    have e56' : (p : Int).fdiv (2 ^ min 56 IntKind.u64.bits) = 0 := by rw [e56, Nat.div_eq_of_lt (by omega)]; rfl
    have j1 : (p : Int) - ra = X := by omega
    have j2 : (B : Int) - rB = X := by omega
    have j3 : (p : Int) - q = (ra : Int) - rb := by omega
    simp -dsimp (disch := omega) [hB, e10, aPg, hgB, hsl, hsz', hS1, i1, i2, i3, i4, j1, j2, j3, e56', -abin_and]
    refine works_call fun h2 e2 => ?_
    simp -dsimp (disch := omega)
    exact RetF.all (r := .bool true) (by simp) (hK _ (hE.trans e2).same)
  · have hpa : paE e a = 0 := by unfold paE; rw [if_neg hm]
    rw [hpa] at key
    have fin : ∀ h2, Ext H h2 → K (.bool true) h2 := fun h2 e2 => hK _ (hE.trans e2).same
    unfold entA at *
    by_cases c1 : e.lev < 0
    · simp -dsimp (disch := omega) [← hH, hB, c1]
      refine key _ ?_
      simp -dsimp (disch := omega) [hB]
      refine works_call fun h2 e2 => ?_
      simp -dsimp (disch := omega)
      exact RetF.all (r := .bool true) (by simp) (fin _ e2)
    · by_cases c2 : 2 < e.lev
      · simp -dsimp (disch := omega) [← hH, hB, c1, c2]
        refine key _ ?_
        simp -dsimp (disch := omega) [hB]
        refine works_call fun h2 e2 => ?_
        simp -dsimp (disch := omega)
        exact RetF.all (r := .bool true) (by simp) (fin _ e2)
      · by_cases c3 : e.rd < 0
        · simp -dsimp (disch := omega) [← hH, hB, c1, c2, c3]
          refine key _ ?_
          simp -dsimp (disch := omega) [hB]
          refine works_call fun h2 e2 => ?_
          simp -dsimp (disch := omega)
          exact RetF.all (r := .bool true) (by simp) (fin _ e2)
        · have c4 : 3 < e.rd := by
            by_cases c : 3 < e.rd
            · exact c
            · exact absurd (decide_eq_true (⟨by omega, by omega, by omega, by omega⟩ : 0 ≤ e.lev ∧ e.lev < 3 ∧ 0 ≤ e.rd ∧ e.rd ≤ 3)) hm
          simp -dsimp (disch := omega) [← hH, hB, c1, c2, c3, c4]
          refine key _ ?_
          simp -dsimp (disch := omega) [hB]
          refine works_call fun h2 e2 => ?_
          simp -dsimp (disch := omega)
          exact RetF.all (r := .bool true) (by simp) (fin _ e2)
end
end Go.Proofs.Ytmlpcnpkidmlhaa
