/-
  What is searched: closures, IndexFunc, ContainsFunc.
-/
import Derived.Test.YtmlpcnpkidmlhaaZ2
set_option linter.unusedSimpArgs false
set_option linter.unusedVariables false
set_option linter.unusedSectionVars false
namespace Go.Proofs.Ytmlpcnpkidmlhaa
open Go Go.Mini Go.Proofs.Try

abbrev fnV (f : Nat) (cs : List Value) : Value := .func (.func f) #[] cs.toArray
def tb36 : Nat → Marks := fun k => if k = 1 then ⟨[1, 2, 3], fun _ => True⟩ else ⟨[], fun _ => True⟩
@[simp] theorem tb36_l0 : (tb36 0).l = [] := rfl
@[simp] theorem tb36_l1 : (tb36 1).l = [1, 2, 3] := rfl
@[simp] theorem tb36_R (k x : Nat) : (tb36 k).R x := by unfold tb36; split <;> trivial
theorem wrap64 (x : Int) : IntKind.u64.wrap x = x % 18446744073709551616 := by simp [IntKind.wrap, IntKind.bits, IntKind.signed]
/-- Do bytes touch a word? -/
def tch (a n o : Nat) : Bool := decide ((a + 18446744073709551616 - o) % 18446744073709551616 < 8) || decide ((o + 18446744073709551616 - a) % 18446744073709551616 < n)

section
variable {h : Hp} {K : Value → Hp → Prop}
theorem page_call {e : Ent} (hK : K (.agg #[.int .u64 e.satp, .int .u64 e.vpn]) h) : ACall prog 24 [.agg (entA e)] h K := by
  refine acallF_of tb0 func24 rfl rfl mixed (by kernel_rfl) fun hwf => ?_
  unfold entA at *
  simp -dsimp (disch := omega)
  exact RetF.same (r := .agg #[.int .u64 e.satp, .int .u64 e.vpn]) hwf (by simp) (by simp [vtop, vtopL]) (fun i hi => by simp (disch := omega)) hK

theorem find_call {e : Ent} {q1 q2 sa va : Nat} (h1 : h.blks q1 = some ⟨#[.int .u64 sa], 1, true⟩) (h2 : h.blks q2 = some ⟨#[.int .u64 va], 1, true⟩) (l1 : q1 < h.next) (l2 : q2 < h.next) (hv : va < 18446744073709551616) (hK : K (.bool (decide (e.satp = sa) && decide (e.vpn = va / 4096))) h) : ACall prog 36 [.agg (entA e), ptr q1, ptr q2] h K := by
  refine acallF_of tb36 func36 rfl rfl mixed (by kernel_rfl) fun hwf => ?_
  have e1 := shr_u64 va 12 (by omega)
  obtain ⟨d, hd⟩ : ∃ d, d = va / 4096 := ⟨_, rfl⟩
  rw [show va / 2 ^ 12 = d from hd.symm] at e1
  rw [← hd] at hK
  have n1 : ¬ q1 = h.next := by omega
  have n2 : ¬ q2 = h.next := by omega
  have key := @page_call
  unfold entA at *
  simp -dsimp (disch := omega) [h1, h2, n1, n2]
  refine key (e := e) ?_
  simp -dsimp (disch := omega) [h1, h2, n1, n2, e1]
  refine RetF.same (r := .bool (decide ((e.satp : Int) = sa) && decide ((e.vpn : Int) = d))) hwf (by simp) (Nat.zero_le _) (fun i hi => by simp (disch := omega)) ?_
  rw [show (decide ((e.satp : Int) = sa) && decide ((e.vpn : Int) = d)) = (decide (e.satp = sa) && decide (e.vpn = d)) from by rw [Bool.eq_iff_iff]; simp; omega]
  exact hK

set_option maxRecDepth 100000 in
theorem touches_call {a n o : Nat} (ha : a < 18446744073709551616) (hn : n < 18446744073709551616) (ho : o < 18446744073709551616) (hK : K (.bool (tch a n o)) h) : ACall prog 33 [.int .u64 a, .int .u64 n, .int .u64 o] h K := by
  refine acallF_of tb0 func33 rfl rfl mixed (by kernel_rfl) fun hwf => ?_
  have e1 : IntKind.u64.wrap ((a : Int) - o) = (((a + 18446744073709551616 - o) % 18446744073709551616 : Nat) : Int) := by rw [wrap64]; omega
  have e2 : IntKind.u64.wrap ((o : Int) - a) = (((o + 18446744073709551616 - a) % 18446744073709551616 : Nat) : Int) := by rw [wrap64]; omega
  unfold tch at hK
  obtain ⟨x, hx⟩ : ∃ x, x = (a + 18446744073709551616 - o) % 18446744073709551616 := ⟨_, rfl⟩
  obtain ⟨y, hy⟩ : ∃ y, y = (o + 18446744073709551616 - a) % 18446744073709551616 := ⟨_, rfl⟩
  rw [← hx] at e1 hK
  rw [← hy] at e2 hK
  clear hx hy ha ho hn
  generalize (a : Int) = A at *
  generalize (o : Int) = O at *
  by_cases h8 : x < 8
  · have h8' : (x : Int) < 8 := by omega
    rw [decide_eq_true h8, Bool.true_or] at hK
    simp -dsimp (disch := omega) [e1, e2, h8, h8']
    exact RetF.same (r := .bool true) hwf (by simp) (Nat.zero_le _) (fun _ _ => rfl) hK
  · have h8' : ¬ (x : Int) < 8 := by omega
    rw [decide_eq_false h8, Bool.false_or] at hK
    simp -dsimp (disch := omega) [e1, e2, h8, h8']
    refine RetF.same (r := .bool (decide ((y : Int) < n))) hwf (by simp) (Nat.zero_le _) (fun _ _ => rfl) ?_
    rw [show decide ((y : Int) < n) = decide (y < n) from by rw [decide_eq_decide]; omega]
    exact hK

theorem one_call {o q1 q2 a n : Nat} (h1 : h.blks q1 = some ⟨#[.int .u64 a], 1, true⟩) (h2 : h.blks q2 = some ⟨#[.int .u64 n], 1, true⟩) (ha : a < 18446744073709551616) (hn : n < 18446744073709551616) (ho : o < 18446744073709551616) (hK : K (.bool (tch a n o)) h) : ACall prog 32 [.int .u64 o, ptr q1, ptr q2] h K := by
  refine acallF_of tb0 func32 rfl rfl mixed (by kernel_rfl) fun hwf => ?_
  simp -dsimp (disch := omega) [h1, h2]
  refine touches_call ha hn ho ?_
  simp -dsimp (disch := omega)
  exact RetF.same (r := .bool (tch a n o)) hwf (by simp) (Nat.zero_le _) (fun _ _ => rfl) hK

/-- The first of three that is touched. -/
def fst3 (b0 b1 b2 : Bool) : Int := if b0 then 0 else if b1 then 1 else if b2 then 2 else -1
set_option maxRecDepth 100000 in
theorem idx3_call {e : Ent} {b q1 q2 a n c : Nat} (hb : h.blks b = some ⟨entA e, 1, true⟩) (h1 : h.blks q1 = some ⟨#[.int .u64 a], 1, true⟩) (h2 : h.blks q2 = some ⟨#[.int .u64 n], 1, true⟩) (ha : a < 18446744073709551616) (hn : n < 18446744073709551616) (ho : e.a0 < 18446744073709551616 ∧ e.a1 < 18446744073709551616 ∧ e.a2 < 18446744073709551616)
    (hK : K (.int .i64 (fst3 (tch a n e.a0) (tch a n e.a1) (tch a n e.a2))) h) : ACall prog 37 [.slice (some ⟨b, 4, none⟩) 3 c, fnV 32 [ptr q1, ptr q2]] h K := by
  refine acallF_of tb0 func37 rfl rfl mixed (by kernel_rfl) fun hwf => ?_
  unfold entA at hb
  obtain ⟨b0, hb0⟩ : ∃ x, x = tch a n e.a0 := ⟨_, rfl⟩
  obtain ⟨b1, hb1⟩ : ∃ x, x = tch a n e.a1 := ⟨_, rfl⟩
  obtain ⟨b2, hb2⟩ : ∃ x, x = tch a n e.a2 := ⟨_, rfl⟩
  rw [← hb0, ← hb1, ← hb2] at hK
  simp -dsimp (disch := omega)
  refine awp_loop (fun t h' => h' = h ∧ ∃ k : Nat, k ≤ 3 ∧ t 0 = .slice (some ⟨b, 4, none⟩) 3 c ∧ t 1 = fnV 32 [ptr q1, ptr q2] ∧ t 7 = .int .i64 3 ∧ t 8 = .int .i64 k ∧ (0 < k → b0 = false) ∧ (1 < k → b1 = false) ∧ (2 < k → b2 = false)) (fun t _ => 3 - ivN (t 8)) ?_ ?_
  · simp -dsimp (disch := omega)
    exact ⟨0, by omega, rfl, fun h => absurd h (by omega), fun h => absurd h (by omega), fun h => absurd h (by omega)⟩
  · rintro t h' ⟨rfl, k, hk, g0, g1, g7, g8, k0, k1, k2⟩
    refine vcF_sound mixed (tb := tb0) _ (by kernel_rfl) ?_
    rcases (by omega : k = 0 ∨ k = 1 ∨ k = 2 ∨ k = 3) with rfl | rfl | rfl | rfl
    · simp -dsimp (disch := omega) [g0, g1, g7, g8, hb]
      refine one_call h1 h2 ha hn ho.1 ?_
      rw [← hb0]
      cases b0
      · simp -dsimp (disch := omega) [g0, g1, g7, g8]
        exact ⟨⟨1, by omega, rfl, fun h => absurd h (by omega), fun h => absurd h (by omega)⟩, by simp [ivN]⟩
      · simp -dsimp (disch := omega) [g0, g1, g7, g8]
        exact RetF.same (r := .int .i64 0) hwf (by simp) (Nat.zero_le _) (fun _ _ => rfl) hK
    · have kk : b0 = false := k0 (by omega)
      skip
      simp -dsimp (disch := omega) [g0, g1, g7, g8, hb]
      refine one_call h1 h2 ha hn ho.2.1 ?_
      rw [← hb1]
      rw [kk] at hK
      cases b1
      · simp -dsimp (disch := omega) [g0, g1, g7, g8]
        exact ⟨⟨2, by omega, rfl, fun _ => kk, fun h => absurd h (by omega)⟩, by simp [ivN]⟩
      · simp -dsimp (disch := omega) [g0, g1, g7, g8]
        exact RetF.same (r := .int .i64 1) hwf (by simp) (Nat.zero_le _) (fun _ _ => rfl) hK
    · have kk : b0 = false := k0 (by omega)
      have kk1 : b1 = false := k1 (by omega)
      simp -dsimp (disch := omega) [g0, g1, g7, g8, hb]
      refine one_call h1 h2 ha hn ho.2.2 ?_
      rw [← hb2]
      rw [kk, kk1] at hK
      cases b2
      · simp -dsimp (disch := omega) [g0, g1, g7, g8]
        exact ⟨⟨3, by omega, rfl, fun _ => kk, fun _ => kk1⟩, by simp [ivN]⟩
      · simp -dsimp (disch := omega) [g0, g1, g7, g8]
        exact RetF.same (r := .int .i64 2) hwf (by simp) (Nat.zero_le _) (fun _ _ => rfl) hK
    · rw [k0 (by omega), k1 (by omega), k2 (by omega)] at hK
      simp -dsimp (disch := omega) [g0, g1, g7, g8, hb]
      exact RetF.same (r := .int .i64 (-1)) hwf (by simp) (Nat.zero_le _) (fun _ _ => rfl) hK
end
end Go.Proofs.Ytmlpcnpkidmlhaa
