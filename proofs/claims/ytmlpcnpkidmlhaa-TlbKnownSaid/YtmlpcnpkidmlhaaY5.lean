/-
  What is asked of entries: Add's, Drop's, Flush's, Wrote's closures.
-/
import Derived.Test.YtmlpcnpkidmlhaaY4
set_option linter.unusedSimpArgs false
set_option linter.unusedVariables false
set_option linter.unusedSectionVars false
namespace Go.Proofs.Ytmlpcnpkidmlhaa
set_option maxRecDepth 100000
open Go Go.Mini Go.Proofs.Try

def pgE (e x : Ent) : Bool := decide (x.satp = e.satp) && decide (x.vpn = e.vpn)
def tb23 : Nat → Marks := fun k => if k = 1 then ⟨[0, 1, 2, 3], fun _ => True⟩ else ⟨[], fun _ => True⟩
section
variable {h : Hp} {K : Value → Hp → Prop}
theorem add1_call {x e : Ent} {q : Nat} (hq : h.blks q = some ⟨entA e, 1, true⟩) (lq : q < h.next) (hK : K (.bool (pgE e x)) h) : ACall prog 23 [.agg (entA x), ptr q] h K := by
  refine acallF_of tb23 func23 rfl rfl mixed (by kernel_rfl) fun hwf => ?_
  have nq : ¬ q = h.next := by omega
  have key := @page_call
  unfold pgE at hK
  have k1 := fun H K' => @key H K' x
  have k2 := fun H K' => @key H K' e
  unfold entA at hq k1 k2 hwf ⊢
  simp -dsimp (disch := omega) [hq, nq, tb23]
  refine k1 _ _ ?_
  simp -dsimp (disch := omega) [hq, nq, tb23]
  refine k2 _ _ ?_
  simp -dsimp (disch := omega) [hq, nq, tb23]
  refine RetF.same (r := .bool (decide ((x.satp : Int) = e.satp) && decide ((x.vpn : Int) = e.vpn))) hwf (by simp) (Nat.zero_le _) (fun i hi => by simp (disch := omega)) ?_
  rw [show (decide ((x.satp : Int) = e.satp) && decide ((x.vpn : Int) = e.vpn)) = (decide (x.satp = e.satp) && decide (x.vpn = e.vpn)) from by rw [Bool.eq_iff_iff]; simp; omega]
  exact hK
theorem drop1_call {x : Ent} {q va : Nat} (hq : h.blks q = some ⟨#[.int .u64 va], 1, true⟩) (lq : q < h.next) (hv : va < 18446744073709551616) (hK : K (.bool (decide (x.vpn = va / 4096))) h) : ACall prog 27 [.agg (entA x), ptr q] h K := by
  refine acallF_of tb0 func27 rfl rfl mixed (by kernel_rfl) fun hwf => ?_
  have nq : ¬ q = h.next := by omega
  have e1 := shr_u64 va 12 (by omega)
  obtain ⟨d, hd⟩ : ∃ d, d = va / 4096 := ⟨_, rfl⟩
  rw [show va / 2 ^ 12 = d from hd.symm] at e1
  rw [← hd] at hK
  unfold entA at hwf ⊢
  simp -dsimp (disch := omega) [hq, nq, e1]
  refine RetF.same (r := .bool (decide ((x.vpn : Int) = d))) hwf (by simp) (Nat.zero_le _) (fun i hi => by simp (disch := omega)) ?_
  rw [show decide ((x.vpn : Int) = d) = decide (x.vpn = d) from by rw [decide_eq_decide]; omega]
  exact hK
theorem flush1_call {x : Ent} (hK : K (.bool true) h) : ACall prog 28 [.agg (entA x)] h K := by
  refine acallF_of tb0 func28 rfl rfl mixed (by kernel_rfl) fun hwf => ?_
  unfold entA at hwf ⊢
  simp -dsimp (disch := omega)
  exact RetF.same hwf (by simp) (Nat.zero_le _) (fun i hi => by simp (disch := omega)) hK
/-- The first of r that is touched. -/
def fstR (r : Nat) (b0 b1 b2 : Bool) : Int := if 0 < r ∧ b0 = true then 0 else if 1 < r ∧ b1 = true then 1 else if 2 < r ∧ b2 = true then 2 else -1
theorem idxR_call {e : Ent} {b q1 q2 a n c r : Nat} (hr : r ≤ 3) (hb : h.blks b = some ⟨entA e, 1, true⟩) (h1 : h.blks q1 = some ⟨#[.int .u64 a], 1, true⟩) (h2 : h.blks q2 = some ⟨#[.int .u64 n], 1, true⟩) (ha : a < 18446744073709551616) (hn : n < 18446744073709551616) (ho : e.a0 < 18446744073709551616 ∧ e.a1 < 18446744073709551616 ∧ e.a2 < 18446744073709551616)
    (hK : K (.int .i64 (fstR r (tch a n e.a0) (tch a n e.a1) (tch a n e.a2))) h) : ACall prog 37 [.slice (some ⟨b, 4, none⟩) r c, fnV 32 [ptr q1, ptr q2]] h K := by
  refine acallF_of tb0 func37 rfl rfl mixed (by kernel_rfl) fun hwf => ?_
  unfold entA at hb
  obtain ⟨b0, hb0⟩ : ∃ x, x = tch a n e.a0 := ⟨_, rfl⟩
  obtain ⟨b1, hb1⟩ : ∃ x, x = tch a n e.a1 := ⟨_, rfl⟩
  obtain ⟨b2, hb2⟩ : ∃ x, x = tch a n e.a2 := ⟨_, rfl⟩
  rw [← hb0, ← hb1, ← hb2] at hK
  simp -dsimp (disch := omega)
  refine awp_loop (fun t h' => h' = h ∧ ∃ k : Nat, k ≤ r ∧ t 0 = .slice (some ⟨b, 4, none⟩) r c ∧ t 1 = fnV 32 [ptr q1, ptr q2] ∧ t 7 = .int .i64 r ∧ t 8 = .int .i64 k ∧ (0 < k → b0 = false) ∧ (1 < k → b1 = false) ∧ (2 < k → b2 = false)) (fun t _ => r - ivN (t 8)) ?_ ?_
  · simp -dsimp (disch := omega)
    exact ⟨0, by omega, rfl, fun h => absurd h (by omega), fun h => absurd h (by omega), fun h => absurd h (by omega)⟩
  · rintro t h' ⟨rfl, k, hk, g0, g1, g7, g8, k0, k1, k2⟩
    refine vcF_sound mixed (tb := tb0) _ (by kernel_rfl) ?_
    by_cases hc : k < r
    · have hci : (k : Int) < r := by omega
      rcases (by omega : k = 0 ∨ k = 1 ∨ k = 2) with rfl | rfl | rfl
      · simp -dsimp (disch := omega) [g0, g1, g7, g8, hb, hc, hci]
        refine one_call h1 h2 ha hn ho.1 ?_
        rw [← hb0]
        cases b0
        · simp -dsimp (disch := omega) [g0, g1, g7, g8]
          exact ⟨⟨1, by omega, rfl, fun h => absurd h (by omega), fun h => absurd h (by omega)⟩, by simp [ivN]; omega⟩
        · simp -dsimp (disch := omega) [g0, g1, g7, g8]
          exact RetF.same (r := .int .i64 0) hwf (by simp) (Nat.zero_le _) (fun _ _ => rfl) (by simpa [fstR, hc] using hK)
      · have kk : b0 = false := k0 (by omega)
        have hc1 : (1 : Int) < r := by omega
        simp -dsimp (disch := omega) [g0, g1, g7, g8, hb, hc, hci, hc1]
        refine one_call h1 h2 ha hn ho.2.1 ?_
        rw [← hb1]
        rw [kk] at hK
        cases b1
        · simp -dsimp (disch := omega) [g0, g1, g7, g8]
          exact ⟨⟨2, by omega, rfl, fun _ => kk, fun h => absurd h (by omega)⟩, by simp [ivN]; omega⟩
        · simp -dsimp (disch := omega) [g0, g1, g7, g8]
          exact RetF.same (r := .int .i64 1) hwf (by simp) (Nat.zero_le _) (fun _ _ => rfl) (by simpa [fstR, hc] using hK)
      · have kk : b0 = false := k0 (by omega)
        have kk1 : b1 = false := k1 (by omega)
        have hc1 : (2 : Int) < r := by omega
        simp -dsimp (disch := omega) [g0, g1, g7, g8, hb, hc, hci, hc1]
        refine one_call h1 h2 ha hn ho.2.2 ?_
        rw [← hb2]
        rw [kk, kk1] at hK
        cases b2
        · simp -dsimp (disch := omega) [g0, g1, g7, g8]
          exact ⟨⟨3, by omega, rfl, fun _ => kk, fun _ => kk1⟩, by simp [ivN]; omega⟩
        · simp -dsimp (disch := omega) [g0, g1, g7, g8]
          exact RetF.same (r := .int .i64 2) hwf (by simp) (Nat.zero_le _) (fun _ _ => rfl) (by simpa [fstR, hc] using hK)
    · have hkr : k = r := by omega
      subst hkr
      have hf : fstR k b0 b1 b2 = -1 := by
        unfold fstR
        rw [if_neg (fun q => by rw [k0 q.1] at q; cases q.2), if_neg (fun q => by rw [k1 q.1] at q; cases q.2), if_neg (fun q => by rw [k2 q.1] at q; cases q.2)]
      rw [hf] at hK
      simp -dsimp (disch := omega) [g0, g1, g7, g8, hb]
      exact RetF.same (r := .int .i64 (-1)) hwf (by simp) (Nat.zero_le _) (fun _ _ => rfl) hK
def anyR (r a n : Nat) (e : Ent) : Bool := (decide (0 < r) && tch a n e.a0) || (decide (1 < r) && tch a n e.a1) || (decide (2 < r) && tch a n e.a2)
theorem fstR_any (r a n : Nat) (e : Ent) : decide (0 ≤ fstR r (tch a n e.a0) (tch a n e.a1) (tch a n e.a2)) = anyR r a n e := by
  unfold fstR anyR
  by_cases h0 : 0 < r
  · cases tch a n e.a0
    · by_cases h1 : 1 < r
      · cases tch a n e.a1
        · by_cases h2 : 2 < r
          · cases tch a n e.a2 <;> simp [h0, h1, h2]
          · simp [h0, h1, h2]
        · simp [h0, h1]
      · simp [h0, h1, show ¬ 2 < r by omega]
    · simp [h0]
  · simp [h0, show ¬ 1 < r by omega, show ¬ 2 < r by omega]
theorem containsR_call {e : Ent} {b q1 q2 a n c r : Nat} (hr : r ≤ 3) (hb : h.blks b = some ⟨entA e, 1, true⟩) (h1 : h.blks q1 = some ⟨#[.int .u64 a], 1, true⟩) (h2 : h.blks q2 = some ⟨#[.int .u64 n], 1, true⟩) (ha : a < 18446744073709551616) (hn : n < 18446744073709551616) (ho : e.a0 < 18446744073709551616 ∧ e.a1 < 18446744073709551616 ∧ e.a2 < 18446744073709551616)
    (hK : K (.bool (anyR r a n e)) h) : ACall prog 31 [.slice (some ⟨b, 4, none⟩) r c, fnV 32 [ptr q1, ptr q2]] h K := by
  refine acallF_of tb0 func31 rfl rfl mixed (by kernel_rfl) fun hwf => ?_
  simp -dsimp (disch := omega)
  refine idxR_call hr hb h1 h2 ha hn ho ?_
  rw [← fstR_any] at hK
  obtain ⟨f, hf⟩ : ∃ f, f = fstR r (tch a n e.a0) (tch a n e.a1) (tch a n e.a2) := ⟨_, rfl⟩
  rw [← hf] at hK ⊢
  simp -dsimp (disch := omega)
  exact RetF.same (r := .bool (decide (0 ≤ f))) hwf (by simp) (Nat.zero_le _) (fun _ _ => rfl) hK
theorem wroteR_call {e : Ent} {q1 q2 a n r : Nat} (h1 : h.blks q1 = some ⟨#[.int .u64 n], 1, true⟩) (h2 : h.blks q2 = some ⟨#[.int .u64 a], 1, true⟩) (l1 : q1 < h.next) (l2 : q2 < h.next) (ha : a < 18446744073709551616) (hn : n < 18446744073709551616) (hn0 : 0 < n) (hrd : e.rd = (r : Nat)) (hr : r ≤ 3) (ho : e.a0 < 18446744073709551616 ∧ e.a1 < 18446744073709551616 ∧ e.a2 < 18446744073709551616)
    (hK : K (.bool (anyR r a n e)) h) : ACall prog 30 [.agg (entA e), ptr q1, ptr q2] h K := by
  refine acallF_of tb0 func30 rfl rfl mixed (by kernel_rfl) fun hwf => ?_
  obtain ⟨H, hH⟩ : ∃ H, H = h.alloc ⟨entA e, 1, true⟩ := ⟨_, rfl⟩
  have hB : H.blks h.next = some ⟨entA e, 1, true⟩ := by rw [hH]; exact blks_alloc_eq _ _
  have hS : ∀ i, i < h.next → H.blks i = h.blks i := fun i hi => by rw [hH]; exact blks_alloc_ne _ _ _ (by omega)
  have H1 : H.blks q1 = some ⟨#[.int .u64 n], 1, true⟩ := by rw [hS _ l1]; exact h1
  have H2 : H.blks q2 = some ⟨#[.int .u64 a], 1, true⟩ := by rw [hS _ l2]; exact h2
  have key := fun K' => @containsR_call H K' e h.next q2 q1 a n 6 r hr hB H2 H1 ha hn ho
  unfold entA at *
  rw [hrd] at *
  have asl : asliceRow ⟨h.next, 4, none⟩ 1 3 6 none (some (.int .i64 (r : Nat))) none = some (.slice (some ⟨h.next, 4, none⟩) r 6) := by
    have e1 : bndD (some (.int .i64 (r : Nat))) 3 3 = some r := by simp [bndD, bnd]; omega
    have e2 : bndD none r 0 = some 0 := by simp [bndD]
    unfold asliceRow
    simp only [show 6 / 2 = 3 from rfl, e1, e2]
    simp
  have hn0' : (0 : Int) < n := by omega
  simp -dsimp (disch := omega) [← hH, hB, H1, H2, hn0, hn0', asl]
  refine key _ ?_
  simp -dsimp (disch := omega)
  exact RetF.same (r := .bool (anyR r a n e)) hwf (by simp) (Nat.zero_le _) hS hK
end
end Go.Proofs.Ytmlpcnpkidmlhaa
