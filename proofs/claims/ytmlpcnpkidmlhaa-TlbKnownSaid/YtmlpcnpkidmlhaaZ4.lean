/-
  What is searched: ContainsFunc, Wrote's closure, IndexFunc of one entry at most, DeleteFunc.
-/
import Derived.Test.YtmlpcnpkidmlhaaZ3
set_option linter.unusedSimpArgs false
set_option linter.unusedVariables false
set_option linter.unusedSectionVars false
namespace Go.Proofs.Ytmlpcnpkidmlhaa
open Go Go.Mini Go.Proofs.Try

def any3 (a n : Nat) (e : Ent) : Bool := tch a n e.a0 || tch a n e.a1 || tch a n e.a2
section
variable {h : Hp} {K : Value → Hp → Prop}
theorem contains_call {e : Ent} {b q1 q2 a n c : Nat} (hb : h.blks b = some ⟨entA e, 1, true⟩) (h1 : h.blks q1 = some ⟨#[.int .u64 a], 1, true⟩) (h2 : h.blks q2 = some ⟨#[.int .u64 n], 1, true⟩) (ha : a < 18446744073709551616) (hn : n < 18446744073709551616) (ho : e.a0 < 18446744073709551616 ∧ e.a1 < 18446744073709551616 ∧ e.a2 < 18446744073709551616)
    (hK : K (.bool (any3 a n e)) h) : ACall prog 31 [.slice (some ⟨b, 4, none⟩) 3 c, fnV 32 [ptr q1, ptr q2]] h K := by
  refine acallF_of tb0 func31 rfl rfl mixed (by kernel_rfl) fun hwf => ?_
  simp -dsimp (disch := omega)
  refine idx3_call hb h1 h2 ha hn ho ?_
  unfold any3 at hK
  unfold fst3
  cases hb0 : tch a n e.a0
  · cases hb1 : tch a n e.a1
    · cases hb2 : tch a n e.a2
      · rw [hb0, hb1, hb2] at hK
        simp -dsimp (disch := omega)
        exact RetF.same (r := .bool false) hwf (by simp) (Nat.zero_le _) (fun _ _ => rfl) hK
      · rw [hb0, hb1, hb2] at hK
        simp -dsimp (disch := omega)
        exact RetF.same (r := .bool true) hwf (by simp) (Nat.zero_le _) (fun _ _ => rfl) hK
    · rw [hb0, hb1] at hK
      simp -dsimp (disch := omega)
      exact RetF.same (r := .bool true) hwf (by simp) (Nat.zero_le _) (fun _ _ => rfl) hK
  · rw [hb0] at hK
    simp -dsimp (disch := omega)
    exact RetF.same (r := .bool true) hwf (by simp) (Nat.zero_le _) (fun _ _ => rfl) hK

set_option maxRecDepth 100000 in
theorem wrote1_call {e : Ent} {q1 q2 a n : Nat} (h1 : h.blks q1 = some ⟨#[.int .u64 n], 1, true⟩) (h2 : h.blks q2 = some ⟨#[.int .u64 a], 1, true⟩) (l1 : q1 < h.next) (l2 : q2 < h.next) (ha : a < 18446744073709551616) (hn : n < 18446744073709551616) (hn0 : 0 < n) (hrd : e.rd = 3) (ho : e.a0 < 18446744073709551616 ∧ e.a1 < 18446744073709551616 ∧ e.a2 < 18446744073709551616)
    (hK : K (.bool (any3 a n e)) h) : ACall prog 30 [.agg (entA e), ptr q1, ptr q2] h K := by
  refine acallF_of tb0 func30 rfl rfl mixed (by kernel_rfl) fun hwf => ?_
  obtain ⟨H, hH⟩ : ∃ H, H = h.alloc ⟨entA e, 1, true⟩ := ⟨_, rfl⟩
  have hB : H.blks h.next = some ⟨entA e, 1, true⟩ := by rw [hH]; exact blks_alloc_eq _ _
  have hS : ∀ i, i < h.next → H.blks i = h.blks i := fun i hi => by rw [hH]; exact blks_alloc_ne _ _ _ (by omega)
  have H1 : H.blks q1 = some ⟨#[.int .u64 n], 1, true⟩ := by rw [hS _ l1]; exact h1
  have H2 : H.blks q2 = some ⟨#[.int .u64 a], 1, true⟩ := by rw [hS _ l2]; exact h2
  have key := fun K' => @contains_call H K' e h.next q2 q1 a n 6 hB H2 H1 ha hn ho
  unfold entA at *
  rw [hrd] at *
  have asl : asliceRow ⟨h.next, 4, none⟩ 1 3 6 none (some (.int .i64 3)) none = some (.slice (some ⟨h.next, 4, none⟩) 3 6) := rfl
  have hn0' : (0 : Int) < n := by omega
  simp -dsimp (disch := omega) [← hH, hB, H1, H2, hn0, hn0', asl]
  refine key _ ?_
  simp -dsimp (disch := omega)
  exact RetF.same (r := .bool (any3 a n e)) hwf (by simp) (Nat.zero_le _) hS hK

theorem idx35_nil {a : Option Addr} {c : Nat} {f : Value} (hK : K (.int .i64 (-1)) h) : ACall prog 35 [.slice a 0 c, f] h K := by
  refine acallF_of tb0 func35 rfl rfl mixed (by kernel_rfl) fun hwf => ?_
  simp -dsimp (disch := omega)
  refine awp_loop (fun t h' => h' = h ∧ t 7 = .int .i64 0 ∧ t 8 = .int .i64 0) (fun _ _ => 0) ?_ ?_
  · simp -dsimp (disch := omega)
  · rintro t h' ⟨rfl, g7, g8⟩
    refine vcF_sound mixed (tb := tb0) _ (by kernel_rfl) ?_
    simp -dsimp (disch := omega) [g7, g8]
    exact RetF.same (r := .int .i64 (-1)) hwf (by simp) (Nat.zero_le _) (fun _ _ => rfl) hK
theorem idx35_one {e : Ent} {sb c f : Nat} {cs : List Value} {b : Bool} (hb : h.blks sb = some ⟨entA e, 8, true⟩) (hcl : ∀ K', K' (.bool b) h → ACall prog f (.agg (entA e) :: cs) h K') (hK : K (.int .i64 (if b = true then 0 else -1)) h) : ACall prog 35 [.slice (some ⟨sb, 0, none⟩) 1 c, fnV f cs] h K := by
  refine acallF_of tb0 func35 rfl rfl mixed (by kernel_rfl) fun hwf => ?_
  simp -dsimp (disch := omega)
  refine awp_loop (fun t h' => h' = h ∧ ∃ k : Nat, k ≤ 1 ∧ t 0 = .slice (some ⟨sb, 0, none⟩) 1 c ∧ t 1 = fnV f cs ∧ t 7 = .int .i64 1 ∧ t 8 = .int .i64 k ∧ (0 < k → b = false)) (fun t _ => 1 - ivN (t 8)) ?_ ?_
  · simp -dsimp (disch := omega)
    exact ⟨0, by omega, rfl, fun h => absurd h (by omega)⟩
  · rintro t h' ⟨rfl, k, hk, g0, g1, g7, g8, hk0⟩
    refine vcF_sound mixed (tb := tb0) _ (by kernel_rfl) ?_
    rcases (by omega : k = 0 ∨ k = 1) with rfl | rfl
    · have hx : (entA e).extract 0 8 = entA e := rfl
      have hz : (entA e).size = 8 := rfl
      simp -dsimp (disch := omega) [g0, g1, g7, g8, hb, hx, hz]
      refine hcl _ ?_
      cases b
      · simp -dsimp (disch := omega) [g0, g1, g7, g8]
        exact ⟨⟨1, by omega, rfl⟩, by simp [ivN]⟩
      · simp -dsimp (disch := omega) [g0, g1, g7, g8]
        exact RetF.same (r := .int .i64 0) hwf (by simp) (Nat.zero_le _) (fun _ _ => rfl) hK
    · rw [hk0 (by omega)] at hK
      simp -dsimp (disch := omega) [g0, g1, g7, g8, hb]
      exact RetF.same (r := .int .i64 (-1)) hwf (by simp) (Nat.zero_le _) (fun _ _ => rfl) hK
end
end Go.Proofs.Ytmlpcnpkidmlhaa
