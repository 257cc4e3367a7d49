/-
  The document's Best and Calls.
-/
import Derived.Test.YtfdhahnnhaeibaaDoorQ1
set_option linter.unusedSimpArgs false
set_option linter.unusedVariables false
set_option linter.unusedSectionVars false
namespace Go.Proofs.YtfdhahnnhaeibaaDoor
open Go Go.Mini Go.Proofs.Tryd
set_option maxRecDepth 100000

section
variable {h : Hp} {K : Value → Hp → Prop} {p : Nat} {s : St}
set_option maxHeartbeats 1000000 in
theorem refBest_call {c : Nat} (q : Inv2 s) (hb : h.blks p = some ⟨rC s, 1, true⟩) (hc : c < 2) (hK : K (.int .i64 (bestS s c : Nat)) h) : ACall prog 28 [ptr p, .int .i64 c] h K := by
  refine acallF_of tb0 func28 rfl rfl mixed (by kernel_rfl) fun hwf => ?_
  simp -dsimp (disch := omega)
  refine awp_loop (fun t h' => h' = h ∧ ∃ P : Nat, P ≤ 7 ∧ t 0 = ptr p ∧ t 1 = .int .i64 c ∧ t 5 = .int .i64 P ∧ ∀ k, 1 ≤ k → k < 8 → counts s c k = true → s.pr k ≤ P) (fun t _ => ivN (t 5)) ?_ ?_
  · simp -dsimp (disch := omega)
    exact ⟨7, by omega, rfl, fun k _ _ _ => by have := q.pr k; omega⟩
  · rintro t h' ⟨rfl, P, hP7, t0, t1, t5, hPk⟩
    refine vcF_sound mixed (tb := tb0) _ (by kernel_rfl) ?_
    by_cases hP0 : 0 < P
    · have hP0' : (0 : Int) < P := by omega
      simp -dsimp (disch := omega) [t0, t1, t5, hP0, hP0']
      refine awp_loop (fun t2 h2 => h2 = h' ∧ ∃ i : Nat, 1 ≤ i ∧ i ≤ 8 ∧ t2 0 = ptr p ∧ t2 1 = .int .i64 c ∧ t2 5 = .int .i64 P ∧ t2 6 = .int .i64 i ∧ ∀ k, 1 ≤ k → k < i → counts s c k = true → s.pr k ≠ P) (fun t _ => 8 - ivN (t 6)) ?_ ?_
      · simp -dsimp (disch := omega) [t0, t1, t5]
        exact ⟨1, by omega, by omega, rfl, fun k _ _ => by omega⟩
      · rintro t2 h2 ⟨rfl, i, hi1, hi8, t0, t1, t5', t6, hik⟩
        refine vcF_sound mixed (tb := tb0) _ (by kernel_rfl) ?_
        by_cases hi : i < 8
        · have hi' : (i : Int) < 8 := by omega
          have a1 : (rC s)[16 + i]? = some (.bool (s.pe i)) := rA_pe s (enB s) hi
          have a2 : (rC s)[32 + c * 8 + i]? = some (.bool (enB s c i)) := rA_en s (enB s) hc hi
          have a3 : (rC s)[i]? = some (.int .i64 (s.pr i)) := rA_pr s (enB s) hi
          have hcnt := counts_E (s := s) (c := c) (k := i)
          have next : ¬ (counts s c i = true ∧ s.pr i = P) → ∀ k, 1 ≤ k → k < i + 1 → counts s c k = true → s.pr k ≠ P := fun hn k k1 k2 k3 => by
            rcases Nat.lt_or_ge k i with h | h
            · exact hik k k1 h k3
            · obtain rfl : k = i := by omega
              exact fun e => hn ⟨k3, e⟩
          obtain ⟨C, hC⟩ : ∃ C, C = rC s := ⟨_, rfl⟩
          rw [← hC] at hb a1 a2 a3
          cases e1 : s.pe i with
          | false =>
            rw [e1] at a1 hcnt
            simp -dsimp (disch := omega) [t0, t1, t5', t6, hi, hi', hb, a1]
            exact ⟨⟨i + 1, by omega, by omega, by simp, next (by rw [hcnt]; simp)⟩, by simp [ivN]; omega⟩
          | true =>
            rw [e1] at a1 hcnt
            cases e2 : enB s c i with
            | false =>
              rw [e2] at a2 hcnt
              simp -dsimp (disch := omega) [t0, t1, t5', t6, hi, hi', hb, a1, a2]
              exact ⟨⟨i + 1, by omega, by omega, by simp, next (by rw [hcnt]; simp)⟩, by simp [ivN]; omega⟩
            | true =>
              rw [e2] at a2 hcnt
              by_cases e3 : s.pr i = P
              · have e3' : ((s.pr i : Nat) : Int) = P := by omega
                rw [best_found q hi1 hi (by rw [hcnt]; rfl) e3 hP0 hPk hik] at hK
                rw [e3] at a3
                simp -dsimp (disch := omega) [t0, t1, t5', t6, hi, hi', hb, a1, a2, a3, e3, e3']
                exact RetF.same hwf (by simp) (Nat.zero_le _) (fun _ _ => rfl) hK
              · have e3' : ¬ ((s.pr i : Nat) : Int) = P := by omega
                simp -dsimp (disch := omega) [t0, t1, t5', t6, hi, hi', hb, a1, a2, a3, e3, e3']
                exact ⟨⟨i + 1, by omega, by omega, by simp, next (fun h => e3 h.2)⟩, by simp [ivN]; omega⟩
        · obtain rfl : i = 8 := by omega
          have t6' : t2 6 = .int .i64 8 := t6
          simp -dsimp (disch := omega) [t0, t1, t5, t5', t6']
          refine ⟨⟨P - 1, by omega, by omega, fun k k1 k2 k3 => ?_⟩, by simp [ivN]; omega⟩
          have := hPk k k1 k2 k3
          have := hik k k1 k2 k3
          omega
    · obtain rfl : P = 0 := by omega
      have t5' : t 5 = .int .i64 0 := t5
      rw [best_none q hPk] at hK
      simp -dsimp (disch := omega) [t0, t1, t5']
      exact RetF.same hwf (by simp) (Nat.zero_le _) (fun _ _ => rfl) hK
theorem refCalls_call {c : Nat} (q : Inv2 s) (hb : h.blks p = some ⟨rC s, 1, true⟩) (hc : c < 2) (hp : p < h.next) (hK : K (.bool (callsS s c)) h) : ACall prog 13 [ptr p, .int .i64 c] h K := by
  refine acallF_of tb0 func13 rfl rfl mixed (by kernel_rfl) fun hwf => ?_
  have cc : ((c : Int) ≠ 0 ∧ (c : Int) ≠ 1) → False := by omega
  have bl := bestS_lt s c
  have a1 : ∀ n, n < 8 → (rC s)[n]? = some (.int .i64 (s.pr n)) := fun n hn => rA_pr s (enB s) hn
  have a2 : (rC s)[48 + c]? = some (.int .i64 (s.th c)) := rA_th s (enB s) hc
  obtain ⟨C, hC⟩ : ∃ C, C = rC s := ⟨_, rfl⟩
  unfold callsS at hK
  obtain ⟨T, hT⟩ : ∃ T, T = s.th c := ⟨_, rfl⟩
  rw [← hT] at a2 hK
  clear hT
  have hcc : c = 0 ∨ c = 1 := by omega
  rcases hcc with rfl | rfl
  all_goals
    simp -dsimp (disch := omega)
    first
      | refine refBest_call (c := 0) q hb (by omega) ?_
      | refine refBest_call (c := 1) q hb (by omega) ?_
    rw [← hC] at hb a1 a2
    generalize bestS s _ = b at *
    have a1 := a1 b bl
    by_cases h0 : 0 < b
    · have h0' : (0 : Int) < b := by omega
      rw [decide_eq_true h0, Bool.true_and] at hK
      simp -dsimp (disch := omega) [h0, h0', hb, a1, a2]
      refine RetF.same (r := .bool (decide ((T : Int) < s.pr b))) hwf (by simp) (Nat.zero_le _) (fun _ _ => rfl) ?_
      rw [show decide ((T : Int) < s.pr b) = decide (T < s.pr b) from by rw [decide_eq_decide]; omega]
      exact hK
    · have h0' : ¬ (0 : Int) < b := by omega
      rw [decide_eq_false h0, Bool.false_and] at hK
      simp -dsimp (disch := omega) [h0, h0']
      exact RetF.same hwf (by simp) (Nat.zero_le _) (fun _ _ => rfl) hK
theorem refCalls_no {c : Int} (hc : c < 0 ∨ 2 ≤ c) (hK : K (.bool false) h) : ACall prog 13 [ptr p, .int .i64 c] h K := by
  refine acallF_of tb0 func13 rfl rfl mixed (by kernel_rfl) fun hwf => ?_
  have c0 : ¬ c = 0 := by omega
  have c1 : ¬ c = 1 := by omega
  simp -dsimp (disch := omega) [c0, c1]
  exact RetF.same hwf (by simp) (Nat.zero_le _) (fun _ _ => rfl) hK
theorem calls_no {c : Int} (hb : h.blks p = some ⟨stC s, 1, true⟩) (hc : c < 0 ∨ 2 ≤ c) (hK : K (.bool false) h) : ACall prog 12 [ptr p, .int .i64 c] h K := by
  refine acallF_of tb0 func12 rfl rfl mixed (by kernel_rfl) fun hwf => ?_
  simp -dsimp (disch := omega)
  refine is_call hb ?_
  by_cases c0 : c < 0
  · simp -dsimp (disch := omega) [c0]
    exact RetF.same hwf (by simp) (Nat.zero_le _) (fun _ _ => rfl) hK
  · have c1 : 2 ≤ c := by omega
    simp -dsimp (disch := omega) [c0, c1]
    exact RetF.same hwf (by simp) (Nat.zero_le _) (fun _ _ => rfl) hK
end
end Go.Proofs.YtfdhahnnhaeibaaDoor
