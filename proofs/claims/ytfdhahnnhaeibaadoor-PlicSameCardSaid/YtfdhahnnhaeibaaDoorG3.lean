/-
  Calls, may; what registers tell.
-/
import Derived.Test.YtfdhahnnhaeibaaDoorG2
set_option linter.unusedSimpArgs false
set_option linter.unusedVariables false
set_option linter.unusedSectionVars false
namespace Go.Proofs.YtfdhahnnhaeibaaDoor
open Go Go.Mini Go.Proofs.Tryd
set_option maxRecDepth 100000

def callsS (s : St) (c : Nat) : Bool := decide (0 < bestS s c) && decide (s.th c < s.pr (bestS s c))
theorem bestS_lt (s : St) (c : Nat) : bestS s c < 8 := by
  have := bestK_lt s c 8
  unfold bestS
  omega
section
variable {h : Hp} {K : Value → Hp → Prop} {p : Nat} {s : St}
theorem calls_call {c : Nat} (hb : h.blks p = some ⟨stC s, 1, true⟩) (hs : s.ok) (hc : c < 2) (hp : p < h.next) (hK : K (.bool (callsS s c)) h) : ACall prog 12 [ptr p, .int .i64 c] h K := by
  refine acallF_of tb0 func12 rfl rfl mixed (by kernel_rfl) fun hwf => ?_
  have c1 : ¬ (c : Int) < 0 := by omega
  have c2 : ¬ (2 : Int) ≤ c := by omega
  have c2n : ¬ 2 ≤ c := by omega
  simp -dsimp (disch := omega)
  refine is_call hb ?_
  simp -dsimp (disch := omega) [c1, c2, c2n]
  refine best_call hb hs hc hp ?_
  have hbl := bestS_lt s c
  unfold callsS at hK
  have p1 := hs.pr (bestS s c)
  have p2 := hs.th c
  have a1 := stC_pr s hbl
  have a2 := stC_th s hc
  generalize bestS s c = n at *
  by_cases h0 : 0 < n
  · have h0' : (0 : Int) < n := by omega
    rw [decide_eq_true h0, Bool.true_and] at hK
    simp -dsimp (disch := omega) [h0, h0', hb, a1, a2]
    refine RetF.same (r := .bool (decide ((s.th c : Int) < s.pr n))) hwf (by simp) (Nat.zero_le _) (fun _ _ => rfl) ?_
    rw [show decide ((s.th c : Int) < s.pr n) = decide (s.th c < s.pr n) from by rw [decide_eq_decide]; omega]
    exact hK
  · have h0' : ¬ (0 : Int) < n := by omega
    rw [decide_eq_false h0, Bool.false_and] at hK
    simp -dsimp (disch := omega) [h0, h0']
    exact RetF.same hwf (by simp) (Nat.zero_le _) (fun _ _ => rfl) hK
theorem none_call {n : Int} (hK : K (.int .u64 0) h) : ACall prog 41 [ptr p, .int .i64 n] h K := by
  refine acallF_of tb0 func41 rfl rfl mixed (by kernel_rfl) fun hwf => ?_
  simp -dsimp (disch := omega)
  exact RetF.same hwf (by simp) (Nat.zero_le _) (fun _ _ => rfl) hK
theorem nothing_call {n v : Int} (hK : K (.tuple #[]) h) : ACall prog 42 [ptr p, .int .i64 n, .int .u64 v] h K := by
  refine acallF_of tb0 func42 rfl rfl mixed (by kernel_rfl) fun hwf => ?_
  simp -dsimp (disch := omega)
  exact RetF.same hwf (by simp) (Nat.zero_le _) (fun _ _ => rfl) hK
theorem priority_call {n : Nat} (hb : h.blks p = some ⟨stC s, 1, true⟩) (hs : s.ok) (hn : n < 8) (hK : K (.int .u64 (s.pr n : Nat)) h) : ACall prog 43 [ptr p, .int .i64 n] h K := by
  refine acallF_of tb0 func43 rfl rfl mixed (by kernel_rfl) fun hwf => ?_
  have a1 := stC_pr s hn
  have p1 := hs.pr n
  simp -dsimp (disch := omega) [hb, a1]
  exact RetF.same hwf (by simp) (Nat.zero_le _) (fun _ _ => rfl) hK
theorem enabled_call {c : Nat} (hb : h.blks p = some ⟨stC s, 1, true⟩) (hs : s.ok) (hc : c < 2) (hK : K (.int .u64 (s.en c : Nat)) h) : ACall prog 46 [ptr p, .int .i64 c] h K := by
  refine acallF_of tb0 func46 rfl rfl mixed (by kernel_rfl) fun hwf => ?_
  have a1 := stC_en s hc
  have p1 := hs.en c
  simp -dsimp (disch := omega) [hb, a1]
  exact RetF.same hwf (by simp) (Nat.zero_le _) (fun _ _ => rfl) hK
theorem threshold_call {c : Nat} (hb : h.blks p = some ⟨stC s, 1, true⟩) (hs : s.ok) (hc : c < 2) (hK : K (.int .u64 (s.th c : Nat)) h) : ACall prog 48 [ptr p, .int .i64 c] h K := by
  refine acallF_of tb0 func48 rfl rfl mixed (by kernel_rfl) fun hwf => ?_
  have a1 := stC_th s hc
  have p1 := hs.th c
  simp -dsimp (disch := omega) [hb, a1]
  exact RetF.same hwf (by simp) (Nat.zero_le _) (fun _ _ => rfl) hK
def mayN (off : Nat) (w : Int) : Bool := decide (w = 4) && decide (off % 4 = 0) && decide (off < 2105344)
theorem may_call {off : Nat} {w : Int} (hb : h.blks p = some ⟨stC s, 1, true⟩) (ho : off < 18446744073709551616) (hK : K (.bool (mayN off w)) h) : ACall prog 33 [ptr p, .int .u64 off, .int .i64 w] h K := by
  refine acallF_of tb0 func33 rfl rfl mixed (by kernel_rfl) fun hwf => ?_
  simp -dsimp (disch := omega)
  refine is_call hb ?_
  unfold mayN at hK
  obtain ⟨r, hr⟩ : ∃ r, r = off % 4 := ⟨_, rfl⟩
  rw [← hr] at hK
  have e1 : (off : Int) % 4 = r := by omega
  have e2 : Int.tmod (off : Int) 4 = r := by rw [Int.tmod_eq_emod_of_nonneg (by omega)]; exact e1
  by_cases c1 : w = 4
  · rw [decide_eq_true c1, Bool.true_and] at hK
    by_cases c2 : r = 0
    · rw [decide_eq_true c2, Bool.true_and] at hK
      simp -dsimp (disch := omega) [c1, e1, e2, c2]
      refine RetF.same (r := .bool (decide ((off : Int) < 2105344))) hwf (by simp) (Nat.zero_le _) (fun _ _ => rfl) ?_
      rw [show decide ((off : Int) < 2105344) = decide (off < 2105344) from by rw [decide_eq_decide]; omega]
      exact hK
    · rw [decide_eq_false c2, Bool.false_and] at hK
      simp -dsimp (disch := omega) [c1, e1, e2, c2]
      exact RetF.same hwf (by simp) (Nat.zero_le _) (fun _ _ => rfl) hK
  · rw [decide_eq_false c1, Bool.false_and, Bool.false_and] at hK
    simp -dsimp (disch := omega) [c1]
    exact RetF.same hwf (by simp) (Nat.zero_le _) (fun _ _ => rfl) hK
end
end Go.Proofs.YtfdhahnnhaeibaaDoor
